import Derived.Test.YtibaembmdcdbkaaPx
namespace Go.Proofs.Ytibaembmdcdbkaa
open Go.RowKit Alf

/-! alfilref08.Wrong, way by way -/

set_option maxHeartbeats 1600000 in
set_option maxRecDepth 100000 in
theorem v_board (b : List Int) (hb : BOk b) (t c e : Int) (v : Int) (hW : bWrong b = v) (hv : (v != 0) = true) (w : World) : Calls Try.prog 26 #[.agg (posC b t c e)] w fun x w' => x = .returned (.int .i64 v) ∧ Below w.heap.size w w' := by
  have HA := Lib.hid (Lies.start w (posO b t c e))
  have HB := Lib.hid hb
  have HZ := Lib.hid (pos_info b hb t c e)
  obtain ⟨hc1, hc2, hc3⟩ := lies_pos HB.out HA.out
  clear hb
  have HW := Lib.hid hW
  go_enter Try.func26, Try.ntmps26
  go_wp2_with (first
    | (refine load_at _ rfl rfl w.heap.size rfl b t c e HB.out HA.out.obj ?_)
    | (refine load_row rfl 37 _ rfl _ rfl 37 _ (0, 0) _ HA.out.obj Try.underlying37 rfl HZ.out ?_)
    | (go_at_call 33; refine (r3_Wrong b HB.out _).mono ?_; rw [HW.out]; rintro x w1 ⟨rfl, hb1⟩; have HA := Lib.hid (HA.out.step hb1); obtain ⟨hc1, hc2, hc3⟩ := lies_pos HB.out HA.out)
    | (go_at_call 28; refine (r8_Passed b HB.out t c e _).mono ?_; rintro x w1 ⟨rfl, hb1⟩; have HA := Lib.hid (HA.out.step hb1); obtain ⟨hc1, hc2, hc3⟩ := lies_pos HB.out HA.out)
    | (go_at_call 58; refine (r8_Has c _ (by have := HC0.out; omega) (by have := HC0.out; omega) (by simp) _).mono ?_; rintro x w1 ⟨rfl, rfl⟩)
    | (go_at_call 30; refine (r8_Backed b HB.out _ _).mono ?_; rintro x w1 ⟨rfl, hb1⟩; have HA := Lib.hid (HA.out.step hb1); obtain ⟨hc1, hc2, hc3⟩ := lies_pos HB.out HA.out))
  go_ret
  exact ⟨rfl, HA.out.below⟩

set_option maxHeartbeats 1600000 in
set_option maxRecDepth 100000 in
theorem v_t0 (b : List Int) (hb : BOk b) (t c e : Int) (hW : bWrong b = 0) (h0 : decide (t < 0) = true) (w : World) : Calls Try.prog 26 #[.agg (posC b t c e)] w fun x w' => x = .returned (.int .i64 5) ∧ Below w.heap.size w w' := by
  have HA := Lib.hid (Lies.start w (posO b t c e))
  have HB := Lib.hid hb
  have HZ := Lib.hid (pos_info b hb t c e)
  obtain ⟨hc1, hc2, hc3⟩ := lies_pos HB.out HA.out
  clear hb
  have HW := Lib.hid hW
  go_enter Try.func26, Try.ntmps26
  go_wp2_with (first
    | (refine load_at _ rfl rfl w.heap.size rfl b t c e HB.out HA.out.obj ?_)
    | (refine load_row rfl 37 _ rfl _ rfl 37 _ (0, 0) _ HA.out.obj Try.underlying37 rfl HZ.out ?_)
    | (go_at_call 33; refine (r3_Wrong b HB.out _).mono ?_; rw [HW.out]; rintro x w1 ⟨rfl, hb1⟩; have HA := Lib.hid (HA.out.step hb1); obtain ⟨hc1, hc2, hc3⟩ := lies_pos HB.out HA.out)
    | (go_at_call 28; refine (r8_Passed b HB.out t c e _).mono ?_; rintro x w1 ⟨rfl, hb1⟩; have HA := Lib.hid (HA.out.step hb1); obtain ⟨hc1, hc2, hc3⟩ := lies_pos HB.out HA.out)
    | (go_at_call 58; refine (r8_Has c _ (by have := HC0.out; omega) (by have := HC0.out; omega) (by simp) _).mono ?_; rintro x w1 ⟨rfl, rfl⟩)
    | (go_at_call 30; refine (r8_Backed b HB.out _ _).mono ?_; rintro x w1 ⟨rfl, hb1⟩; have HA := Lib.hid (HA.out.step hb1); obtain ⟨hc1, hc2, hc3⟩ := lies_pos HB.out HA.out))
  go_ret
  exact ⟨rfl, HA.out.below⟩

set_option maxHeartbeats 1600000 in
set_option maxRecDepth 100000 in
theorem v_t1 (b : List Int) (hb : BOk b) (t c e : Int) (hW : bWrong b = 0) (h0 : decide (t < 0) = false) (h1 : decide (1 < t) = true) (w : World) : Calls Try.prog 26 #[.agg (posC b t c e)] w fun x w' => x = .returned (.int .i64 5) ∧ Below w.heap.size w w' := by
  have HA := Lib.hid (Lies.start w (posO b t c e))
  have HB := Lib.hid hb
  have HZ := Lib.hid (pos_info b hb t c e)
  obtain ⟨hc1, hc2, hc3⟩ := lies_pos HB.out HA.out
  clear hb
  have HW := Lib.hid hW
  go_enter Try.func26, Try.ntmps26
  go_wp2_with (first
    | (refine load_at _ rfl rfl w.heap.size rfl b t c e HB.out HA.out.obj ?_)
    | (refine load_row rfl 37 _ rfl _ rfl 37 _ (0, 0) _ HA.out.obj Try.underlying37 rfl HZ.out ?_)
    | (go_at_call 33; refine (r3_Wrong b HB.out _).mono ?_; rw [HW.out]; rintro x w1 ⟨rfl, hb1⟩; have HA := Lib.hid (HA.out.step hb1); obtain ⟨hc1, hc2, hc3⟩ := lies_pos HB.out HA.out)
    | (go_at_call 28; refine (r8_Passed b HB.out t c e _).mono ?_; rintro x w1 ⟨rfl, hb1⟩; have HA := Lib.hid (HA.out.step hb1); obtain ⟨hc1, hc2, hc3⟩ := lies_pos HB.out HA.out)
    | (go_at_call 58; refine (r8_Has c _ (by have := HC0.out; omega) (by have := HC0.out; omega) (by simp) _).mono ?_; rintro x w1 ⟨rfl, rfl⟩)
    | (go_at_call 30; refine (r8_Backed b HB.out _ _).mono ?_; rintro x w1 ⟨rfl, hb1⟩; have HA := Lib.hid (HA.out.step hb1); obtain ⟨hc1, hc2, hc3⟩ := lies_pos HB.out HA.out))
  go_ret
  exact ⟨rfl, HA.out.below⟩

set_option maxHeartbeats 1600000 in
set_option maxRecDepth 100000 in
theorem v_c0 (b : List Int) (hb : BOk b) (t c e : Int) (hW : bWrong b = 0) (h0 : decide (t < 0) = false) (h1 : decide (1 < t) = false) (g1 : decide (c < 0) = true) (w : World) : Calls Try.prog 26 #[.agg (posC b t c e)] w fun x w' => x = .returned (.int .i64 5) ∧ Below w.heap.size w w' := by
  have HA := Lib.hid (Lies.start w (posO b t c e))
  have HB := Lib.hid hb
  have HZ := Lib.hid (pos_info b hb t c e)
  obtain ⟨hc1, hc2, hc3⟩ := lies_pos HB.out HA.out
  clear hb
  have HW := Lib.hid hW
  go_enter Try.func26, Try.ntmps26
  go_wp2_with (first
    | (refine load_at _ rfl rfl w.heap.size rfl b t c e HB.out HA.out.obj ?_)
    | (refine load_row rfl 37 _ rfl _ rfl 37 _ (0, 0) _ HA.out.obj Try.underlying37 rfl HZ.out ?_)
    | (go_at_call 33; refine (r3_Wrong b HB.out _).mono ?_; rw [HW.out]; rintro x w1 ⟨rfl, hb1⟩; have HA := Lib.hid (HA.out.step hb1); obtain ⟨hc1, hc2, hc3⟩ := lies_pos HB.out HA.out)
    | (go_at_call 28; refine (r8_Passed b HB.out t c e _).mono ?_; rintro x w1 ⟨rfl, hb1⟩; have HA := Lib.hid (HA.out.step hb1); obtain ⟨hc1, hc2, hc3⟩ := lies_pos HB.out HA.out)
    | (go_at_call 58; refine (r8_Has c _ (by have := HC0.out; omega) (by have := HC0.out; omega) (by simp) _).mono ?_; rintro x w1 ⟨rfl, rfl⟩)
    | (go_at_call 30; refine (r8_Backed b HB.out _ _).mono ?_; rintro x w1 ⟨rfl, hb1⟩; have HA := Lib.hid (HA.out.step hb1); obtain ⟨hc1, hc2, hc3⟩ := lies_pos HB.out HA.out))
  go_ret
  exact ⟨rfl, HA.out.below⟩

set_option maxHeartbeats 1600000 in
set_option maxRecDepth 100000 in
theorem v_c1 (b : List Int) (hb : BOk b) (t c e : Int) (hW : bWrong b = 0) (h0 : decide (t < 0) = false) (h1 : decide (1 < t) = false) (g1 : decide (c < 0) = false) (g2 : decide (15 < c) = true) (w : World) : Calls Try.prog 26 #[.agg (posC b t c e)] w fun x w' => x = .returned (.int .i64 5) ∧ Below w.heap.size w w' := by
  have HA := Lib.hid (Lies.start w (posO b t c e))
  have HB := Lib.hid hb
  have HZ := Lib.hid (pos_info b hb t c e)
  obtain ⟨hc1, hc2, hc3⟩ := lies_pos HB.out HA.out
  clear hb
  have HW := Lib.hid hW
  go_enter Try.func26, Try.ntmps26
  go_wp2_with (first
    | (refine load_at _ rfl rfl w.heap.size rfl b t c e HB.out HA.out.obj ?_)
    | (refine load_row rfl 37 _ rfl _ rfl 37 _ (0, 0) _ HA.out.obj Try.underlying37 rfl HZ.out ?_)
    | (go_at_call 33; refine (r3_Wrong b HB.out _).mono ?_; rw [HW.out]; rintro x w1 ⟨rfl, hb1⟩; have HA := Lib.hid (HA.out.step hb1); obtain ⟨hc1, hc2, hc3⟩ := lies_pos HB.out HA.out)
    | (go_at_call 28; refine (r8_Passed b HB.out t c e _).mono ?_; rintro x w1 ⟨rfl, hb1⟩; have HA := Lib.hid (HA.out.step hb1); obtain ⟨hc1, hc2, hc3⟩ := lies_pos HB.out HA.out)
    | (go_at_call 58; refine (r8_Has c _ (by have := HC0.out; omega) (by have := HC0.out; omega) (by simp) _).mono ?_; rintro x w1 ⟨rfl, rfl⟩)
    | (go_at_call 30; refine (r8_Backed b HB.out _ _).mono ?_; rintro x w1 ⟨rfl, hb1⟩; have HA := Lib.hid (HA.out.step hb1); obtain ⟨hc1, hc2, hc3⟩ := lies_pos HB.out HA.out))
  go_ret
  exact ⟨rfl, HA.out.below⟩

set_option maxHeartbeats 1600000 in
set_option maxRecDepth 100000 in
theorem v_e0 (b : List Int) (hb : BOk b) (t c e : Int) (hW : bWrong b = 0) (h0 : decide (t < 0) = false) (h1 : decide (1 < t) = false) (g1 : decide (c < 0) = false) (g2 : decide (15 < c) = false) (g3 : decide (e < -1) = true) (w : World) : Calls Try.prog 26 #[.agg (posC b t c e)] w fun x w' => x = .returned (.int .i64 5) ∧ Below w.heap.size w w' := by
  have HA := Lib.hid (Lies.start w (posO b t c e))
  have HB := Lib.hid hb
  have HZ := Lib.hid (pos_info b hb t c e)
  obtain ⟨hc1, hc2, hc3⟩ := lies_pos HB.out HA.out
  clear hb
  have HW := Lib.hid hW
  go_enter Try.func26, Try.ntmps26
  go_wp2_with (first
    | (refine load_at _ rfl rfl w.heap.size rfl b t c e HB.out HA.out.obj ?_)
    | (refine load_row rfl 37 _ rfl _ rfl 37 _ (0, 0) _ HA.out.obj Try.underlying37 rfl HZ.out ?_)
    | (go_at_call 33; refine (r3_Wrong b HB.out _).mono ?_; rw [HW.out]; rintro x w1 ⟨rfl, hb1⟩; have HA := Lib.hid (HA.out.step hb1); obtain ⟨hc1, hc2, hc3⟩ := lies_pos HB.out HA.out)
    | (go_at_call 28; refine (r8_Passed b HB.out t c e _).mono ?_; rintro x w1 ⟨rfl, hb1⟩; have HA := Lib.hid (HA.out.step hb1); obtain ⟨hc1, hc2, hc3⟩ := lies_pos HB.out HA.out)
    | (go_at_call 58; refine (r8_Has c _ (by have := HC0.out; omega) (by have := HC0.out; omega) (by simp) _).mono ?_; rintro x w1 ⟨rfl, rfl⟩)
    | (go_at_call 30; refine (r8_Backed b HB.out _ _).mono ?_; rintro x w1 ⟨rfl, hb1⟩; have HA := Lib.hid (HA.out.step hb1); obtain ⟨hc1, hc2, hc3⟩ := lies_pos HB.out HA.out))
  go_ret
  exact ⟨rfl, HA.out.below⟩

set_option maxHeartbeats 1600000 in
set_option maxRecDepth 100000 in
theorem v_e1 (b : List Int) (hb : BOk b) (t c e : Int) (hW : bWrong b = 0) (h0 : decide (t < 0) = false) (h1 : decide (1 < t) = false) (g1 : decide (c < 0) = false) (g2 : decide (15 < c) = false) (g3 : decide (e < -1) = false) (g4 : decide (63 < e) = true) (w : World) : Calls Try.prog 26 #[.agg (posC b t c e)] w fun x w' => x = .returned (.int .i64 5) ∧ Below w.heap.size w w' := by
  have HA := Lib.hid (Lies.start w (posO b t c e))
  have HB := Lib.hid hb
  have HZ := Lib.hid (pos_info b hb t c e)
  obtain ⟨hc1, hc2, hc3⟩ := lies_pos HB.out HA.out
  clear hb
  have HW := Lib.hid hW
  go_enter Try.func26, Try.ntmps26
  go_wp2_with (first
    | (refine load_at _ rfl rfl w.heap.size rfl b t c e HB.out HA.out.obj ?_)
    | (refine load_row rfl 37 _ rfl _ rfl 37 _ (0, 0) _ HA.out.obj Try.underlying37 rfl HZ.out ?_)
    | (go_at_call 33; refine (r3_Wrong b HB.out _).mono ?_; rw [HW.out]; rintro x w1 ⟨rfl, hb1⟩; have HA := Lib.hid (HA.out.step hb1); obtain ⟨hc1, hc2, hc3⟩ := lies_pos HB.out HA.out)
    | (go_at_call 28; refine (r8_Passed b HB.out t c e _).mono ?_; rintro x w1 ⟨rfl, hb1⟩; have HA := Lib.hid (HA.out.step hb1); obtain ⟨hc1, hc2, hc3⟩ := lies_pos HB.out HA.out)
    | (go_at_call 58; refine (r8_Has c _ (by have := HC0.out; omega) (by have := HC0.out; omega) (by simp) _).mono ?_; rintro x w1 ⟨rfl, rfl⟩)
    | (go_at_call 30; refine (r8_Backed b HB.out _ _).mono ?_; rintro x w1 ⟨rfl, hb1⟩; have HA := Lib.hid (HA.out.step hb1); obtain ⟨hc1, hc2, hc3⟩ := lies_pos HB.out HA.out))
  go_ret
  exact ⟨rfl, HA.out.below⟩

set_option maxHeartbeats 1600000 in
set_option maxRecDepth 100000 in
theorem v_touch (b : List Int) (hb : BOk b) (t c e : Int) (hW : bWrong b = 0) (h0 : decide (t < 0) = false) (h1 : decide (1 < t) = false) (g1 : decide (c < 0) = false) (g2 : decide (15 < c) = false) (g3 : decide (e < -1) = false) (g4 : decide (63 < e) = false) (hT : (farI (rKing b 0) (rKing b 1) == 1) = true) (w : World) : Calls Try.prog 26 #[.agg (posC b t c e)] w fun x w' => x = .returned (.int .i64 9) ∧ Below w.heap.size w w' := by
  have HA := Lib.hid (Lies.start w (posO b t c e))
  have HB := Lib.hid hb
  have HZ := Lib.hid (pos_info b hb t c e)
  obtain ⟨hc1, hc2, hc3⟩ := lies_pos HB.out HA.out
  clear hb
  have HW := Lib.hid hW
  have HC0 := Lib.hid (show 0 ≤ c ∧ c ≤ 15 by simp at g1 g2; omega)
  have H1 := Lib.hid (show 0 ≤ t ∧ t ≤ 1 by simp at h0 h1; omega)
  have ht1 : 0 ≤ t := H1.out.1
  have ht2 : t ≤ 1 := H1.out.2
  have hwr : wrap64 (1 - t) = 1 - t := IntWalk.wrap64_in _ (by omega)
  clear hW
  go_enter Try.func26, Try.ntmps26
  go_wp2_with (first
    | (refine load_at _ rfl rfl w.heap.size rfl b t c e HB.out HA.out.obj ?_)
    | (refine load_row rfl 37 _ rfl _ rfl 37 _ (0, 0) _ HA.out.obj Try.underlying37 rfl HZ.out ?_)
    | (go_at_call 33; refine (r3_Wrong b HB.out _).mono ?_; rw [HW.out]; rintro x w1 ⟨rfl, hb1⟩; have HA := Lib.hid (HA.out.step hb1); obtain ⟨hc1, hc2, hc3⟩ := lies_pos HB.out HA.out)
    | (go_at_call 28; refine (r8_Passed b HB.out t c e _).mono ?_; rintro x w1 ⟨rfl, hb1⟩; have HA := Lib.hid (HA.out.step hb1); obtain ⟨hc1, hc2, hc3⟩ := lies_pos HB.out HA.out)
    | (go_at_call 58; refine (r8_Has c _ (by have := HC0.out; omega) (by have := HC0.out; omega) (by simp) _).mono ?_; rintro x w1 ⟨rfl, rfl⟩)
    | (go_at_call 30; refine (r8_Backed b HB.out _ _).mono ?_; rintro x w1 ⟨rfl, hb1⟩; have HA := Lib.hid (HA.out.step hb1); obtain ⟨hc1, hc2, hc3⟩ := lies_pos HB.out HA.out))
  refine wp_region_sp (fun w' => Lies w (posO b t c e) w') [.val (.pointer (some ⟨w.heap.size, 0, none⟩)), .val (.agg (boardC b)), .val (.int .i64 (rKing b 0)), .val (.pointer (some ⟨w.heap.size, 0, none⟩)), .val (.agg (boardC b)), .val (.int .i64 (rKing b 1)), .val (.int .i64 (farI (rKing b 0) (rKing b 1))), .val (.bool true), .val (.bool true), .free, .free, .free, .free, .free, .free, .val (.bool true)] _
    (fun u => by simp only [putAll, Nat.reduceAdd, Act.put, List.setIfInBounds_toArray, List.set_cons_zero, List.set_cons_succ]; exact rfl) (by kernel_rfl) (by kernel_rfl) (by kernel_rfl) (by kernel_rfl)
    (HA.out.step ((Below.refl _ _).drew)) (fun _ _ hs hs' => hs.step hs') ?_ ?_
  · repeat' (first | exact Ops.nil | refine Ops.cons (fun u w2 K hS hd hK => ?_) ?_)
    all_goals (simp only [Deps, Sp.at, Sp.holds, Region.binds, true_implies, and_true] at hd hK)
    all_goals (obtain ⟨hc1, hc2, hc3⟩ := lies_pos HB.out hS)
    all_goals first
      | (refine sp_at _ rfl (by first | rfl | (simp only [hd]; rfl)) w.heap.size _ rfl (by simp only [hd]; rfl) b t c e HB.out hS.obj ?_; exact hK.out _ _ (Below.refl _ _) rfl)
      | (try simp only [hd] at hK ⊢
         go_simp
         first
           | exact hK.out _ _ (Below.refl _ _) rfl
           | exact hK.out _ _ (Below.refl _ _)
           | (refine hK.out _ _ (Below.refl _ _) ?_; refine congrArg (Value.int .i64) ?_; exact (IntWalk.i64_left _).trans hwr)
           | (go_at_call 47; refine (r7_King b HB.out _ (by decide) (by decide) _).mono ?_; rintro x w3 ⟨rfl, hb3⟩; exact hK.out _ _ hb3 rfl)
           | (go_at_call 57; refine (r_Far _ _ _).mono ?_; rintro x w3 ⟨rfl, rfl⟩; exact hK.out _ _ (Below.refl _ _) rfl)
           | (go_at_call 22; refine (r7_Check b HB.out (1 - t) (by have := H1.out; omega) (by have := H1.out; omega) _).mono ?_; rw [HCK.out]; rintro x w3 ⟨rfl, hb3⟩; exact hK.out _ _ hb3 rfl))
  · intro u w2 hS hall
    simp only [AllSp, Sp.holds, and_true, true_and, Nat.reduceAdd] at hall
    have hu : u 15 = .bool true := by simp only [hall]
    simp only [hu]
    have HA := Lib.hid hS
    obtain ⟨hc1, hc2, hc3⟩ := lies_pos HB.out HA.out
    clear hall hu hS
    go_wp2_with (first
    | (refine load_at _ rfl rfl w.heap.size rfl b t c e HB.out HA.out.obj ?_)
    | (refine load_row rfl 37 _ rfl _ rfl 37 _ (0, 0) _ HA.out.obj Try.underlying37 rfl HZ.out ?_)
    | (go_at_call 33; refine (r3_Wrong b HB.out _).mono ?_; rw [HW.out]; rintro x w1 ⟨rfl, hb1⟩; have HA := Lib.hid (HA.out.step hb1); obtain ⟨hc1, hc2, hc3⟩ := lies_pos HB.out HA.out)
    | (go_at_call 28; refine (r8_Passed b HB.out t c e _).mono ?_; rintro x w1 ⟨rfl, hb1⟩; have HA := Lib.hid (HA.out.step hb1); obtain ⟨hc1, hc2, hc3⟩ := lies_pos HB.out HA.out)
    | (go_at_call 58; refine (r8_Has c _ (by have := HC0.out; omega) (by have := HC0.out; omega) (by simp) _).mono ?_; rintro x w1 ⟨rfl, rfl⟩)
    | (go_at_call 30; refine (r8_Backed b HB.out _ _).mono ?_; rintro x w1 ⟨rfl, hb1⟩; have HA := Lib.hid (HA.out.step hb1); obtain ⟨hc1, hc2, hc3⟩ := lies_pos HB.out HA.out))
    go_ret
    exact ⟨rfl, HA.out.below⟩

set_option maxHeartbeats 1600000 in
set_option maxRecDepth 100000 in
theorem v_check (b : List Int) (hb : BOk b) (t c e : Int) (hW : bWrong b = 0) (h0 : decide (t < 0) = false) (h1 : decide (1 < t) = false) (g1 : decide (c < 0) = false) (g2 : decide (15 < c) = false) (g3 : decide (e < -1) = false) (g4 : decide (63 < e) = false) (hT : (farI (rKing b 0) (rKing b 1) == 1) = false) (hK : rCheck b (1 - t) = true) (w : World) : Calls Try.prog 26 #[.agg (posC b t c e)] w fun x w' => x = .returned (.int .i64 9) ∧ Below w.heap.size w w' := by
  have HA := Lib.hid (Lies.start w (posO b t c e))
  have HB := Lib.hid hb
  have HZ := Lib.hid (pos_info b hb t c e)
  obtain ⟨hc1, hc2, hc3⟩ := lies_pos HB.out HA.out
  clear hb
  have HW := Lib.hid hW
  have HC0 := Lib.hid (show 0 ≤ c ∧ c ≤ 15 by simp at g1 g2; omega)
  have H1 := Lib.hid (show 0 ≤ t ∧ t ≤ 1 by simp at h0 h1; omega)
  have ht1 : 0 ≤ t := H1.out.1
  have ht2 : t ≤ 1 := H1.out.2
  have hwr : wrap64 (1 - t) = 1 - t := IntWalk.wrap64_in _ (by omega)
  clear hW
  have HCK := Lib.hid hK
  clear hK
  go_enter Try.func26, Try.ntmps26
  go_wp2_with (first
    | (refine load_at _ rfl rfl w.heap.size rfl b t c e HB.out HA.out.obj ?_)
    | (refine load_row rfl 37 _ rfl _ rfl 37 _ (0, 0) _ HA.out.obj Try.underlying37 rfl HZ.out ?_)
    | (go_at_call 33; refine (r3_Wrong b HB.out _).mono ?_; rw [HW.out]; rintro x w1 ⟨rfl, hb1⟩; have HA := Lib.hid (HA.out.step hb1); obtain ⟨hc1, hc2, hc3⟩ := lies_pos HB.out HA.out)
    | (go_at_call 28; refine (r8_Passed b HB.out t c e _).mono ?_; rintro x w1 ⟨rfl, hb1⟩; have HA := Lib.hid (HA.out.step hb1); obtain ⟨hc1, hc2, hc3⟩ := lies_pos HB.out HA.out)
    | (go_at_call 58; refine (r8_Has c _ (by have := HC0.out; omega) (by have := HC0.out; omega) (by simp) _).mono ?_; rintro x w1 ⟨rfl, rfl⟩)
    | (go_at_call 30; refine (r8_Backed b HB.out _ _).mono ?_; rintro x w1 ⟨rfl, hb1⟩; have HA := Lib.hid (HA.out.step hb1); obtain ⟨hc1, hc2, hc3⟩ := lies_pos HB.out HA.out))
  refine wp_region_sp (fun w' => Lies w (posO b t c e) w') [.val (.pointer (some ⟨w.heap.size, 0, none⟩)), .val (.agg (boardC b)), .val (.int .i64 (rKing b 0)), .val (.pointer (some ⟨w.heap.size, 0, none⟩)), .val (.agg (boardC b)), .val (.int .i64 (rKing b 1)), .val (.int .i64 (farI (rKing b 0) (rKing b 1))), .val (.bool false), .val (.bool false), .val (.pointer (some ⟨w.heap.size, 0, none⟩)), .val (.agg (boardC b)), .val (.pointer (some ⟨w.heap.size, 64, none⟩)), .val (.int .i64 t), .val (.int .i64 (1 - t)), .val (.bool true), .val (.bool true)] _
    (fun u => by simp only [putAll, Nat.reduceAdd, Act.put, List.setIfInBounds_toArray, List.set_cons_zero, List.set_cons_succ]; exact rfl) (by kernel_rfl) (by kernel_rfl) (by kernel_rfl) (by kernel_rfl)
    (HA.out.step ((Below.refl _ _).drew)) (fun _ _ hs hs' => hs.step hs') ?_ ?_
  · repeat' (first | exact Ops.nil | refine Ops.cons (fun u w2 K hS hd hK => ?_) ?_)
    all_goals (simp only [Deps, Sp.at, Sp.holds, Region.binds, true_implies, and_true] at hd hK)
    all_goals (obtain ⟨hc1, hc2, hc3⟩ := lies_pos HB.out hS)
    all_goals first
      | (refine sp_at _ rfl (by first | rfl | (simp only [hd]; rfl)) w.heap.size _ rfl (by simp only [hd]; rfl) b t c e HB.out hS.obj ?_; exact hK.out _ _ (Below.refl _ _) rfl)
      | (try simp only [hd] at hK ⊢
         go_simp
         first
           | exact hK.out _ _ (Below.refl _ _) rfl
           | exact hK.out _ _ (Below.refl _ _)
           | (refine hK.out _ _ (Below.refl _ _) ?_; refine congrArg (Value.int .i64) ?_; exact (IntWalk.i64_left _).trans hwr)
           | (go_at_call 47; refine (r7_King b HB.out _ (by decide) (by decide) _).mono ?_; rintro x w3 ⟨rfl, hb3⟩; exact hK.out _ _ hb3 rfl)
           | (go_at_call 57; refine (r_Far _ _ _).mono ?_; rintro x w3 ⟨rfl, rfl⟩; exact hK.out _ _ (Below.refl _ _) rfl)
           | (go_at_call 22; refine (r7_Check b HB.out (1 - t) (by have := H1.out; omega) (by have := H1.out; omega) _).mono ?_; rw [HCK.out]; rintro x w3 ⟨rfl, hb3⟩; exact hK.out _ _ hb3 rfl))
  · intro u w2 hS hall
    simp only [AllSp, Sp.holds, and_true, Nat.reduceAdd] at hall
    have hu : u 15 = .bool true := by simp only [hall]
    simp only [hu]
    have HA := Lib.hid hS
    obtain ⟨hc1, hc2, hc3⟩ := lies_pos HB.out HA.out
    clear hall hu hS
    go_wp2_with (first
    | (refine load_at _ rfl rfl w.heap.size rfl b t c e HB.out HA.out.obj ?_)
    | (refine load_row rfl 37 _ rfl _ rfl 37 _ (0, 0) _ HA.out.obj Try.underlying37 rfl HZ.out ?_)
    | (go_at_call 33; refine (r3_Wrong b HB.out _).mono ?_; rw [HW.out]; rintro x w1 ⟨rfl, hb1⟩; have HA := Lib.hid (HA.out.step hb1); obtain ⟨hc1, hc2, hc3⟩ := lies_pos HB.out HA.out)
    | (go_at_call 28; refine (r8_Passed b HB.out t c e _).mono ?_; rintro x w1 ⟨rfl, hb1⟩; have HA := Lib.hid (HA.out.step hb1); obtain ⟨hc1, hc2, hc3⟩ := lies_pos HB.out HA.out)
    | (go_at_call 58; refine (r8_Has c _ (by have := HC0.out; omega) (by have := HC0.out; omega) (by simp) _).mono ?_; rintro x w1 ⟨rfl, rfl⟩)
    | (go_at_call 30; refine (r8_Backed b HB.out _ _).mono ?_; rintro x w1 ⟨rfl, hb1⟩; have HA := Lib.hid (HA.out.step hb1); obtain ⟨hc1, hc2, hc3⟩ := lies_pos HB.out HA.out))
    go_ret
    exact ⟨rfl, HA.out.below⟩

def rightAt : Nat → Int
  | 0 => 1
  | 1 => 2
  | 2 => 4
  | 3 => 8
  | _ + 4 => 16
theorem right_of {k : Nat} {h : Home} (hh : homesL[k]? = some h) : rightAt k = h.right := by
  match k, hh with
  | 0, hh => obtain rfl : h = ⟨1, 0, 4, 7⟩ := by simpa [homesL] using hh.symm
             rfl
  | 1, hh => obtain rfl : h = ⟨2, 0, 4, 0⟩ := by simpa [homesL] using hh.symm
             rfl
  | 2, hh => obtain rfl : h = ⟨4, 1, 60, 63⟩ := by simpa [homesL] using hh.symm
             rfl
  | 3, hh => obtain rfl : h = ⟨8, 1, 60, 56⟩ := by simpa [homesL] using hh.symm
             rfl
  | k + 4, hh => simp [homesL] at hh
theorem right_next {k : Nat} {h : Home} (hh : homesL[k]? = some h) : h.right = 1 ∧ rightAt (k + 1) = 2 ∨ h.right = 2 ∧ rightAt (k + 1) = 4 ∨ h.right = 4 ∧ rightAt (k + 1) = 8 ∨ h.right = 8 ∧ rightAt (k + 1) = 16 := by
  have e := right_of hh
  match k, hh with
  | 0, _ => exact .inl ⟨e.symm, rfl⟩
  | 1, _ => exact .inr (.inl ⟨e.symm, rfl⟩)
  | 2, _ => exact .inr (.inr (.inl ⟨e.symm, rfl⟩))
  | 3, _ => exact .inr (.inr (.inr ⟨e.symm, rfl⟩))
  | k + 4, hh => simp [homesL] at hh
theorem cast_all {b : List Int} {c : Int} (hno : ∀ (j : Nat) (h' : Home), j < 4 → homesL[j]? = some h' → castP b c h' = true) : castB b c = true := by
  unfold castB
  rw [List.all_eq_true]
  intro h hm
  obtain ⟨j, hj, e⟩ := List.mem_iff_getElem.1 hm
  exact hno j h (by simpa [homesL] using hj) (by rw [List.getElem?_eq_getElem hj, e])

set_option maxHeartbeats 1600000 in
set_option maxRecDepth 100000 in
theorem v_main (b : List Int) (hb : BOk b) (t c e : Int) (hW : bWrong b = 0) (h0 : decide (t < 0) = false) (h1 : decide (1 < t) = false) (g1 : decide (c < 0) = false) (g2 : decide (15 < c) = false) (g3 : decide (e < -1) = false) (g4 : decide (63 < e) = false) (hT : (farI (rKing b 0) (rKing b 1) == 1) = false) (hK : rCheck b (1 - t) = false) (vv : Int) (hvv : vv = if castB b c = false then 10 else if 0 ≤ e ∧ passI b t e < 0 then 11 else 0) (w : World) : Calls Try.prog 26 #[.agg (posC b t c e)] w fun x w' => x = .returned (.int .i64 vv) ∧ Below w.heap.size w w' := by
  have HA := Lib.hid (Lies.start w (posO b t c e))
  have HB := Lib.hid hb
  have HZ := Lib.hid (pos_info b hb t c e)
  obtain ⟨hc1, hc2, hc3⟩ := lies_pos HB.out HA.out
  clear hb
  have HVV := Lib.hid hvv
  clear hvv
  have HW := Lib.hid hW
  have HC0 := Lib.hid (show 0 ≤ c ∧ c ≤ 15 by simp at g1 g2; omega)
  have H1 := Lib.hid (show 0 ≤ t ∧ t ≤ 1 by simp at h0 h1; omega)
  have ht1 : 0 ≤ t := H1.out.1
  have ht2 : t ≤ 1 := H1.out.2
  have hwr : wrap64 (1 - t) = 1 - t := IntWalk.wrap64_in _ (by omega)
  clear hW
  have HCK := Lib.hid hK
  clear hK
  go_enter Try.func26, Try.ntmps26
  go_wp2_with (first
    | (refine load_at _ rfl rfl w.heap.size rfl b t c e HB.out HA.out.obj ?_)
    | (refine load_row rfl 37 _ rfl _ rfl 37 _ (0, 0) _ HA.out.obj Try.underlying37 rfl HZ.out ?_)
    | (go_at_call 33; refine (r3_Wrong b HB.out _).mono ?_; rw [HW.out]; rintro x w1 ⟨rfl, hb1⟩; have HA := Lib.hid (HA.out.step hb1); obtain ⟨hc1, hc2, hc3⟩ := lies_pos HB.out HA.out)
    | (go_at_call 28; refine (r8_Passed b HB.out t c e _).mono ?_; rintro x w1 ⟨rfl, hb1⟩; have HA := Lib.hid (HA.out.step hb1); obtain ⟨hc1, hc2, hc3⟩ := lies_pos HB.out HA.out)
    | (go_at_call 58; refine (r8_Has c _ (by have := HC0.out; omega) (by have := HC0.out; omega) (by simp) _).mono ?_; rintro x w1 ⟨rfl, rfl⟩)
    | (go_at_call 30; refine (r8_Backed b HB.out _ _).mono ?_; rintro x w1 ⟨rfl, hb1⟩; have HA := Lib.hid (HA.out.step hb1); obtain ⟨hc1, hc2, hc3⟩ := lies_pos HB.out HA.out))
  refine wp_region_sp (fun w' => Lies w (posO b t c e) w') [.val (.pointer (some ⟨w.heap.size, 0, none⟩)), .val (.agg (boardC b)), .val (.int .i64 (rKing b 0)), .val (.pointer (some ⟨w.heap.size, 0, none⟩)), .val (.agg (boardC b)), .val (.int .i64 (rKing b 1)), .val (.int .i64 (farI (rKing b 0) (rKing b 1))), .val (.bool false), .val (.bool false), .val (.pointer (some ⟨w.heap.size, 0, none⟩)), .val (.agg (boardC b)), .val (.pointer (some ⟨w.heap.size, 64, none⟩)), .val (.int .i64 t), .val (.int .i64 (1 - t)), .val (.bool false), .val (.bool false)] _
    (fun u => by simp only [putAll, Nat.reduceAdd, Act.put, List.setIfInBounds_toArray, List.set_cons_zero, List.set_cons_succ]; exact rfl) (by kernel_rfl) (by kernel_rfl) (by kernel_rfl) (by kernel_rfl)
    (HA.out.step ((Below.refl _ _).drew)) (fun _ _ hs hs' => hs.step hs') ?_ ?_
  · repeat' (first | exact Ops.nil | refine Ops.cons (fun u w2 K hS hd hK => ?_) ?_)
    all_goals (simp only [Deps, Sp.at, Sp.holds, Region.binds, true_implies, and_true] at hd hK)
    all_goals (obtain ⟨hc1, hc2, hc3⟩ := lies_pos HB.out hS)
    all_goals first
      | (refine sp_at _ rfl (by first | rfl | (simp only [hd]; rfl)) w.heap.size _ rfl (by simp only [hd]; rfl) b t c e HB.out hS.obj ?_; exact hK.out _ _ (Below.refl _ _) rfl)
      | (try simp only [hd] at hK ⊢
         go_simp
         first
           | exact hK.out _ _ (Below.refl _ _) rfl
           | exact hK.out _ _ (Below.refl _ _)
           | (refine hK.out _ _ (Below.refl _ _) ?_; refine congrArg (Value.int .i64) ?_; exact (IntWalk.i64_left _).trans hwr)
           | (go_at_call 47; refine (r7_King b HB.out _ (by decide) (by decide) _).mono ?_; rintro x w3 ⟨rfl, hb3⟩; exact hK.out _ _ hb3 rfl)
           | (go_at_call 57; refine (r_Far _ _ _).mono ?_; rintro x w3 ⟨rfl, rfl⟩; exact hK.out _ _ (Below.refl _ _) rfl)
           | (go_at_call 22; refine (r7_Check b HB.out (1 - t) (by have := H1.out; omega) (by have := H1.out; omega) _).mono ?_; rw [HCK.out]; rintro x w3 ⟨rfl, hb3⟩; exact hK.out _ _ hb3 rfl))
  · intro u w2 hS hall
    simp only [AllSp, Sp.holds, and_true, Nat.reduceAdd] at hall
    have hu : u 15 = .bool false := by simp only [hall]
    simp only [hu]
    have HA := Lib.hid hS
    obtain ⟨hc1, hc2, hc3⟩ := lies_pos HB.out HA.out
    clear hall hu hS
    go_wp2_with (first
    | (refine load_at _ rfl rfl w.heap.size rfl b t c e HB.out HA.out.obj ?_)
    | (refine load_row rfl 37 _ rfl _ rfl 37 _ (0, 0) _ HA.out.obj Try.underlying37 rfl HZ.out ?_)
    | (go_at_call 33; refine (r3_Wrong b HB.out _).mono ?_; rw [HW.out]; rintro x w1 ⟨rfl, hb1⟩; have HA := Lib.hid (HA.out.step hb1); obtain ⟨hc1, hc2, hc3⟩ := lies_pos HB.out HA.out)
    | (go_at_call 28; refine (r8_Passed b HB.out t c e _).mono ?_; rintro x w1 ⟨rfl, hb1⟩; have HA := Lib.hid (HA.out.step hb1); obtain ⟨hc1, hc2, hc3⟩ := lies_pos HB.out HA.out)
    | (go_at_call 58; refine (r8_Has c _ (by have := HC0.out; omega) (by have := HC0.out; omega) (by simp) _).mono ?_; rintro x w1 ⟨rfl, rfl⟩)
    | (go_at_call 30; refine (r8_Backed b HB.out _ _).mono ?_; rintro x w1 ⟨rfl, hb1⟩; have HA := Lib.hid (HA.out.step hb1); obtain ⟨hc1, hc2, hc3⟩ := lies_pos HB.out HA.out))
    go_loopg [4] 4 (fun m kv wr => ∃ k : Nat, k + m = 4 ∧ kv = .int .i64 (rightAt k) ∧ Lies w (posO b t c e) wr ∧ ∀ (j : Nat) (h' : Home), j < k → homesL[j]? = some h' → castP b c h' = true)
    case atStart => exact ⟨0, by omega, rfl, HA.out, fun j h' hj => by omega⟩
    case round =>
      obtain ⟨k, hk, rfl, hA, hno⟩ := hrel
      have HA := Lib.hid hA
      have HN := Lib.hid hno
      obtain ⟨hc1, hc2, hc3⟩ := lies_pos HB.out HA.out
      clear hA hno
      by_cases g0 : gk = 0
      · obtain rfl : k = 4 := by omega
        have HL := Lib.hid (cast_all HN.out)
        clear hk g0
        simp only [rightAt]
        by_cases g5 : 0 ≤ e
        · by_cases g6 : passI b t e < 0
          · have V := Lib.hid (show vv = 11 by rw [HVV.out, HL.out]; simp [g5, g6])
            have g5 : decide (0 ≤ e) = true := by simpa using g5
            have g6 : decide (passI b t e < 0) = true := by simpa using g6
            go_wp2_with (first
                | (refine load_at _ rfl rfl w.heap.size rfl b t c e HB.out HA.out.obj ?_)
                | (refine load_row rfl 37 _ rfl _ rfl 37 _ (0, 0) _ HA.out.obj Try.underlying37 rfl HZ.out ?_)
                | (go_at_call 33; refine (r3_Wrong b HB.out _).mono ?_; rw [HW.out]; rintro x w1 ⟨rfl, hb1⟩; have HA := Lib.hid (HA.out.step hb1); obtain ⟨hc1, hc2, hc3⟩ := lies_pos HB.out HA.out)
                | (go_at_call 28; refine (r8_Passed b HB.out t c e _).mono ?_; rintro x w1 ⟨rfl, hb1⟩; have HA := Lib.hid (HA.out.step hb1); obtain ⟨hc1, hc2, hc3⟩ := lies_pos HB.out HA.out)
                | (go_at_call 58; refine (r8_Has c _ (by have := HC0.out; omega) (by have := HC0.out; omega) (by simp) _).mono ?_; rintro x w1 ⟨rfl, rfl⟩)
                | (go_at_call 30; refine (r8_Backed b HB.out _ _).mono ?_; rintro x w1 ⟨rfl, hb1⟩; have HA := Lib.hid (HA.out.step hb1); obtain ⟨hc1, hc2, hc3⟩ := lies_pos HB.out HA.out))
            go_ret
            exact ⟨re_int V.out.symm, HA.out.below⟩
          · have V := Lib.hid (show vv = 0 by rw [HVV.out, HL.out]; simp [g6])
            have g5 : decide (0 ≤ e) = true := by simpa using g5
            have g6 : decide (passI b t e < 0) = false := by simpa using g6
            go_wp2_with (first
                | (refine load_at _ rfl rfl w.heap.size rfl b t c e HB.out HA.out.obj ?_)
                | (refine load_row rfl 37 _ rfl _ rfl 37 _ (0, 0) _ HA.out.obj Try.underlying37 rfl HZ.out ?_)
                | (go_at_call 33; refine (r3_Wrong b HB.out _).mono ?_; rw [HW.out]; rintro x w1 ⟨rfl, hb1⟩; have HA := Lib.hid (HA.out.step hb1); obtain ⟨hc1, hc2, hc3⟩ := lies_pos HB.out HA.out)
                | (go_at_call 28; refine (r8_Passed b HB.out t c e _).mono ?_; rintro x w1 ⟨rfl, hb1⟩; have HA := Lib.hid (HA.out.step hb1); obtain ⟨hc1, hc2, hc3⟩ := lies_pos HB.out HA.out)
                | (go_at_call 58; refine (r8_Has c _ (by have := HC0.out; omega) (by have := HC0.out; omega) (by simp) _).mono ?_; rintro x w1 ⟨rfl, rfl⟩)
                | (go_at_call 30; refine (r8_Backed b HB.out _ _).mono ?_; rintro x w1 ⟨rfl, hb1⟩; have HA := Lib.hid (HA.out.step hb1); obtain ⟨hc1, hc2, hc3⟩ := lies_pos HB.out HA.out))
            go_ret
            exact ⟨re_int V.out.symm, HA.out.below⟩
        · have V := Lib.hid (show vv = 0 by rw [HVV.out, HL.out]; simp [g5])
          have g5 : decide (0 ≤ e) = false := by simpa using g5
          go_wp2_with (first
                | (refine load_at _ rfl rfl w.heap.size rfl b t c e HB.out HA.out.obj ?_)
                | (refine load_row rfl 37 _ rfl _ rfl 37 _ (0, 0) _ HA.out.obj Try.underlying37 rfl HZ.out ?_)
                | (go_at_call 33; refine (r3_Wrong b HB.out _).mono ?_; rw [HW.out]; rintro x w1 ⟨rfl, hb1⟩; have HA := Lib.hid (HA.out.step hb1); obtain ⟨hc1, hc2, hc3⟩ := lies_pos HB.out HA.out)
                | (go_at_call 28; refine (r8_Passed b HB.out t c e _).mono ?_; rintro x w1 ⟨rfl, hb1⟩; have HA := Lib.hid (HA.out.step hb1); obtain ⟨hc1, hc2, hc3⟩ := lies_pos HB.out HA.out)
                | (go_at_call 58; refine (r8_Has c _ (by have := HC0.out; omega) (by have := HC0.out; omega) (by simp) _).mono ?_; rintro x w1 ⟨rfl, rfl⟩)
                | (go_at_call 30; refine (r8_Backed b HB.out _ _).mono ?_; rintro x w1 ⟨rfl, hb1⟩; have HA := Lib.hid (HA.out.step hb1); obtain ⟨hc1, hc2, hc3⟩ := lies_pos HB.out HA.out))
          go_ret
          exact ⟨re_int V.out.symm, HA.out.below⟩
      · obtain ⟨h, hh⟩ : ∃ h, homesL[k]? = some h := ⟨_, List.getElem?_eq_getElem (by simp [homesL]; omega)⟩
        have HH := Lib.hid hh
        have HG := Lib.hid g0
        have HK := Lib.hid hk
        have hnext : castP b c h = true → ∀ (j : Nat) (h' : Home), j < k + 1 → homesL[j]? = some h' → castP b c h' = true := fun hp j h' hj hj2 => by
          by_cases e : j = k
          · subst e
            have := HH.out.symm.trans hj2
            injection this with this
            rw [← this]; exact hp
          · exact HN.out j h' (by omega) hj2
        have HX := Lib.hid hnext
        have HV := Lib.hid (show castP b c h = false → castB b c = false from fun hp => by
          unfold castB
          rw [List.all_eq_false]
          exact ⟨h, List.mem_of_getElem? HH.out, by rw [hp]; simp⟩)
        obtain ⟨r, hr, hr8, hr2⟩ : ∃ r, r = h.right ∧ rightAt k = r ∧ (r = 1 ∧ rightAt (k + 1) = 2 ∨ r = 2 ∧ rightAt (k + 1) = 4 ∨ r = 4 ∧ rightAt (k + 1) = 8 ∨ r = 8 ∧ rightAt (k + 1) = 16) := ⟨_, rfl, right_of hh, right_next hh⟩
        have HCP := Lib.hid (show castP b c h = !(hasR c r && !(backedB b r)) by rw [hr]; rfl)
        rw [hr8]
        clear hk g0 hh hnext hr hr8
        rcases hr2 with ⟨rfl, hr3⟩ | ⟨rfl, hr3⟩ | ⟨rfl, hr3⟩ | ⟨rfl, hr3⟩
        · have HR3 := Lib.hid hr3
          clear hr3
          cases k1 : hasR c 1
          · have HP := Lib.hid (show castP b c h = true by rw [HCP.out, k1]; rfl)
            go_wp2_with (first
                | (refine load_at _ rfl rfl w.heap.size rfl b t c e HB.out HA.out.obj ?_)
                | (refine load_row rfl 37 _ rfl _ rfl 37 _ (0, 0) _ HA.out.obj Try.underlying37 rfl HZ.out ?_)
                | (go_at_call 33; refine (r3_Wrong b HB.out _).mono ?_; rw [HW.out]; rintro x w1 ⟨rfl, hb1⟩; have HA := Lib.hid (HA.out.step hb1); obtain ⟨hc1, hc2, hc3⟩ := lies_pos HB.out HA.out)
                | (go_at_call 28; refine (r8_Passed b HB.out t c e _).mono ?_; rintro x w1 ⟨rfl, hb1⟩; have HA := Lib.hid (HA.out.step hb1); obtain ⟨hc1, hc2, hc3⟩ := lies_pos HB.out HA.out)
                | (go_at_call 58; refine (r8_Has c _ (by have := HC0.out; omega) (by have := HC0.out; omega) (by simp) _).mono ?_; rintro x w1 ⟨rfl, rfl⟩)
                | (go_at_call 30; refine (r8_Backed b HB.out _ _).mono ?_; rintro x w1 ⟨rfl, hb1⟩; have HA := Lib.hid (HA.out.step hb1); obtain ⟨hc1, hc2, hc3⟩ := lies_pos HB.out HA.out))
            go_roundg (gk - 1)
            case measure => have := HG.out; omega
            case rel => exact ⟨k + 1, by have := HK.out; have := HG.out; omega, by rw [HR3.out], HA.out, HX.out HP.out⟩
          · cases k2 : backedB b 1
            · have V := Lib.hid (show vv = 10 by rw [HVV.out, HV.out (by rw [HCP.out, k1, k2]; rfl)]; rfl)
              go_wp2_with (first
                | (refine load_at _ rfl rfl w.heap.size rfl b t c e HB.out HA.out.obj ?_)
                | (refine load_row rfl 37 _ rfl _ rfl 37 _ (0, 0) _ HA.out.obj Try.underlying37 rfl HZ.out ?_)
                | (go_at_call 33; refine (r3_Wrong b HB.out _).mono ?_; rw [HW.out]; rintro x w1 ⟨rfl, hb1⟩; have HA := Lib.hid (HA.out.step hb1); obtain ⟨hc1, hc2, hc3⟩ := lies_pos HB.out HA.out)
                | (go_at_call 28; refine (r8_Passed b HB.out t c e _).mono ?_; rintro x w1 ⟨rfl, hb1⟩; have HA := Lib.hid (HA.out.step hb1); obtain ⟨hc1, hc2, hc3⟩ := lies_pos HB.out HA.out)
                | (go_at_call 58; refine (r8_Has c _ (by have := HC0.out; omega) (by have := HC0.out; omega) (by simp) _).mono ?_; rintro x w1 ⟨rfl, rfl⟩)
                | (go_at_call 30; refine (r8_Backed b HB.out _ _).mono ?_; rintro x w1 ⟨rfl, hb1⟩; have HA := Lib.hid (HA.out.step hb1); obtain ⟨hc1, hc2, hc3⟩ := lies_pos HB.out HA.out))
              go_ret
              exact ⟨re_int V.out.symm, HA.out.below⟩
            · have HP := Lib.hid (show castP b c h = true by rw [HCP.out, k1, k2]; rfl)
              go_wp2_with (first
                | (refine load_at _ rfl rfl w.heap.size rfl b t c e HB.out HA.out.obj ?_)
                | (refine load_row rfl 37 _ rfl _ rfl 37 _ (0, 0) _ HA.out.obj Try.underlying37 rfl HZ.out ?_)
                | (go_at_call 33; refine (r3_Wrong b HB.out _).mono ?_; rw [HW.out]; rintro x w1 ⟨rfl, hb1⟩; have HA := Lib.hid (HA.out.step hb1); obtain ⟨hc1, hc2, hc3⟩ := lies_pos HB.out HA.out)
                | (go_at_call 28; refine (r8_Passed b HB.out t c e _).mono ?_; rintro x w1 ⟨rfl, hb1⟩; have HA := Lib.hid (HA.out.step hb1); obtain ⟨hc1, hc2, hc3⟩ := lies_pos HB.out HA.out)
                | (go_at_call 58; refine (r8_Has c _ (by have := HC0.out; omega) (by have := HC0.out; omega) (by simp) _).mono ?_; rintro x w1 ⟨rfl, rfl⟩)
                | (go_at_call 30; refine (r8_Backed b HB.out _ _).mono ?_; rintro x w1 ⟨rfl, hb1⟩; have HA := Lib.hid (HA.out.step hb1); obtain ⟨hc1, hc2, hc3⟩ := lies_pos HB.out HA.out))
              go_roundg (gk - 1)
              case measure => have := HG.out; omega
              case rel => exact ⟨k + 1, by have := HK.out; have := HG.out; omega, by rw [HR3.out], HA.out, HX.out HP.out⟩
        · have HR3 := Lib.hid hr3
          clear hr3
          cases k1 : hasR c 2
          · have HP := Lib.hid (show castP b c h = true by rw [HCP.out, k1]; rfl)
            go_wp2_with (first
                | (refine load_at _ rfl rfl w.heap.size rfl b t c e HB.out HA.out.obj ?_)
                | (refine load_row rfl 37 _ rfl _ rfl 37 _ (0, 0) _ HA.out.obj Try.underlying37 rfl HZ.out ?_)
                | (go_at_call 33; refine (r3_Wrong b HB.out _).mono ?_; rw [HW.out]; rintro x w1 ⟨rfl, hb1⟩; have HA := Lib.hid (HA.out.step hb1); obtain ⟨hc1, hc2, hc3⟩ := lies_pos HB.out HA.out)
                | (go_at_call 28; refine (r8_Passed b HB.out t c e _).mono ?_; rintro x w1 ⟨rfl, hb1⟩; have HA := Lib.hid (HA.out.step hb1); obtain ⟨hc1, hc2, hc3⟩ := lies_pos HB.out HA.out)
                | (go_at_call 58; refine (r8_Has c _ (by have := HC0.out; omega) (by have := HC0.out; omega) (by simp) _).mono ?_; rintro x w1 ⟨rfl, rfl⟩)
                | (go_at_call 30; refine (r8_Backed b HB.out _ _).mono ?_; rintro x w1 ⟨rfl, hb1⟩; have HA := Lib.hid (HA.out.step hb1); obtain ⟨hc1, hc2, hc3⟩ := lies_pos HB.out HA.out))
            go_roundg (gk - 1)
            case measure => have := HG.out; omega
            case rel => exact ⟨k + 1, by have := HK.out; have := HG.out; omega, by rw [HR3.out], HA.out, HX.out HP.out⟩
          · cases k2 : backedB b 2
            · have V := Lib.hid (show vv = 10 by rw [HVV.out, HV.out (by rw [HCP.out, k1, k2]; rfl)]; rfl)
              go_wp2_with (first
                | (refine load_at _ rfl rfl w.heap.size rfl b t c e HB.out HA.out.obj ?_)
                | (refine load_row rfl 37 _ rfl _ rfl 37 _ (0, 0) _ HA.out.obj Try.underlying37 rfl HZ.out ?_)
                | (go_at_call 33; refine (r3_Wrong b HB.out _).mono ?_; rw [HW.out]; rintro x w1 ⟨rfl, hb1⟩; have HA := Lib.hid (HA.out.step hb1); obtain ⟨hc1, hc2, hc3⟩ := lies_pos HB.out HA.out)
                | (go_at_call 28; refine (r8_Passed b HB.out t c e _).mono ?_; rintro x w1 ⟨rfl, hb1⟩; have HA := Lib.hid (HA.out.step hb1); obtain ⟨hc1, hc2, hc3⟩ := lies_pos HB.out HA.out)
                | (go_at_call 58; refine (r8_Has c _ (by have := HC0.out; omega) (by have := HC0.out; omega) (by simp) _).mono ?_; rintro x w1 ⟨rfl, rfl⟩)
                | (go_at_call 30; refine (r8_Backed b HB.out _ _).mono ?_; rintro x w1 ⟨rfl, hb1⟩; have HA := Lib.hid (HA.out.step hb1); obtain ⟨hc1, hc2, hc3⟩ := lies_pos HB.out HA.out))
              go_ret
              exact ⟨re_int V.out.symm, HA.out.below⟩
            · have HP := Lib.hid (show castP b c h = true by rw [HCP.out, k1, k2]; rfl)
              go_wp2_with (first
                | (refine load_at _ rfl rfl w.heap.size rfl b t c e HB.out HA.out.obj ?_)
                | (refine load_row rfl 37 _ rfl _ rfl 37 _ (0, 0) _ HA.out.obj Try.underlying37 rfl HZ.out ?_)
                | (go_at_call 33; refine (r3_Wrong b HB.out _).mono ?_; rw [HW.out]; rintro x w1 ⟨rfl, hb1⟩; have HA := Lib.hid (HA.out.step hb1); obtain ⟨hc1, hc2, hc3⟩ := lies_pos HB.out HA.out)
                | (go_at_call 28; refine (r8_Passed b HB.out t c e _).mono ?_; rintro x w1 ⟨rfl, hb1⟩; have HA := Lib.hid (HA.out.step hb1); obtain ⟨hc1, hc2, hc3⟩ := lies_pos HB.out HA.out)
                | (go_at_call 58; refine (r8_Has c _ (by have := HC0.out; omega) (by have := HC0.out; omega) (by simp) _).mono ?_; rintro x w1 ⟨rfl, rfl⟩)
                | (go_at_call 30; refine (r8_Backed b HB.out _ _).mono ?_; rintro x w1 ⟨rfl, hb1⟩; have HA := Lib.hid (HA.out.step hb1); obtain ⟨hc1, hc2, hc3⟩ := lies_pos HB.out HA.out))
              go_roundg (gk - 1)
              case measure => have := HG.out; omega
              case rel => exact ⟨k + 1, by have := HK.out; have := HG.out; omega, by rw [HR3.out], HA.out, HX.out HP.out⟩
        · have HR3 := Lib.hid hr3
          clear hr3
          cases k1 : hasR c 4
          · have HP := Lib.hid (show castP b c h = true by rw [HCP.out, k1]; rfl)
            go_wp2_with (first
                | (refine load_at _ rfl rfl w.heap.size rfl b t c e HB.out HA.out.obj ?_)
                | (refine load_row rfl 37 _ rfl _ rfl 37 _ (0, 0) _ HA.out.obj Try.underlying37 rfl HZ.out ?_)
                | (go_at_call 33; refine (r3_Wrong b HB.out _).mono ?_; rw [HW.out]; rintro x w1 ⟨rfl, hb1⟩; have HA := Lib.hid (HA.out.step hb1); obtain ⟨hc1, hc2, hc3⟩ := lies_pos HB.out HA.out)
                | (go_at_call 28; refine (r8_Passed b HB.out t c e _).mono ?_; rintro x w1 ⟨rfl, hb1⟩; have HA := Lib.hid (HA.out.step hb1); obtain ⟨hc1, hc2, hc3⟩ := lies_pos HB.out HA.out)
                | (go_at_call 58; refine (r8_Has c _ (by have := HC0.out; omega) (by have := HC0.out; omega) (by simp) _).mono ?_; rintro x w1 ⟨rfl, rfl⟩)
                | (go_at_call 30; refine (r8_Backed b HB.out _ _).mono ?_; rintro x w1 ⟨rfl, hb1⟩; have HA := Lib.hid (HA.out.step hb1); obtain ⟨hc1, hc2, hc3⟩ := lies_pos HB.out HA.out))
            go_roundg (gk - 1)
            case measure => have := HG.out; omega
            case rel => exact ⟨k + 1, by have := HK.out; have := HG.out; omega, by rw [HR3.out], HA.out, HX.out HP.out⟩
          · cases k2 : backedB b 4
            · have V := Lib.hid (show vv = 10 by rw [HVV.out, HV.out (by rw [HCP.out, k1, k2]; rfl)]; rfl)
              go_wp2_with (first
                | (refine load_at _ rfl rfl w.heap.size rfl b t c e HB.out HA.out.obj ?_)
                | (refine load_row rfl 37 _ rfl _ rfl 37 _ (0, 0) _ HA.out.obj Try.underlying37 rfl HZ.out ?_)
                | (go_at_call 33; refine (r3_Wrong b HB.out _).mono ?_; rw [HW.out]; rintro x w1 ⟨rfl, hb1⟩; have HA := Lib.hid (HA.out.step hb1); obtain ⟨hc1, hc2, hc3⟩ := lies_pos HB.out HA.out)
                | (go_at_call 28; refine (r8_Passed b HB.out t c e _).mono ?_; rintro x w1 ⟨rfl, hb1⟩; have HA := Lib.hid (HA.out.step hb1); obtain ⟨hc1, hc2, hc3⟩ := lies_pos HB.out HA.out)
                | (go_at_call 58; refine (r8_Has c _ (by have := HC0.out; omega) (by have := HC0.out; omega) (by simp) _).mono ?_; rintro x w1 ⟨rfl, rfl⟩)
                | (go_at_call 30; refine (r8_Backed b HB.out _ _).mono ?_; rintro x w1 ⟨rfl, hb1⟩; have HA := Lib.hid (HA.out.step hb1); obtain ⟨hc1, hc2, hc3⟩ := lies_pos HB.out HA.out))
              go_ret
              exact ⟨re_int V.out.symm, HA.out.below⟩
            · have HP := Lib.hid (show castP b c h = true by rw [HCP.out, k1, k2]; rfl)
              go_wp2_with (first
                | (refine load_at _ rfl rfl w.heap.size rfl b t c e HB.out HA.out.obj ?_)
                | (refine load_row rfl 37 _ rfl _ rfl 37 _ (0, 0) _ HA.out.obj Try.underlying37 rfl HZ.out ?_)
                | (go_at_call 33; refine (r3_Wrong b HB.out _).mono ?_; rw [HW.out]; rintro x w1 ⟨rfl, hb1⟩; have HA := Lib.hid (HA.out.step hb1); obtain ⟨hc1, hc2, hc3⟩ := lies_pos HB.out HA.out)
                | (go_at_call 28; refine (r8_Passed b HB.out t c e _).mono ?_; rintro x w1 ⟨rfl, hb1⟩; have HA := Lib.hid (HA.out.step hb1); obtain ⟨hc1, hc2, hc3⟩ := lies_pos HB.out HA.out)
                | (go_at_call 58; refine (r8_Has c _ (by have := HC0.out; omega) (by have := HC0.out; omega) (by simp) _).mono ?_; rintro x w1 ⟨rfl, rfl⟩)
                | (go_at_call 30; refine (r8_Backed b HB.out _ _).mono ?_; rintro x w1 ⟨rfl, hb1⟩; have HA := Lib.hid (HA.out.step hb1); obtain ⟨hc1, hc2, hc3⟩ := lies_pos HB.out HA.out))
              go_roundg (gk - 1)
              case measure => have := HG.out; omega
              case rel => exact ⟨k + 1, by have := HK.out; have := HG.out; omega, by rw [HR3.out], HA.out, HX.out HP.out⟩
        · have HR3 := Lib.hid hr3
          clear hr3
          cases k1 : hasR c 8
          · have HP := Lib.hid (show castP b c h = true by rw [HCP.out, k1]; rfl)
            go_wp2_with (first
                | (refine load_at _ rfl rfl w.heap.size rfl b t c e HB.out HA.out.obj ?_)
                | (refine load_row rfl 37 _ rfl _ rfl 37 _ (0, 0) _ HA.out.obj Try.underlying37 rfl HZ.out ?_)
                | (go_at_call 33; refine (r3_Wrong b HB.out _).mono ?_; rw [HW.out]; rintro x w1 ⟨rfl, hb1⟩; have HA := Lib.hid (HA.out.step hb1); obtain ⟨hc1, hc2, hc3⟩ := lies_pos HB.out HA.out)
                | (go_at_call 28; refine (r8_Passed b HB.out t c e _).mono ?_; rintro x w1 ⟨rfl, hb1⟩; have HA := Lib.hid (HA.out.step hb1); obtain ⟨hc1, hc2, hc3⟩ := lies_pos HB.out HA.out)
                | (go_at_call 58; refine (r8_Has c _ (by have := HC0.out; omega) (by have := HC0.out; omega) (by simp) _).mono ?_; rintro x w1 ⟨rfl, rfl⟩)
                | (go_at_call 30; refine (r8_Backed b HB.out _ _).mono ?_; rintro x w1 ⟨rfl, hb1⟩; have HA := Lib.hid (HA.out.step hb1); obtain ⟨hc1, hc2, hc3⟩ := lies_pos HB.out HA.out))
            go_roundg (gk - 1)
            case measure => have := HG.out; omega
            case rel => exact ⟨k + 1, by have := HK.out; have := HG.out; omega, by rw [HR3.out], HA.out, HX.out HP.out⟩
          · cases k2 : backedB b 8
            · have V := Lib.hid (show vv = 10 by rw [HVV.out, HV.out (by rw [HCP.out, k1, k2]; rfl)]; rfl)
              go_wp2_with (first
                | (refine load_at _ rfl rfl w.heap.size rfl b t c e HB.out HA.out.obj ?_)
                | (refine load_row rfl 37 _ rfl _ rfl 37 _ (0, 0) _ HA.out.obj Try.underlying37 rfl HZ.out ?_)
                | (go_at_call 33; refine (r3_Wrong b HB.out _).mono ?_; rw [HW.out]; rintro x w1 ⟨rfl, hb1⟩; have HA := Lib.hid (HA.out.step hb1); obtain ⟨hc1, hc2, hc3⟩ := lies_pos HB.out HA.out)
                | (go_at_call 28; refine (r8_Passed b HB.out t c e _).mono ?_; rintro x w1 ⟨rfl, hb1⟩; have HA := Lib.hid (HA.out.step hb1); obtain ⟨hc1, hc2, hc3⟩ := lies_pos HB.out HA.out)
                | (go_at_call 58; refine (r8_Has c _ (by have := HC0.out; omega) (by have := HC0.out; omega) (by simp) _).mono ?_; rintro x w1 ⟨rfl, rfl⟩)
                | (go_at_call 30; refine (r8_Backed b HB.out _ _).mono ?_; rintro x w1 ⟨rfl, hb1⟩; have HA := Lib.hid (HA.out.step hb1); obtain ⟨hc1, hc2, hc3⟩ := lies_pos HB.out HA.out))
              go_ret
              exact ⟨re_int V.out.symm, HA.out.below⟩
            · have HP := Lib.hid (show castP b c h = true by rw [HCP.out, k1, k2]; rfl)
              go_wp2_with (first
                | (refine load_at _ rfl rfl w.heap.size rfl b t c e HB.out HA.out.obj ?_)
                | (refine load_row rfl 37 _ rfl _ rfl 37 _ (0, 0) _ HA.out.obj Try.underlying37 rfl HZ.out ?_)
                | (go_at_call 33; refine (r3_Wrong b HB.out _).mono ?_; rw [HW.out]; rintro x w1 ⟨rfl, hb1⟩; have HA := Lib.hid (HA.out.step hb1); obtain ⟨hc1, hc2, hc3⟩ := lies_pos HB.out HA.out)
                | (go_at_call 28; refine (r8_Passed b HB.out t c e _).mono ?_; rintro x w1 ⟨rfl, hb1⟩; have HA := Lib.hid (HA.out.step hb1); obtain ⟨hc1, hc2, hc3⟩ := lies_pos HB.out HA.out)
                | (go_at_call 58; refine (r8_Has c _ (by have := HC0.out; omega) (by have := HC0.out; omega) (by simp) _).mono ?_; rintro x w1 ⟨rfl, rfl⟩)
                | (go_at_call 30; refine (r8_Backed b HB.out _ _).mono ?_; rintro x w1 ⟨rfl, hb1⟩; have HA := Lib.hid (HA.out.step hb1); obtain ⟨hc1, hc2, hc3⟩ := lies_pos HB.out HA.out))
              go_roundg (gk - 1)
              case measure => have := HG.out; omega
              case rel => exact ⟨k + 1, by have := HK.out; have := HG.out; omega, by rw [HR3.out], HA.out, HX.out HP.out⟩
end Go.Proofs.Ytibaembmdcdbkaa
