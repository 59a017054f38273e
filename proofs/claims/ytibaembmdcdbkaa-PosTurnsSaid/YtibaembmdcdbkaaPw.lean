import Derived.Test.YtibaembmdcdbkaaPr
namespace Go.Proofs.Ytibaembmdcdbkaa
open Go.RowKit Alf

/-! pos.Wrong, way by way -/

set_option maxHeartbeats 1600000 in
set_option maxRecDepth 100000 in
theorem w_board (b : List Int) (hb : BOk b) (t c e : Int) (v : Int) (hW : bWrong b = v) (hv : (v != 0) = true) (w : World) : Calls Try.prog 25 #[.agg (posC b t c e)] w fun x w' => x = .returned (.int .i64 v) ∧ Below w.heap.size w w' := by
  have HA := Lib.hid (Lies.start w (posO b t c e))
  have HB := Lib.hid hb
  have HZ := Lib.hid (pos_info b hb t c e)
  obtain ⟨hc1, hc2, hc3⟩ := lies_pos HB.out HA.out
  clear hb
  have HW := Lib.hid hW
  go_enter Try.func25, Try.ntmps25
  go_wp2_with (first
    | (refine load_at _ rfl rfl w.heap.size rfl b t c e HB.out HA.out.obj ?_)
    | (refine load_row rfl 37 _ rfl _ rfl 37 _ (0, 0) _ HA.out.obj Try.underlying37 rfl HZ.out ?_)
    | (go_at_call 54; refine (board_Wrong b HB.out _).mono ?_; rw [HW.out]; rintro x w1 ⟨rfl, hb1⟩; have HA := Lib.hid (HA.out.step hb1); obtain ⟨hc1, hc2, hc3⟩ := lies_pos HB.out HA.out)
    | (go_at_call 27; refine (pos_Passed b HB.out t c e _).mono ?_; rintro x w1 ⟨rfl, hb1⟩; have HA := Lib.hid (HA.out.step hb1); obtain ⟨hc1, hc2, hc3⟩ := lies_pos HB.out HA.out)
    | (go_at_call 41; refine (men_Other _ _).mono ?_; rw [HO.out]; rintro x w1 ⟨rfl, rfl⟩)
    | (go_at_call 56; refine (pos_castles b HB.out t c e (by have := HC0.out; omega) (by have := HC0.out; omega) _).mono ?_; rw [HK.out]; rintro x w1 ⟨rfl, hb1⟩; have HA := Lib.hid (HA.out.step hb1); obtain ⟨hc1, hc2, hc3⟩ := lies_pos HB.out HA.out))
  go_ret
  exact ⟨rfl, HA.out.below⟩

set_option maxHeartbeats 1600000 in
set_option maxRecDepth 100000 in
theorem w_turn (b : List Int) (hb : BOk b) (t c e : Int) (hW : bWrong b = 0) (h : ¬ (t = 0 ∨ t = 1)) (w : World) : Calls Try.prog 25 #[.agg (posC b t c e)] w fun x w' => x = .returned (.int .i64 5) ∧ Below w.heap.size w w' := by
  have HA := Lib.hid (Lies.start w (posO b t c e))
  have HB := Lib.hid hb
  have HZ := Lib.hid (pos_info b hb t c e)
  obtain ⟨hc1, hc2, hc3⟩ := lies_pos HB.out HA.out
  clear hb
  have HW := Lib.hid hW
  have HO := Lib.hid (show mOther t = -1 by unfold mOther; rw [if_neg h])
  clear h hW
  go_enter Try.func25, Try.ntmps25
  go_wp2_with (first
    | (refine load_at _ rfl rfl w.heap.size rfl b t c e HB.out HA.out.obj ?_)
    | (refine load_row rfl 37 _ rfl _ rfl 37 _ (0, 0) _ HA.out.obj Try.underlying37 rfl HZ.out ?_)
    | (go_at_call 54; refine (board_Wrong b HB.out _).mono ?_; rw [HW.out]; rintro x w1 ⟨rfl, hb1⟩; have HA := Lib.hid (HA.out.step hb1); obtain ⟨hc1, hc2, hc3⟩ := lies_pos HB.out HA.out)
    | (go_at_call 27; refine (pos_Passed b HB.out t c e _).mono ?_; rintro x w1 ⟨rfl, hb1⟩; have HA := Lib.hid (HA.out.step hb1); obtain ⟨hc1, hc2, hc3⟩ := lies_pos HB.out HA.out)
    | (go_at_call 41; refine (men_Other _ _).mono ?_; rw [HO.out]; rintro x w1 ⟨rfl, rfl⟩)
    | (go_at_call 56; refine (pos_castles b HB.out t c e (by have := HC0.out; omega) (by have := HC0.out; omega) _).mono ?_; rw [HK.out]; rintro x w1 ⟨rfl, hb1⟩; have HA := Lib.hid (HA.out.step hb1); obtain ⟨hc1, hc2, hc3⟩ := lies_pos HB.out HA.out))
  go_ret
  exact ⟨rfl, HA.out.below⟩

set_option maxHeartbeats 1600000 in
set_option maxRecDepth 100000 in
theorem w_c0 (b : List Int) (hb : BOk b) (t c e : Int) (hW : bWrong b = 0) (h : t = 0 ∨ t = 1) (g1 : decide (c < 0) = true) (w : World) : Calls Try.prog 25 #[.agg (posC b t c e)] w fun x w' => x = .returned (.int .i64 5) ∧ Below w.heap.size w w' := by
  have HA := Lib.hid (Lies.start w (posO b t c e))
  have HB := Lib.hid hb
  have HZ := Lib.hid (pos_info b hb t c e)
  obtain ⟨hc1, hc2, hc3⟩ := lies_pos HB.out HA.out
  clear hb
  have HW := Lib.hid hW
  have HO := Lib.hid (show mOther t = 1 - t by unfold mOther; rw [if_pos (by omega)])
  have q0 : decide (1 - t < 0) = false := by simp; omega
  clear h hW
  go_enter Try.func25, Try.ntmps25
  go_wp2_with (first
    | (refine load_at _ rfl rfl w.heap.size rfl b t c e HB.out HA.out.obj ?_)
    | (refine load_row rfl 37 _ rfl _ rfl 37 _ (0, 0) _ HA.out.obj Try.underlying37 rfl HZ.out ?_)
    | (go_at_call 54; refine (board_Wrong b HB.out _).mono ?_; rw [HW.out]; rintro x w1 ⟨rfl, hb1⟩; have HA := Lib.hid (HA.out.step hb1); obtain ⟨hc1, hc2, hc3⟩ := lies_pos HB.out HA.out)
    | (go_at_call 27; refine (pos_Passed b HB.out t c e _).mono ?_; rintro x w1 ⟨rfl, hb1⟩; have HA := Lib.hid (HA.out.step hb1); obtain ⟨hc1, hc2, hc3⟩ := lies_pos HB.out HA.out)
    | (go_at_call 41; refine (men_Other _ _).mono ?_; rw [HO.out]; rintro x w1 ⟨rfl, rfl⟩)
    | (go_at_call 56; refine (pos_castles b HB.out t c e (by have := HC0.out; omega) (by have := HC0.out; omega) _).mono ?_; rw [HK.out]; rintro x w1 ⟨rfl, hb1⟩; have HA := Lib.hid (HA.out.step hb1); obtain ⟨hc1, hc2, hc3⟩ := lies_pos HB.out HA.out))
  go_ret
  exact ⟨rfl, HA.out.below⟩

set_option maxHeartbeats 1600000 in
set_option maxRecDepth 100000 in
theorem w_c1 (b : List Int) (hb : BOk b) (t c e : Int) (hW : bWrong b = 0) (h : t = 0 ∨ t = 1) (g1 : decide (c < 0) = false) (g2 : decide (15 < c) = true) (w : World) : Calls Try.prog 25 #[.agg (posC b t c e)] w fun x w' => x = .returned (.int .i64 5) ∧ Below w.heap.size w w' := by
  have HA := Lib.hid (Lies.start w (posO b t c e))
  have HB := Lib.hid hb
  have HZ := Lib.hid (pos_info b hb t c e)
  obtain ⟨hc1, hc2, hc3⟩ := lies_pos HB.out HA.out
  clear hb
  have HW := Lib.hid hW
  have HO := Lib.hid (show mOther t = 1 - t by unfold mOther; rw [if_pos (by omega)])
  have q0 : decide (1 - t < 0) = false := by simp; omega
  clear h hW
  go_enter Try.func25, Try.ntmps25
  go_wp2_with (first
    | (refine load_at _ rfl rfl w.heap.size rfl b t c e HB.out HA.out.obj ?_)
    | (refine load_row rfl 37 _ rfl _ rfl 37 _ (0, 0) _ HA.out.obj Try.underlying37 rfl HZ.out ?_)
    | (go_at_call 54; refine (board_Wrong b HB.out _).mono ?_; rw [HW.out]; rintro x w1 ⟨rfl, hb1⟩; have HA := Lib.hid (HA.out.step hb1); obtain ⟨hc1, hc2, hc3⟩ := lies_pos HB.out HA.out)
    | (go_at_call 27; refine (pos_Passed b HB.out t c e _).mono ?_; rintro x w1 ⟨rfl, hb1⟩; have HA := Lib.hid (HA.out.step hb1); obtain ⟨hc1, hc2, hc3⟩ := lies_pos HB.out HA.out)
    | (go_at_call 41; refine (men_Other _ _).mono ?_; rw [HO.out]; rintro x w1 ⟨rfl, rfl⟩)
    | (go_at_call 56; refine (pos_castles b HB.out t c e (by have := HC0.out; omega) (by have := HC0.out; omega) _).mono ?_; rw [HK.out]; rintro x w1 ⟨rfl, hb1⟩; have HA := Lib.hid (HA.out.step hb1); obtain ⟨hc1, hc2, hc3⟩ := lies_pos HB.out HA.out))
  go_ret
  exact ⟨rfl, HA.out.below⟩

set_option maxHeartbeats 1600000 in
set_option maxRecDepth 100000 in
theorem w_e0 (b : List Int) (hb : BOk b) (t c e : Int) (hW : bWrong b = 0) (h : t = 0 ∨ t = 1) (g1 : decide (c < 0) = false) (g2 : decide (15 < c) = false) (g3 : decide (e < -1) = true) (w : World) : Calls Try.prog 25 #[.agg (posC b t c e)] w fun x w' => x = .returned (.int .i64 5) ∧ Below w.heap.size w w' := by
  have HA := Lib.hid (Lies.start w (posO b t c e))
  have HB := Lib.hid hb
  have HZ := Lib.hid (pos_info b hb t c e)
  obtain ⟨hc1, hc2, hc3⟩ := lies_pos HB.out HA.out
  clear hb
  have HW := Lib.hid hW
  have HO := Lib.hid (show mOther t = 1 - t by unfold mOther; rw [if_pos (by omega)])
  have q0 : decide (1 - t < 0) = false := by simp; omega
  clear h hW
  go_enter Try.func25, Try.ntmps25
  go_wp2_with (first
    | (refine load_at _ rfl rfl w.heap.size rfl b t c e HB.out HA.out.obj ?_)
    | (refine load_row rfl 37 _ rfl _ rfl 37 _ (0, 0) _ HA.out.obj Try.underlying37 rfl HZ.out ?_)
    | (go_at_call 54; refine (board_Wrong b HB.out _).mono ?_; rw [HW.out]; rintro x w1 ⟨rfl, hb1⟩; have HA := Lib.hid (HA.out.step hb1); obtain ⟨hc1, hc2, hc3⟩ := lies_pos HB.out HA.out)
    | (go_at_call 27; refine (pos_Passed b HB.out t c e _).mono ?_; rintro x w1 ⟨rfl, hb1⟩; have HA := Lib.hid (HA.out.step hb1); obtain ⟨hc1, hc2, hc3⟩ := lies_pos HB.out HA.out)
    | (go_at_call 41; refine (men_Other _ _).mono ?_; rw [HO.out]; rintro x w1 ⟨rfl, rfl⟩)
    | (go_at_call 56; refine (pos_castles b HB.out t c e (by have := HC0.out; omega) (by have := HC0.out; omega) _).mono ?_; rw [HK.out]; rintro x w1 ⟨rfl, hb1⟩; have HA := Lib.hid (HA.out.step hb1); obtain ⟨hc1, hc2, hc3⟩ := lies_pos HB.out HA.out))
  go_ret
  exact ⟨rfl, HA.out.below⟩

set_option maxHeartbeats 1600000 in
set_option maxRecDepth 100000 in
theorem w_e1 (b : List Int) (hb : BOk b) (t c e : Int) (hW : bWrong b = 0) (h : t = 0 ∨ t = 1) (g1 : decide (c < 0) = false) (g2 : decide (15 < c) = false) (g3 : decide (e < -1) = false) (g4 : decide (64 ≤ e) = true) (w : World) : Calls Try.prog 25 #[.agg (posC b t c e)] w fun x w' => x = .returned (.int .i64 5) ∧ Below w.heap.size w w' := by
  have HA := Lib.hid (Lies.start w (posO b t c e))
  have HB := Lib.hid hb
  have HZ := Lib.hid (pos_info b hb t c e)
  obtain ⟨hc1, hc2, hc3⟩ := lies_pos HB.out HA.out
  clear hb
  have HW := Lib.hid hW
  have HO := Lib.hid (show mOther t = 1 - t by unfold mOther; rw [if_pos (by omega)])
  have q0 : decide (1 - t < 0) = false := by simp; omega
  clear h hW
  go_enter Try.func25, Try.ntmps25
  go_wp2_with (first
    | (refine load_at _ rfl rfl w.heap.size rfl b t c e HB.out HA.out.obj ?_)
    | (refine load_row rfl 37 _ rfl _ rfl 37 _ (0, 0) _ HA.out.obj Try.underlying37 rfl HZ.out ?_)
    | (go_at_call 54; refine (board_Wrong b HB.out _).mono ?_; rw [HW.out]; rintro x w1 ⟨rfl, hb1⟩; have HA := Lib.hid (HA.out.step hb1); obtain ⟨hc1, hc2, hc3⟩ := lies_pos HB.out HA.out)
    | (go_at_call 27; refine (pos_Passed b HB.out t c e _).mono ?_; rintro x w1 ⟨rfl, hb1⟩; have HA := Lib.hid (HA.out.step hb1); obtain ⟨hc1, hc2, hc3⟩ := lies_pos HB.out HA.out)
    | (go_at_call 41; refine (men_Other _ _).mono ?_; rw [HO.out]; rintro x w1 ⟨rfl, rfl⟩)
    | (go_at_call 56; refine (pos_castles b HB.out t c e (by have := HC0.out; omega) (by have := HC0.out; omega) _).mono ?_; rw [HK.out]; rintro x w1 ⟨rfl, hb1⟩; have HA := Lib.hid (HA.out.step hb1); obtain ⟨hc1, hc2, hc3⟩ := lies_pos HB.out HA.out))
  go_ret
  exact ⟨rfl, HA.out.below⟩

set_option maxHeartbeats 1600000 in
set_option maxRecDepth 100000 in
theorem w_touch (b : List Int) (hb : BOk b) (t c e : Int) (hW : bWrong b = 0) (h : t = 0 ∨ t = 1) (g1 : decide (c < 0) = false) (g2 : decide (15 < c) = false) (g3 : decide (e < -1) = false) (g4 : decide (64 ≤ e) = false) (hT : touchB b = true) (w : World) : Calls Try.prog 25 #[.agg (posC b t c e)] w fun x w' => x = .returned (.int .i64 9) ∧ Below w.heap.size w w' := by
  have HA := Lib.hid (Lies.start w (posO b t c e))
  have HB := Lib.hid hb
  have HZ := Lib.hid (pos_info b hb t c e)
  obtain ⟨hc1, hc2, hc3⟩ := lies_pos HB.out HA.out
  clear hb
  have HW := Lib.hid hW
  have HO := Lib.hid (show mOther t = 1 - t by unfold mOther; rw [if_pos (by omega)])
  have q0 : decide (1 - t < 0) = false := by simp; omega
  have HC0 := Lib.hid (show 0 ≤ c ∧ c ≤ 15 by simp at g1 g2; omega)
  clear h hW
  have HT := Lib.hid hT
  clear hT
  go_enter Try.func25, Try.ntmps25
  go_wp2_with (first
    | (refine load_at _ rfl rfl w.heap.size rfl b t c e HB.out HA.out.obj ?_)
    | (refine load_row rfl 37 _ rfl _ rfl 37 _ (0, 0) _ HA.out.obj Try.underlying37 rfl HZ.out ?_)
    | (go_at_call 54; refine (board_Wrong b HB.out _).mono ?_; rw [HW.out]; rintro x w1 ⟨rfl, hb1⟩; have HA := Lib.hid (HA.out.step hb1); obtain ⟨hc1, hc2, hc3⟩ := lies_pos HB.out HA.out)
    | (go_at_call 27; refine (pos_Passed b HB.out t c e _).mono ?_; rintro x w1 ⟨rfl, hb1⟩; have HA := Lib.hid (HA.out.step hb1); obtain ⟨hc1, hc2, hc3⟩ := lies_pos HB.out HA.out)
    | (go_at_call 41; refine (men_Other _ _).mono ?_; rw [HO.out]; rintro x w1 ⟨rfl, rfl⟩)
    | (go_at_call 56; refine (pos_castles b HB.out t c e (by have := HC0.out; omega) (by have := HC0.out; omega) _).mono ?_; rw [HK.out]; rintro x w1 ⟨rfl, hb1⟩; have HA := Lib.hid (HA.out.step hb1); obtain ⟨hc1, hc2, hc3⟩ := lies_pos HB.out HA.out))
  refine wp_region_sp (fun w' => Lies w (posO b t c e) w') [.val (.agg (posC b t c e)), .val (.bool true), .val (.bool true), .free, .free, .free, .free, .free, .free, .free, .val (.bool true), .val (.bool true)] _
    (fun u => by simp only [putAll, Nat.reduceAdd, Act.put, List.setIfInBounds_toArray, List.set_cons_zero, List.set_cons_succ]; exact rfl) (by kernel_rfl) (by kernel_rfl) (by kernel_rfl) (by kernel_rfl)
    (HA.out.step ((Below.refl _ _).drew)) (fun _ _ hs hs' => hs.step hs') ?_ ?_
  · repeat' (first | exact Ops.nil | refine Ops.cons (fun u w2 K hS hd hK => ?_) ?_)
    all_goals (simp only [Deps, Sp.at, Sp.holds, Region.binds, true_implies, and_true] at hd hK)
    all_goals (obtain ⟨hc1, hc2, hc3⟩ := lies_pos HB.out hS)
    all_goals first
      | (refine sp_load 37 _ rfl (by first | rfl | (simp only [hd]; rfl)) _ rfl 37 _ (0, 0) _ hS.obj Try.underlying37 rfl HZ.out ?_; exact hK.out _ _ (Below.refl _ _) rfl)
      | (refine sp_at _ rfl (by first | rfl | (simp only [hd]; rfl)) w.heap.size _ rfl (by simp only [hd]; rfl) b t c e HB.out hS.obj ?_; exact hK.out _ _ (Below.refl _ _) rfl)
      | (obtain ⟨⟨a1, e1⟩, hd1⟩ := hd
         simp only [e1, hd1] at hK ⊢
         go_simp
         go_at_call 21; refine (eye_Check a1 b HB.out (1 - t) _).mono ?_; rw [HCK.out]; rintro x w3 ⟨rfl, hb3⟩; exact hK.out _ _ hb3 rfl)
      | (try simp only [hd] at hK ⊢
         go_simp
         first
           | exact hK.out _ _ (Below.refl _ _) rfl
           | exact hK.out _ _ (Below.refl _ _)
           | (go_at_call 55; refine (pos_touch b HB.out t c e _).mono ?_; rw [HT.out]; rintro x w3 ⟨rfl, hb3⟩; exact hK.out _ _ hb3 rfl)
           | (go_at_call 13; refine (eye_New _).mono ?_; rintro x w3 ⟨a1, rfl, hb3⟩; exact hK.out _ _ hb3 ⟨a1, rfl⟩)
           | (go_at_call 41; refine (men_Other _ _).mono ?_; rw [HO.out]; rintro x w3 ⟨rfl, rfl⟩; exact hK.out _ _ (Below.refl _ _) rfl))
  · intro u w2 hS hall
    simp only [AllSp, Sp.holds, and_true, true_and, Nat.reduceAdd] at hall
    have hu : u 11 = .bool true := by simp only [hall]
    simp only [hu]
    have HA := Lib.hid hS
    obtain ⟨hc1, hc2, hc3⟩ := lies_pos HB.out HA.out
    clear hall hu hS
    go_wp2_with (first
    | (refine load_at _ rfl rfl w.heap.size rfl b t c e HB.out HA.out.obj ?_)
    | (refine load_row rfl 37 _ rfl _ rfl 37 _ (0, 0) _ HA.out.obj Try.underlying37 rfl HZ.out ?_)
    | (go_at_call 54; refine (board_Wrong b HB.out _).mono ?_; rw [HW.out]; rintro x w1 ⟨rfl, hb1⟩; have HA := Lib.hid (HA.out.step hb1); obtain ⟨hc1, hc2, hc3⟩ := lies_pos HB.out HA.out)
    | (go_at_call 27; refine (pos_Passed b HB.out t c e _).mono ?_; rintro x w1 ⟨rfl, hb1⟩; have HA := Lib.hid (HA.out.step hb1); obtain ⟨hc1, hc2, hc3⟩ := lies_pos HB.out HA.out)
    | (go_at_call 41; refine (men_Other _ _).mono ?_; rw [HO.out]; rintro x w1 ⟨rfl, rfl⟩)
    | (go_at_call 56; refine (pos_castles b HB.out t c e (by have := HC0.out; omega) (by have := HC0.out; omega) _).mono ?_; rw [HK.out]; rintro x w1 ⟨rfl, hb1⟩; have HA := Lib.hid (HA.out.step hb1); obtain ⟨hc1, hc2, hc3⟩ := lies_pos HB.out HA.out))
    go_ret
    exact ⟨rfl, HA.out.below⟩

set_option maxHeartbeats 1600000 in
set_option maxRecDepth 100000 in
theorem w_check (b : List Int) (hb : BOk b) (t c e : Int) (hW : bWrong b = 0) (h : t = 0 ∨ t = 1) (g1 : decide (c < 0) = false) (g2 : decide (15 < c) = false) (g3 : decide (e < -1) = false) (g4 : decide (64 ≤ e) = false) (hT : touchB b = false) (hK : pCheck b (1 - t) = true) (w : World) : Calls Try.prog 25 #[.agg (posC b t c e)] w fun x w' => x = .returned (.int .i64 9) ∧ Below w.heap.size w w' := by
  have HA := Lib.hid (Lies.start w (posO b t c e))
  have HB := Lib.hid hb
  have HZ := Lib.hid (pos_info b hb t c e)
  obtain ⟨hc1, hc2, hc3⟩ := lies_pos HB.out HA.out
  clear hb
  have HW := Lib.hid hW
  have HO := Lib.hid (show mOther t = 1 - t by unfold mOther; rw [if_pos (by omega)])
  have q0 : decide (1 - t < 0) = false := by simp; omega
  have HC0 := Lib.hid (show 0 ≤ c ∧ c ≤ 15 by simp at g1 g2; omega)
  clear h hW
  have HT := Lib.hid hT
  have HCK := Lib.hid hK
  clear hT hK
  go_enter Try.func25, Try.ntmps25
  go_wp2_with (first
    | (refine load_at _ rfl rfl w.heap.size rfl b t c e HB.out HA.out.obj ?_)
    | (refine load_row rfl 37 _ rfl _ rfl 37 _ (0, 0) _ HA.out.obj Try.underlying37 rfl HZ.out ?_)
    | (go_at_call 54; refine (board_Wrong b HB.out _).mono ?_; rw [HW.out]; rintro x w1 ⟨rfl, hb1⟩; have HA := Lib.hid (HA.out.step hb1); obtain ⟨hc1, hc2, hc3⟩ := lies_pos HB.out HA.out)
    | (go_at_call 27; refine (pos_Passed b HB.out t c e _).mono ?_; rintro x w1 ⟨rfl, hb1⟩; have HA := Lib.hid (HA.out.step hb1); obtain ⟨hc1, hc2, hc3⟩ := lies_pos HB.out HA.out)
    | (go_at_call 41; refine (men_Other _ _).mono ?_; rw [HO.out]; rintro x w1 ⟨rfl, rfl⟩)
    | (go_at_call 56; refine (pos_castles b HB.out t c e (by have := HC0.out; omega) (by have := HC0.out; omega) _).mono ?_; rw [HK.out]; rintro x w1 ⟨rfl, hb1⟩; have HA := Lib.hid (HA.out.step hb1); obtain ⟨hc1, hc2, hc3⟩ := lies_pos HB.out HA.out))
  refine wp_region_sp (fun w' => Lies w (posO b t c e) w') [.val (.agg (posC b t c e)), .val (.bool false), .val (.bool false), .ptr, .val (.pointer (some ⟨w.heap.size, 0, none⟩)), .val (.agg (boardC b)), .val (.pointer (some ⟨w.heap.size, 64, none⟩)), .val (.int .i64 t), .val (.int .i64 (1 - t)), .val (.bool true), .val (.bool true), .val (.bool true)] _
    (fun u => by simp only [putAll, Nat.reduceAdd, Act.put, List.setIfInBounds_toArray, List.set_cons_zero, List.set_cons_succ]; exact rfl) (by kernel_rfl) (by kernel_rfl) (by kernel_rfl) (by kernel_rfl)
    (HA.out.step ((Below.refl _ _).drew)) (fun _ _ hs hs' => hs.step hs') ?_ ?_
  · repeat' (first | exact Ops.nil | refine Ops.cons (fun u w2 K hS hd hK => ?_) ?_)
    all_goals (simp only [Deps, Sp.at, Sp.holds, Region.binds, true_implies, and_true] at hd hK)
    all_goals (obtain ⟨hc1, hc2, hc3⟩ := lies_pos HB.out hS)
    all_goals first
      | (refine sp_load 37 _ rfl (by first | rfl | (simp only [hd]; rfl)) _ rfl 37 _ (0, 0) _ hS.obj Try.underlying37 rfl HZ.out ?_; exact hK.out _ _ (Below.refl _ _) rfl)
      | (refine sp_at _ rfl (by first | rfl | (simp only [hd]; rfl)) w.heap.size _ rfl (by simp only [hd]; rfl) b t c e HB.out hS.obj ?_; exact hK.out _ _ (Below.refl _ _) rfl)
      | (obtain ⟨⟨a1, e1⟩, hd1⟩ := hd
         simp only [e1, hd1] at hK ⊢
         go_simp
         go_at_call 21; refine (eye_Check a1 b HB.out (1 - t) _).mono ?_; rw [HCK.out]; rintro x w3 ⟨rfl, hb3⟩; exact hK.out _ _ hb3 rfl)
      | (try simp only [hd] at hK ⊢
         go_simp
         first
           | exact hK.out _ _ (Below.refl _ _) rfl
           | exact hK.out _ _ (Below.refl _ _)
           | (go_at_call 55; refine (pos_touch b HB.out t c e _).mono ?_; rw [HT.out]; rintro x w3 ⟨rfl, hb3⟩; exact hK.out _ _ hb3 rfl)
           | (go_at_call 13; refine (eye_New _).mono ?_; rintro x w3 ⟨a1, rfl, hb3⟩; exact hK.out _ _ hb3 ⟨a1, rfl⟩)
           | (go_at_call 41; refine (men_Other _ _).mono ?_; rw [HO.out]; rintro x w3 ⟨rfl, rfl⟩; exact hK.out _ _ (Below.refl _ _) rfl))
  · intro u w2 hS hall
    simp only [AllSp, Sp.holds, and_true, Nat.reduceAdd] at hall
    have hu : u 11 = .bool true := by simp only [hall]
    simp only [hu]
    have HA := Lib.hid hS
    obtain ⟨hc1, hc2, hc3⟩ := lies_pos HB.out HA.out
    clear hall hu hS
    go_wp2_with (first
    | (refine load_at _ rfl rfl w.heap.size rfl b t c e HB.out HA.out.obj ?_)
    | (refine load_row rfl 37 _ rfl _ rfl 37 _ (0, 0) _ HA.out.obj Try.underlying37 rfl HZ.out ?_)
    | (go_at_call 54; refine (board_Wrong b HB.out _).mono ?_; rw [HW.out]; rintro x w1 ⟨rfl, hb1⟩; have HA := Lib.hid (HA.out.step hb1); obtain ⟨hc1, hc2, hc3⟩ := lies_pos HB.out HA.out)
    | (go_at_call 27; refine (pos_Passed b HB.out t c e _).mono ?_; rintro x w1 ⟨rfl, hb1⟩; have HA := Lib.hid (HA.out.step hb1); obtain ⟨hc1, hc2, hc3⟩ := lies_pos HB.out HA.out)
    | (go_at_call 41; refine (men_Other _ _).mono ?_; rw [HO.out]; rintro x w1 ⟨rfl, rfl⟩)
    | (go_at_call 56; refine (pos_castles b HB.out t c e (by have := HC0.out; omega) (by have := HC0.out; omega) _).mono ?_; rw [HK.out]; rintro x w1 ⟨rfl, hb1⟩; have HA := Lib.hid (HA.out.step hb1); obtain ⟨hc1, hc2, hc3⟩ := lies_pos HB.out HA.out))
    go_ret
    exact ⟨rfl, HA.out.below⟩

set_option maxHeartbeats 1600000 in
set_option maxRecDepth 100000 in
theorem w_castle (b : List Int) (hb : BOk b) (t c e : Int) (hW : bWrong b = 0) (h : t = 0 ∨ t = 1) (g1 : decide (c < 0) = false) (g2 : decide (15 < c) = false) (g3 : decide (e < -1) = false) (g4 : decide (64 ≤ e) = false) (hT : touchB b = false) (hK : pCheck b (1 - t) = false) (hL : castB b c = false) (w : World) : Calls Try.prog 25 #[.agg (posC b t c e)] w fun x w' => x = .returned (.int .i64 10) ∧ Below w.heap.size w w' := by
  have HA := Lib.hid (Lies.start w (posO b t c e))
  have HB := Lib.hid hb
  have HZ := Lib.hid (pos_info b hb t c e)
  obtain ⟨hc1, hc2, hc3⟩ := lies_pos HB.out HA.out
  clear hb
  have HW := Lib.hid hW
  have HO := Lib.hid (show mOther t = 1 - t by unfold mOther; rw [if_pos (by omega)])
  have q0 : decide (1 - t < 0) = false := by simp; omega
  have HC0 := Lib.hid (show 0 ≤ c ∧ c ≤ 15 by simp at g1 g2; omega)
  clear h hW
  have HT := Lib.hid hT
  have HCK := Lib.hid hK
  clear hT hK
  have HK := Lib.hid hL
  clear hL
  go_enter Try.func25, Try.ntmps25
  go_wp2_with (first
    | (refine load_at _ rfl rfl w.heap.size rfl b t c e HB.out HA.out.obj ?_)
    | (refine load_row rfl 37 _ rfl _ rfl 37 _ (0, 0) _ HA.out.obj Try.underlying37 rfl HZ.out ?_)
    | (go_at_call 54; refine (board_Wrong b HB.out _).mono ?_; rw [HW.out]; rintro x w1 ⟨rfl, hb1⟩; have HA := Lib.hid (HA.out.step hb1); obtain ⟨hc1, hc2, hc3⟩ := lies_pos HB.out HA.out)
    | (go_at_call 27; refine (pos_Passed b HB.out t c e _).mono ?_; rintro x w1 ⟨rfl, hb1⟩; have HA := Lib.hid (HA.out.step hb1); obtain ⟨hc1, hc2, hc3⟩ := lies_pos HB.out HA.out)
    | (go_at_call 41; refine (men_Other _ _).mono ?_; rw [HO.out]; rintro x w1 ⟨rfl, rfl⟩)
    | (go_at_call 56; refine (pos_castles b HB.out t c e (by have := HC0.out; omega) (by have := HC0.out; omega) _).mono ?_; rw [HK.out]; rintro x w1 ⟨rfl, hb1⟩; have HA := Lib.hid (HA.out.step hb1); obtain ⟨hc1, hc2, hc3⟩ := lies_pos HB.out HA.out))
  refine wp_region_sp (fun w' => Lies w (posO b t c e) w') [.val (.agg (posC b t c e)), .val (.bool false), .val (.bool false), .ptr, .val (.pointer (some ⟨w.heap.size, 0, none⟩)), .val (.agg (boardC b)), .val (.pointer (some ⟨w.heap.size, 64, none⟩)), .val (.int .i64 t), .val (.int .i64 (1 - t)), .val (.bool false), .val (.bool false), .val (.bool false)] _
    (fun u => by simp only [putAll, Nat.reduceAdd, Act.put, List.setIfInBounds_toArray, List.set_cons_zero, List.set_cons_succ]; exact rfl) (by kernel_rfl) (by kernel_rfl) (by kernel_rfl) (by kernel_rfl)
    (HA.out.step ((Below.refl _ _).drew)) (fun _ _ hs hs' => hs.step hs') ?_ ?_
  · repeat' (first | exact Ops.nil | refine Ops.cons (fun u w2 K hS hd hK => ?_) ?_)
    all_goals (simp only [Deps, Sp.at, Sp.holds, Region.binds, true_implies, and_true] at hd hK)
    all_goals (obtain ⟨hc1, hc2, hc3⟩ := lies_pos HB.out hS)
    all_goals first
      | (refine sp_load 37 _ rfl (by first | rfl | (simp only [hd]; rfl)) _ rfl 37 _ (0, 0) _ hS.obj Try.underlying37 rfl HZ.out ?_; exact hK.out _ _ (Below.refl _ _) rfl)
      | (refine sp_at _ rfl (by first | rfl | (simp only [hd]; rfl)) w.heap.size _ rfl (by simp only [hd]; rfl) b t c e HB.out hS.obj ?_; exact hK.out _ _ (Below.refl _ _) rfl)
      | (obtain ⟨⟨a1, e1⟩, hd1⟩ := hd
         simp only [e1, hd1] at hK ⊢
         go_simp
         go_at_call 21; refine (eye_Check a1 b HB.out (1 - t) _).mono ?_; rw [HCK.out]; rintro x w3 ⟨rfl, hb3⟩; exact hK.out _ _ hb3 rfl)
      | (try simp only [hd] at hK ⊢
         go_simp
         first
           | exact hK.out _ _ (Below.refl _ _) rfl
           | exact hK.out _ _ (Below.refl _ _)
           | (go_at_call 55; refine (pos_touch b HB.out t c e _).mono ?_; rw [HT.out]; rintro x w3 ⟨rfl, hb3⟩; exact hK.out _ _ hb3 rfl)
           | (go_at_call 13; refine (eye_New _).mono ?_; rintro x w3 ⟨a1, rfl, hb3⟩; exact hK.out _ _ hb3 ⟨a1, rfl⟩)
           | (go_at_call 41; refine (men_Other _ _).mono ?_; rw [HO.out]; rintro x w3 ⟨rfl, rfl⟩; exact hK.out _ _ (Below.refl _ _) rfl))
  · intro u w2 hS hall
    simp only [AllSp, Sp.holds, and_true, Nat.reduceAdd] at hall
    have hu : u 11 = .bool false := by simp only [hall]
    simp only [hu]
    have HA := Lib.hid hS
    obtain ⟨hc1, hc2, hc3⟩ := lies_pos HB.out HA.out
    clear hall hu hS
    go_wp2_with (first
    | (refine load_at _ rfl rfl w.heap.size rfl b t c e HB.out HA.out.obj ?_)
    | (refine load_row rfl 37 _ rfl _ rfl 37 _ (0, 0) _ HA.out.obj Try.underlying37 rfl HZ.out ?_)
    | (go_at_call 54; refine (board_Wrong b HB.out _).mono ?_; rw [HW.out]; rintro x w1 ⟨rfl, hb1⟩; have HA := Lib.hid (HA.out.step hb1); obtain ⟨hc1, hc2, hc3⟩ := lies_pos HB.out HA.out)
    | (go_at_call 27; refine (pos_Passed b HB.out t c e _).mono ?_; rintro x w1 ⟨rfl, hb1⟩; have HA := Lib.hid (HA.out.step hb1); obtain ⟨hc1, hc2, hc3⟩ := lies_pos HB.out HA.out)
    | (go_at_call 41; refine (men_Other _ _).mono ?_; rw [HO.out]; rintro x w1 ⟨rfl, rfl⟩)
    | (go_at_call 56; refine (pos_castles b HB.out t c e (by have := HC0.out; omega) (by have := HC0.out; omega) _).mono ?_; rw [HK.out]; rintro x w1 ⟨rfl, hb1⟩; have HA := Lib.hid (HA.out.step hb1); obtain ⟨hc1, hc2, hc3⟩ := lies_pos HB.out HA.out))
    go_ret
    exact ⟨rfl, HA.out.below⟩

set_option maxHeartbeats 1600000 in
set_option maxRecDepth 100000 in
theorem w_passant (b : List Int) (hb : BOk b) (t c e : Int) (hW : bWrong b = 0) (h : t = 0 ∨ t = 1) (g1 : decide (c < 0) = false) (g2 : decide (15 < c) = false) (g3 : decide (e < -1) = false) (g4 : decide (64 ≤ e) = false) (hT : touchB b = false) (hK : pCheck b (1 - t) = false) (hL : castB b c = true) (g5 : decide (0 ≤ e) = true) (g6 : passB b t e = false) (w : World) : Calls Try.prog 25 #[.agg (posC b t c e)] w fun x w' => x = .returned (.int .i64 11) ∧ Below w.heap.size w w' := by
  have HA := Lib.hid (Lies.start w (posO b t c e))
  have HB := Lib.hid hb
  have HZ := Lib.hid (pos_info b hb t c e)
  obtain ⟨hc1, hc2, hc3⟩ := lies_pos HB.out HA.out
  clear hb
  have HW := Lib.hid hW
  have HO := Lib.hid (show mOther t = 1 - t by unfold mOther; rw [if_pos (by omega)])
  have q0 : decide (1 - t < 0) = false := by simp; omega
  have HC0 := Lib.hid (show 0 ≤ c ∧ c ≤ 15 by simp at g1 g2; omega)
  clear h hW
  have HT := Lib.hid hT
  have HCK := Lib.hid hK
  clear hT hK
  have HK := Lib.hid hL
  clear hL
  go_enter Try.func25, Try.ntmps25
  go_wp2_with (first
    | (refine load_at _ rfl rfl w.heap.size rfl b t c e HB.out HA.out.obj ?_)
    | (refine load_row rfl 37 _ rfl _ rfl 37 _ (0, 0) _ HA.out.obj Try.underlying37 rfl HZ.out ?_)
    | (go_at_call 54; refine (board_Wrong b HB.out _).mono ?_; rw [HW.out]; rintro x w1 ⟨rfl, hb1⟩; have HA := Lib.hid (HA.out.step hb1); obtain ⟨hc1, hc2, hc3⟩ := lies_pos HB.out HA.out)
    | (go_at_call 27; refine (pos_Passed b HB.out t c e _).mono ?_; rintro x w1 ⟨rfl, hb1⟩; have HA := Lib.hid (HA.out.step hb1); obtain ⟨hc1, hc2, hc3⟩ := lies_pos HB.out HA.out)
    | (go_at_call 41; refine (men_Other _ _).mono ?_; rw [HO.out]; rintro x w1 ⟨rfl, rfl⟩)
    | (go_at_call 56; refine (pos_castles b HB.out t c e (by have := HC0.out; omega) (by have := HC0.out; omega) _).mono ?_; rw [HK.out]; rintro x w1 ⟨rfl, hb1⟩; have HA := Lib.hid (HA.out.step hb1); obtain ⟨hc1, hc2, hc3⟩ := lies_pos HB.out HA.out))
  refine wp_region_sp (fun w' => Lies w (posO b t c e) w') [.val (.agg (posC b t c e)), .val (.bool false), .val (.bool false), .ptr, .val (.pointer (some ⟨w.heap.size, 0, none⟩)), .val (.agg (boardC b)), .val (.pointer (some ⟨w.heap.size, 64, none⟩)), .val (.int .i64 t), .val (.int .i64 (1 - t)), .val (.bool false), .val (.bool false), .val (.bool false)] _
    (fun u => by simp only [putAll, Nat.reduceAdd, Act.put, List.setIfInBounds_toArray, List.set_cons_zero, List.set_cons_succ]; exact rfl) (by kernel_rfl) (by kernel_rfl) (by kernel_rfl) (by kernel_rfl)
    (HA.out.step ((Below.refl _ _).drew)) (fun _ _ hs hs' => hs.step hs') ?_ ?_
  · repeat' (first | exact Ops.nil | refine Ops.cons (fun u w2 K hS hd hK => ?_) ?_)
    all_goals (simp only [Deps, Sp.at, Sp.holds, Region.binds, true_implies, and_true] at hd hK)
    all_goals (obtain ⟨hc1, hc2, hc3⟩ := lies_pos HB.out hS)
    all_goals first
      | (refine sp_load 37 _ rfl (by first | rfl | (simp only [hd]; rfl)) _ rfl 37 _ (0, 0) _ hS.obj Try.underlying37 rfl HZ.out ?_; exact hK.out _ _ (Below.refl _ _) rfl)
      | (refine sp_at _ rfl (by first | rfl | (simp only [hd]; rfl)) w.heap.size _ rfl (by simp only [hd]; rfl) b t c e HB.out hS.obj ?_; exact hK.out _ _ (Below.refl _ _) rfl)
      | (obtain ⟨⟨a1, e1⟩, hd1⟩ := hd
         simp only [e1, hd1] at hK ⊢
         go_simp
         go_at_call 21; refine (eye_Check a1 b HB.out (1 - t) _).mono ?_; rw [HCK.out]; rintro x w3 ⟨rfl, hb3⟩; exact hK.out _ _ hb3 rfl)
      | (try simp only [hd] at hK ⊢
         go_simp
         first
           | exact hK.out _ _ (Below.refl _ _) rfl
           | exact hK.out _ _ (Below.refl _ _)
           | (go_at_call 55; refine (pos_touch b HB.out t c e _).mono ?_; rw [HT.out]; rintro x w3 ⟨rfl, hb3⟩; exact hK.out _ _ hb3 rfl)
           | (go_at_call 13; refine (eye_New _).mono ?_; rintro x w3 ⟨a1, rfl, hb3⟩; exact hK.out _ _ hb3 ⟨a1, rfl⟩)
           | (go_at_call 41; refine (men_Other _ _).mono ?_; rw [HO.out]; rintro x w3 ⟨rfl, rfl⟩; exact hK.out _ _ (Below.refl _ _) rfl))
  · intro u w2 hS hall
    simp only [AllSp, Sp.holds, and_true, Nat.reduceAdd] at hall
    have hu : u 11 = .bool false := by simp only [hall]
    simp only [hu]
    have HA := Lib.hid hS
    obtain ⟨hc1, hc2, hc3⟩ := lies_pos HB.out HA.out
    clear hall hu hS
    go_wp2_with (first
    | (refine load_at _ rfl rfl w.heap.size rfl b t c e HB.out HA.out.obj ?_)
    | (refine load_row rfl 37 _ rfl _ rfl 37 _ (0, 0) _ HA.out.obj Try.underlying37 rfl HZ.out ?_)
    | (go_at_call 54; refine (board_Wrong b HB.out _).mono ?_; rw [HW.out]; rintro x w1 ⟨rfl, hb1⟩; have HA := Lib.hid (HA.out.step hb1); obtain ⟨hc1, hc2, hc3⟩ := lies_pos HB.out HA.out)
    | (go_at_call 27; refine (pos_Passed b HB.out t c e _).mono ?_; rintro x w1 ⟨rfl, hb1⟩; have HA := Lib.hid (HA.out.step hb1); obtain ⟨hc1, hc2, hc3⟩ := lies_pos HB.out HA.out)
    | (go_at_call 41; refine (men_Other _ _).mono ?_; rw [HO.out]; rintro x w1 ⟨rfl, rfl⟩)
    | (go_at_call 56; refine (pos_castles b HB.out t c e (by have := HC0.out; omega) (by have := HC0.out; omega) _).mono ?_; rw [HK.out]; rintro x w1 ⟨rfl, hb1⟩; have HA := Lib.hid (HA.out.step hb1); obtain ⟨hc1, hc2, hc3⟩ := lies_pos HB.out HA.out))
    go_ret
    exact ⟨rfl, HA.out.below⟩

set_option maxHeartbeats 1600000 in
set_option maxRecDepth 100000 in
theorem w_ok1 (b : List Int) (hb : BOk b) (t c e : Int) (hW : bWrong b = 0) (h : t = 0 ∨ t = 1) (g1 : decide (c < 0) = false) (g2 : decide (15 < c) = false) (g3 : decide (e < -1) = false) (g4 : decide (64 ≤ e) = false) (hT : touchB b = false) (hK : pCheck b (1 - t) = false) (hL : castB b c = true) (g5 : decide (0 ≤ e) = true) (g6 : passB b t e = true) (w : World) : Calls Try.prog 25 #[.agg (posC b t c e)] w fun x w' => x = .returned (.int .i64 0) ∧ Below w.heap.size w w' := by
  have HA := Lib.hid (Lies.start w (posO b t c e))
  have HB := Lib.hid hb
  have HZ := Lib.hid (pos_info b hb t c e)
  obtain ⟨hc1, hc2, hc3⟩ := lies_pos HB.out HA.out
  clear hb
  have HW := Lib.hid hW
  have HO := Lib.hid (show mOther t = 1 - t by unfold mOther; rw [if_pos (by omega)])
  have q0 : decide (1 - t < 0) = false := by simp; omega
  have HC0 := Lib.hid (show 0 ≤ c ∧ c ≤ 15 by simp at g1 g2; omega)
  clear h hW
  have HT := Lib.hid hT
  have HCK := Lib.hid hK
  clear hT hK
  have HK := Lib.hid hL
  clear hL
  go_enter Try.func25, Try.ntmps25
  go_wp2_with (first
    | (refine load_at _ rfl rfl w.heap.size rfl b t c e HB.out HA.out.obj ?_)
    | (refine load_row rfl 37 _ rfl _ rfl 37 _ (0, 0) _ HA.out.obj Try.underlying37 rfl HZ.out ?_)
    | (go_at_call 54; refine (board_Wrong b HB.out _).mono ?_; rw [HW.out]; rintro x w1 ⟨rfl, hb1⟩; have HA := Lib.hid (HA.out.step hb1); obtain ⟨hc1, hc2, hc3⟩ := lies_pos HB.out HA.out)
    | (go_at_call 27; refine (pos_Passed b HB.out t c e _).mono ?_; rintro x w1 ⟨rfl, hb1⟩; have HA := Lib.hid (HA.out.step hb1); obtain ⟨hc1, hc2, hc3⟩ := lies_pos HB.out HA.out)
    | (go_at_call 41; refine (men_Other _ _).mono ?_; rw [HO.out]; rintro x w1 ⟨rfl, rfl⟩)
    | (go_at_call 56; refine (pos_castles b HB.out t c e (by have := HC0.out; omega) (by have := HC0.out; omega) _).mono ?_; rw [HK.out]; rintro x w1 ⟨rfl, hb1⟩; have HA := Lib.hid (HA.out.step hb1); obtain ⟨hc1, hc2, hc3⟩ := lies_pos HB.out HA.out))
  refine wp_region_sp (fun w' => Lies w (posO b t c e) w') [.val (.agg (posC b t c e)), .val (.bool false), .val (.bool false), .ptr, .val (.pointer (some ⟨w.heap.size, 0, none⟩)), .val (.agg (boardC b)), .val (.pointer (some ⟨w.heap.size, 64, none⟩)), .val (.int .i64 t), .val (.int .i64 (1 - t)), .val (.bool false), .val (.bool false), .val (.bool false)] _
    (fun u => by simp only [putAll, Nat.reduceAdd, Act.put, List.setIfInBounds_toArray, List.set_cons_zero, List.set_cons_succ]; exact rfl) (by kernel_rfl) (by kernel_rfl) (by kernel_rfl) (by kernel_rfl)
    (HA.out.step ((Below.refl _ _).drew)) (fun _ _ hs hs' => hs.step hs') ?_ ?_
  · repeat' (first | exact Ops.nil | refine Ops.cons (fun u w2 K hS hd hK => ?_) ?_)
    all_goals (simp only [Deps, Sp.at, Sp.holds, Region.binds, true_implies, and_true] at hd hK)
    all_goals (obtain ⟨hc1, hc2, hc3⟩ := lies_pos HB.out hS)
    all_goals first
      | (refine sp_load 37 _ rfl (by first | rfl | (simp only [hd]; rfl)) _ rfl 37 _ (0, 0) _ hS.obj Try.underlying37 rfl HZ.out ?_; exact hK.out _ _ (Below.refl _ _) rfl)
      | (refine sp_at _ rfl (by first | rfl | (simp only [hd]; rfl)) w.heap.size _ rfl (by simp only [hd]; rfl) b t c e HB.out hS.obj ?_; exact hK.out _ _ (Below.refl _ _) rfl)
      | (obtain ⟨⟨a1, e1⟩, hd1⟩ := hd
         simp only [e1, hd1] at hK ⊢
         go_simp
         go_at_call 21; refine (eye_Check a1 b HB.out (1 - t) _).mono ?_; rw [HCK.out]; rintro x w3 ⟨rfl, hb3⟩; exact hK.out _ _ hb3 rfl)
      | (try simp only [hd] at hK ⊢
         go_simp
         first
           | exact hK.out _ _ (Below.refl _ _) rfl
           | exact hK.out _ _ (Below.refl _ _)
           | (go_at_call 55; refine (pos_touch b HB.out t c e _).mono ?_; rw [HT.out]; rintro x w3 ⟨rfl, hb3⟩; exact hK.out _ _ hb3 rfl)
           | (go_at_call 13; refine (eye_New _).mono ?_; rintro x w3 ⟨a1, rfl, hb3⟩; exact hK.out _ _ hb3 ⟨a1, rfl⟩)
           | (go_at_call 41; refine (men_Other _ _).mono ?_; rw [HO.out]; rintro x w3 ⟨rfl, rfl⟩; exact hK.out _ _ (Below.refl _ _) rfl))
  · intro u w2 hS hall
    simp only [AllSp, Sp.holds, and_true, Nat.reduceAdd] at hall
    have hu : u 11 = .bool false := by simp only [hall]
    simp only [hu]
    have HA := Lib.hid hS
    obtain ⟨hc1, hc2, hc3⟩ := lies_pos HB.out HA.out
    clear hall hu hS
    go_wp2_with (first
    | (refine load_at _ rfl rfl w.heap.size rfl b t c e HB.out HA.out.obj ?_)
    | (refine load_row rfl 37 _ rfl _ rfl 37 _ (0, 0) _ HA.out.obj Try.underlying37 rfl HZ.out ?_)
    | (go_at_call 54; refine (board_Wrong b HB.out _).mono ?_; rw [HW.out]; rintro x w1 ⟨rfl, hb1⟩; have HA := Lib.hid (HA.out.step hb1); obtain ⟨hc1, hc2, hc3⟩ := lies_pos HB.out HA.out)
    | (go_at_call 27; refine (pos_Passed b HB.out t c e _).mono ?_; rintro x w1 ⟨rfl, hb1⟩; have HA := Lib.hid (HA.out.step hb1); obtain ⟨hc1, hc2, hc3⟩ := lies_pos HB.out HA.out)
    | (go_at_call 41; refine (men_Other _ _).mono ?_; rw [HO.out]; rintro x w1 ⟨rfl, rfl⟩)
    | (go_at_call 56; refine (pos_castles b HB.out t c e (by have := HC0.out; omega) (by have := HC0.out; omega) _).mono ?_; rw [HK.out]; rintro x w1 ⟨rfl, hb1⟩; have HA := Lib.hid (HA.out.step hb1); obtain ⟨hc1, hc2, hc3⟩ := lies_pos HB.out HA.out))
    go_ret
    exact ⟨rfl, HA.out.below⟩

set_option maxHeartbeats 1600000 in
set_option maxRecDepth 100000 in
theorem w_ok2 (b : List Int) (hb : BOk b) (t c e : Int) (hW : bWrong b = 0) (h : t = 0 ∨ t = 1) (g1 : decide (c < 0) = false) (g2 : decide (15 < c) = false) (g3 : decide (e < -1) = false) (g4 : decide (64 ≤ e) = false) (hT : touchB b = false) (hK : pCheck b (1 - t) = false) (hL : castB b c = true) (g5 : decide (0 ≤ e) = false) (w : World) : Calls Try.prog 25 #[.agg (posC b t c e)] w fun x w' => x = .returned (.int .i64 0) ∧ Below w.heap.size w w' := by
  have HA := Lib.hid (Lies.start w (posO b t c e))
  have HB := Lib.hid hb
  have HZ := Lib.hid (pos_info b hb t c e)
  obtain ⟨hc1, hc2, hc3⟩ := lies_pos HB.out HA.out
  clear hb
  have HW := Lib.hid hW
  have HO := Lib.hid (show mOther t = 1 - t by unfold mOther; rw [if_pos (by omega)])
  have q0 : decide (1 - t < 0) = false := by simp; omega
  have HC0 := Lib.hid (show 0 ≤ c ∧ c ≤ 15 by simp at g1 g2; omega)
  clear h hW
  have HT := Lib.hid hT
  have HCK := Lib.hid hK
  clear hT hK
  have HK := Lib.hid hL
  clear hL
  go_enter Try.func25, Try.ntmps25
  go_wp2_with (first
    | (refine load_at _ rfl rfl w.heap.size rfl b t c e HB.out HA.out.obj ?_)
    | (refine load_row rfl 37 _ rfl _ rfl 37 _ (0, 0) _ HA.out.obj Try.underlying37 rfl HZ.out ?_)
    | (go_at_call 54; refine (board_Wrong b HB.out _).mono ?_; rw [HW.out]; rintro x w1 ⟨rfl, hb1⟩; have HA := Lib.hid (HA.out.step hb1); obtain ⟨hc1, hc2, hc3⟩ := lies_pos HB.out HA.out)
    | (go_at_call 27; refine (pos_Passed b HB.out t c e _).mono ?_; rintro x w1 ⟨rfl, hb1⟩; have HA := Lib.hid (HA.out.step hb1); obtain ⟨hc1, hc2, hc3⟩ := lies_pos HB.out HA.out)
    | (go_at_call 41; refine (men_Other _ _).mono ?_; rw [HO.out]; rintro x w1 ⟨rfl, rfl⟩)
    | (go_at_call 56; refine (pos_castles b HB.out t c e (by have := HC0.out; omega) (by have := HC0.out; omega) _).mono ?_; rw [HK.out]; rintro x w1 ⟨rfl, hb1⟩; have HA := Lib.hid (HA.out.step hb1); obtain ⟨hc1, hc2, hc3⟩ := lies_pos HB.out HA.out))
  refine wp_region_sp (fun w' => Lies w (posO b t c e) w') [.val (.agg (posC b t c e)), .val (.bool false), .val (.bool false), .ptr, .val (.pointer (some ⟨w.heap.size, 0, none⟩)), .val (.agg (boardC b)), .val (.pointer (some ⟨w.heap.size, 64, none⟩)), .val (.int .i64 t), .val (.int .i64 (1 - t)), .val (.bool false), .val (.bool false), .val (.bool false)] _
    (fun u => by simp only [putAll, Nat.reduceAdd, Act.put, List.setIfInBounds_toArray, List.set_cons_zero, List.set_cons_succ]; exact rfl) (by kernel_rfl) (by kernel_rfl) (by kernel_rfl) (by kernel_rfl)
    (HA.out.step ((Below.refl _ _).drew)) (fun _ _ hs hs' => hs.step hs') ?_ ?_
  · repeat' (first | exact Ops.nil | refine Ops.cons (fun u w2 K hS hd hK => ?_) ?_)
    all_goals (simp only [Deps, Sp.at, Sp.holds, Region.binds, true_implies, and_true] at hd hK)
    all_goals (obtain ⟨hc1, hc2, hc3⟩ := lies_pos HB.out hS)
    all_goals first
      | (refine sp_load 37 _ rfl (by first | rfl | (simp only [hd]; rfl)) _ rfl 37 _ (0, 0) _ hS.obj Try.underlying37 rfl HZ.out ?_; exact hK.out _ _ (Below.refl _ _) rfl)
      | (refine sp_at _ rfl (by first | rfl | (simp only [hd]; rfl)) w.heap.size _ rfl (by simp only [hd]; rfl) b t c e HB.out hS.obj ?_; exact hK.out _ _ (Below.refl _ _) rfl)
      | (obtain ⟨⟨a1, e1⟩, hd1⟩ := hd
         simp only [e1, hd1] at hK ⊢
         go_simp
         go_at_call 21; refine (eye_Check a1 b HB.out (1 - t) _).mono ?_; rw [HCK.out]; rintro x w3 ⟨rfl, hb3⟩; exact hK.out _ _ hb3 rfl)
      | (try simp only [hd] at hK ⊢
         go_simp
         first
           | exact hK.out _ _ (Below.refl _ _) rfl
           | exact hK.out _ _ (Below.refl _ _)
           | (go_at_call 55; refine (pos_touch b HB.out t c e _).mono ?_; rw [HT.out]; rintro x w3 ⟨rfl, hb3⟩; exact hK.out _ _ hb3 rfl)
           | (go_at_call 13; refine (eye_New _).mono ?_; rintro x w3 ⟨a1, rfl, hb3⟩; exact hK.out _ _ hb3 ⟨a1, rfl⟩)
           | (go_at_call 41; refine (men_Other _ _).mono ?_; rw [HO.out]; rintro x w3 ⟨rfl, rfl⟩; exact hK.out _ _ (Below.refl _ _) rfl))
  · intro u w2 hS hall
    simp only [AllSp, Sp.holds, and_true, Nat.reduceAdd] at hall
    have hu : u 11 = .bool false := by simp only [hall]
    simp only [hu]
    have HA := Lib.hid hS
    obtain ⟨hc1, hc2, hc3⟩ := lies_pos HB.out HA.out
    clear hall hu hS
    go_wp2_with (first
    | (refine load_at _ rfl rfl w.heap.size rfl b t c e HB.out HA.out.obj ?_)
    | (refine load_row rfl 37 _ rfl _ rfl 37 _ (0, 0) _ HA.out.obj Try.underlying37 rfl HZ.out ?_)
    | (go_at_call 54; refine (board_Wrong b HB.out _).mono ?_; rw [HW.out]; rintro x w1 ⟨rfl, hb1⟩; have HA := Lib.hid (HA.out.step hb1); obtain ⟨hc1, hc2, hc3⟩ := lies_pos HB.out HA.out)
    | (go_at_call 27; refine (pos_Passed b HB.out t c e _).mono ?_; rintro x w1 ⟨rfl, hb1⟩; have HA := Lib.hid (HA.out.step hb1); obtain ⟨hc1, hc2, hc3⟩ := lies_pos HB.out HA.out)
    | (go_at_call 41; refine (men_Other _ _).mono ?_; rw [HO.out]; rintro x w1 ⟨rfl, rfl⟩)
    | (go_at_call 56; refine (pos_castles b HB.out t c e (by have := HC0.out; omega) (by have := HC0.out; omega) _).mono ?_; rw [HK.out]; rintro x w1 ⟨rfl, hb1⟩; have HA := Lib.hid (HA.out.step hb1); obtain ⟨hc1, hc2, hc3⟩ := lies_pos HB.out HA.out))
    go_ret
    exact ⟨rfl, HA.out.below⟩
end Go.Proofs.Ytibaembmdcdbkaa
