import Derived.Test.YtibaembmdcdbkaaWa
namespace Go.Proofs.Ytibaembmdcdbkaa
open Go.RowKit Alf

/-! law PosBacked (printed by genlk.py) -/
set_option maxHeartbeats 1600000 in
set_option maxRecDepth 100000 in
theorem backed_yes (b : List Int) (hb : BOk b) (t c e right v : Int) (hv : passI b t e = v) (h0 : 0 ≤ v) (w : World) : Calls Try.prog 8 #[.agg (posC b t c e), .int .i64 right] w fun x w' => x = .returned (.bool true) ∧ Below w.heap.size w w' := by
  have HA := Lib.hid (Lies.start w (posO b t c e))
  have HB := Lib.hid hb
  have HI := Lib.hid (pos_info b hb t c e)
  have HS := Lib.hid (show passS b t e = v by unfold passS; rw [hv]; rw [if_pos h0])
  have HP := Lib.hid (show passB b t e = true by unfold passB; rw [hv]; simp; omega)
  have HV := Lib.hid hv
  have q : decide (0 ≤ v) = true := by simp; omega
  obtain ⟨r, hr⟩ : ∃ r, backedB b right = r := ⟨_, rfl⟩
  have HR := Lib.hid hr
  clear hb hr hv h0
  go_enter Try.func8, Try.ntmps8
  go_wp2_with (first
    | (refine load_row rfl 37 _ rfl _ rfl 37 _ (0, 0) _ HA.out.obj Try.underlying37 rfl HI.out ?_)
    | (go_at_call 27; refine (pos_Passed b HB.out t c e _).mono ?_; rw [HS.out, HP.out]; rintro x w1 ⟨rfl, hb1⟩; have HA := Lib.hid (HA.out.step hb1); clear hb1)
    | (go_at_call 28; refine (r8_Passed b HB.out t c e _).mono ?_; rw [HV.out]; rintro x w1 ⟨rfl, hb1⟩; have HA := Lib.hid (HA.out.step hb1); clear hb1)
    | (go_at_call 24; refine (wake8 _).mono ?_; rintro x w1 ⟨rfl, hb1⟩; have HA := Lib.hid (HA.out.step hb1); clear hb1))
  refine wp_region_sp (fun w' => Lies w (posO b t c e) w') [.val (.agg (posC b t c e)), .val (.int .i64 right), .val (.bool r), .val (.pointer (some ⟨w.heap.size, 0, none⟩)), .val (.agg (boardC b)), .val (.int .i64 right), .val (.bool r), .val (.bool true), .val (.bool true), .val (.bool true), .val (.int .i64 v), .val (.bool true), .val (.bool true), .val (.bool true), .val (.bool true), .val (.bool true), .val (.bool true), .val (.int .i64 v), .val (.int .i64 v), .val (.bool true), .val (.bool true), .val (.bool true), .val undef, .val undef, .val undef, .free, .free, .free, .val (.bool true), .val (.bool true), .val (.bool true)] _
    (fun u => by simp only [putAll, Nat.reduceAdd, Act.put, List.setIfInBounds_toArray, List.set_cons_zero, List.set_cons_succ]; exact rfl) (by kernel_rfl) (by kernel_rfl) (by kernel_rfl) (by kernel_rfl)
    (HA.out.step ((Below.refl _ _).drew)) (fun _ _ hs hs' => hs.step hs') ?_ ?_
  · repeat' (first | exact Ops.nil | refine Ops.cons (fun u w2 K hS hd hK => ?_) ?_)
    all_goals (simp only [Deps, Sp.at, Sp.holds, Region.binds, true_implies, and_true, true_and] at hd hK)
    all_goals first
      | (refine sp_load 37 _ rfl (by first | rfl | (simp only [hd]; rfl)) _ rfl 37 _ (0, 0) _ hS.obj Try.underlying37 rfl HI.out ?_; exact hK.out _ _ (Below.refl _ _) rfl)
      | (refine sp_at _ rfl (by first | rfl | (simp only [hd]; rfl)) w.heap.size _ rfl (by simp only [hd]; rfl) b t c e HB.out hS.obj ?_; exact hK.out _ _ (Below.refl _ _) rfl)
      | (try simp only [hd] at hK ⊢
         go_simp
         first
           | exact hK.out _ _ (Below.refl _ _) rfl
           | exact hK.out _ _ (Below.refl _ _)
           | (go_at_call 29; refine (pos_Backed b HB.out t c e right _).mono ?_; rw [HR.out]; rintro x w3 ⟨rfl, hb3⟩; exact hK.out _ _ hb3 rfl)
           | (go_at_call 30; refine (r8_Backed b HB.out right _).mono ?_; rw [HR.out]; rintro x w3 ⟨rfl, hb3⟩; exact hK.out _ _ hb3 rfl))
  · intro u w2 hS hall
    simp only [AllSp, Sp.holds, and_true, true_and, Nat.reduceAdd] at hall
    simp only [hall]
    go_wp2
    go_ret
    exact ⟨rfl, hS.below⟩
set_option maxHeartbeats 1600000 in
set_option maxRecDepth 100000 in
theorem backed_no (b : List Int) (hb : BOk b) (t c e right v : Int) (hv : passI b t e = v) (h0 : v < 0) (w : World) : Calls Try.prog 8 #[.agg (posC b t c e), .int .i64 right] w fun x w' => x = .returned (.bool true) ∧ Below w.heap.size w w' := by
  have HA := Lib.hid (Lies.start w (posO b t c e))
  have HB := Lib.hid hb
  have HI := Lib.hid (pos_info b hb t c e)
  have HS := Lib.hid (show passS b t e = 0 by unfold passS; rw [hv]; rw [if_neg (by omega)])
  have HP := Lib.hid (show passB b t e = false by unfold passB; rw [hv]; simp; omega)
  have HV := Lib.hid hv
  have q : decide (0 ≤ v) = false := by simp; omega
  obtain ⟨r, hr⟩ : ∃ r, backedB b right = r := ⟨_, rfl⟩
  have HR := Lib.hid hr
  clear hb hr hv h0
  go_enter Try.func8, Try.ntmps8
  go_wp2_with (first
    | (refine load_row rfl 37 _ rfl _ rfl 37 _ (0, 0) _ HA.out.obj Try.underlying37 rfl HI.out ?_)
    | (go_at_call 27; refine (pos_Passed b HB.out t c e _).mono ?_; rw [HS.out, HP.out]; rintro x w1 ⟨rfl, hb1⟩; have HA := Lib.hid (HA.out.step hb1); clear hb1)
    | (go_at_call 28; refine (r8_Passed b HB.out t c e _).mono ?_; rw [HV.out]; rintro x w1 ⟨rfl, hb1⟩; have HA := Lib.hid (HA.out.step hb1); clear hb1)
    | (go_at_call 24; refine (wake8 _).mono ?_; rintro x w1 ⟨rfl, hb1⟩; have HA := Lib.hid (HA.out.step hb1); clear hb1))
  refine wp_region_sp (fun w' => Lies w (posO b t c e) w') [.val (.agg (posC b t c e)), .val (.int .i64 right), .val (.bool r), .val (.pointer (some ⟨w.heap.size, 0, none⟩)), .val (.agg (boardC b)), .val (.int .i64 right), .val (.bool r), .val (.bool true), .val (.bool true), .val (.bool false), .val (.int .i64 v), .val (.bool false), .val (.bool true), .val (.bool true), .val (.bool true), .val (.bool false), .val (.bool false), .free, .free, .free, .val (.bool false), .val (.bool false), .val (.bool false), .val (.bool true), .val (.bool true), .val (.int .i64 0), .val (.bool true), .val (.bool true), .val (.bool true), .val (.bool true), .val (.bool true)] _
    (fun u => by simp only [putAll, Nat.reduceAdd, Act.put, List.setIfInBounds_toArray, List.set_cons_zero, List.set_cons_succ]; exact rfl) (by kernel_rfl) (by kernel_rfl) (by kernel_rfl) (by kernel_rfl)
    (HA.out.step ((Below.refl _ _).drew)) (fun _ _ hs hs' => hs.step hs') ?_ ?_
  · repeat' (first | exact Ops.nil | refine Ops.cons (fun u w2 K hS hd hK => ?_) ?_)
    all_goals (simp only [Deps, Sp.at, Sp.holds, Region.binds, true_implies, and_true, true_and] at hd hK)
    all_goals first
      | (refine sp_load 37 _ rfl (by first | rfl | (simp only [hd]; rfl)) _ rfl 37 _ (0, 0) _ hS.obj Try.underlying37 rfl HI.out ?_; exact hK.out _ _ (Below.refl _ _) rfl)
      | (refine sp_at _ rfl (by first | rfl | (simp only [hd]; rfl)) w.heap.size _ rfl (by simp only [hd]; rfl) b t c e HB.out hS.obj ?_; exact hK.out _ _ (Below.refl _ _) rfl)
      | (try simp only [hd] at hK ⊢
         go_simp
         first
           | exact hK.out _ _ (Below.refl _ _) rfl
           | exact hK.out _ _ (Below.refl _ _)
           | (go_at_call 29; refine (pos_Backed b HB.out t c e right _).mono ?_; rw [HR.out]; rintro x w3 ⟨rfl, hb3⟩; exact hK.out _ _ hb3 rfl)
           | (go_at_call 30; refine (r8_Backed b HB.out right _).mono ?_; rw [HR.out]; rintro x w3 ⟨rfl, hb3⟩; exact hK.out _ _ hb3 rfl))
  · intro u w2 hS hall
    simp only [AllSp, Sp.holds, and_true, true_and, Nat.reduceAdd] at hall
    simp only [hall]
    go_wp2
    go_ret
    exact ⟨rfl, hS.below⟩
theorem law_PosBacked (b : List Int) (hb : BOk b) (t c e right : Int) (w : World) : Calls Try.prog 8 #[.agg (posC b t c e), .int .i64 right] w fun x w' => x = .returned (.bool true) ∧ Below w.heap.size w w' := by
  by_cases h : 0 ≤ passI b t e
  · exact backed_yes b hb t c e right _ rfl h w
  · exact backed_no b hb t c e right _ rfl (by omega) w
end Go.Proofs.Ytibaembmdcdbkaa
