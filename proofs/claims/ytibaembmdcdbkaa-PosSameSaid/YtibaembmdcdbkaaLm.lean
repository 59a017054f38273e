import Derived.Test.YtibaembmdcdbkaaOo
import Derived.Test.YtibaembmdcdbkaaWa
namespace Go.Proofs.Ytibaembmdcdbkaa
open Go.RowKit Alf

/-! law PosSame (printed by genlm.py) -/
theorem field_castle (b : List Int) (hb : BOk b) (t c e : Int) (W : World) : (Instr.field 37 (.agg (posC b t c e)) 2).run Try.prog W = .ok (.int .i64 c) W := by
  have h := (posC_at b hb t c e).2.1
  simp [Instr.field, asAgg, part, go_sem, Try.runUnderlying37, Try.isAgg3, h]
theorem field_at (b : List Int) (hb : BOk b) (t c e : Int) (W : World) : (Instr.field 37 (.agg (posC b t c e)) 0).run Try.prog W = .ok (.agg (boardC b)) W := by
  have h := posC_board b hb t c e
  simp [Instr.field, asAgg, part, go_sem, Try.runUnderlying37, Try.isAgg24, Try.sizeOf24, h]
theorem pos_cells {w' : World} {g : Nat} {b : List Int} {t c e : Int} (hb : BOk b) (h : w'.heap[g]? = some (posO b t c e)) :
    w'.cell? ⟨g, 64, none⟩ = some (.int .i64 t) ∧ w'.cell? ⟨g, 65, none⟩ = some (.int .i64 c) ∧ w'.cell? ⟨g, 66, none⟩ = some (.int .i64 e) := by
  obtain ⟨h1, h2, h3⟩ := posC_at b hb t c e
  exact ⟨by rw [cell_of_row w' _ _ _ _ _ h]; exact h1, by rw [cell_of_row w' _ _ _ _ _ h]; exact h2, by rw [cell_of_row w' _ _ _ _ _ h]; exact h3⟩
set_option maxHeartbeats 3200000 in
set_option maxRecDepth 100000 in
theorem same_yes (b : List Int) (hb : BOk b) (t c e : Int) (b' : List Int) (hb' : BOk b') (t' c' e' k : Int) (h0 : b = b') (fb : List Int) (hfb : BOk fb) (hc : ∀ w, Calls Try.prog 32 #[] w fun x w' => x = .returned (.agg (posC fb 0 15 (-1))) ∧ Below w.heap.size w w')
    (f1 : posW fb 0 15 (-1) = 0) (f2 : bWrong fb = 0) (zb : List Int) (hzb : BOk zb) (hz : ∀ w, (zeroValue 37).run Try.prog w = .ok (.agg (posC zb 0 0 0)) w) (w : World) : Calls Try.prog 9 #[.agg (posC b t c e), .agg (posC b' t' c' e'), .int .i64 k] w fun x w' => x = .returned (.bool true) ∧ Below w.heap.size w w' := by
  have HS := Lib.hid (Two.start w (posO b t c e) (posO b' t' c' e'))
  have HB := Lib.hid hb
  have HB2 := Lib.hid hb'
  have HZB := Lib.hid hzb
  have HFB := Lib.hid hfb
  have HI := Lib.hid (pos_info b hb t c e)
  have HI2 := Lib.hid (pos_info b' hb' t' c' e')
  have HI3 := Lib.hid (pos_info b hb t k k)
  have HC := Lib.hid hc
  have HF1 := Lib.hid f1
  have HF2 := Lib.hid f2
  have HZ0 := Lib.hid (show (posC zb 0 0 0).size = (posC b t c e).size by rw [posC_size zb hzb, posC_size b hb])
  have hq : ∀ W, (Op.equalIn 10000 24 (.agg (boardC b)) (.agg (boardC b'))).run Try.prog W = .ok true W := fun W => by
    rw [show (Op.equalIn 10000 24 (.agg (boardC b)) (.agg (boardC b'))).run Try.prog W = .ok (decide (b = b')) W from run_equalIn_board 9998 b b' hb hb' W]; simp [h0]
  have hg := guardB
  obtain ⟨r, hr⟩ : ∃ r, (t == t') = r := ⟨_, rfl⟩
  have HS1 := Lib.hid (show sameB b t b t = true by unfold sameB; simp)
  have HS2 := Lib.hid (show sameB b t b' t' = r by unfold sameB; rw [← hr, Bool.eq_iff_iff]; simp [h0])
  have hf1 := field_castle fb hfb 0 15 (-1)
  have hf2 := field_at fb hfb 0 15 (-1)
  clear hb hb' hzb hfb hc f1 f2 h0
  go_enter Try.func9, Try.ntmps9
  go_wp2_with (first
    | (refine load_row rfl 37 _ rfl w.heap.size rfl 37 (posC b t c e) (0, 0) _ HS.out.2.1 Try.underlying37 rfl HI.out ?_)
    | (refine store_all 37 _ _ rfl rfl w1.heap.size (posC b t c e) rfl rfl 37 (posC zb 0 0 0) (heap_alloc_last _ _) HI.out HZ0.out (posC_one _ _ _ _) ?_; intro w2 hw2; have HT := Lib.hid (Tri.mk HS.out hw2); clear hw2)
    | (refine store_castle _ _ rfl rfl w1.heap.size k rfl rfl b t c e HB.out HT.out.2.1 ?_; intro w3 hw3; have HT := Lib.hid (HT.out.wrote hw3); clear hw3)
    | (refine store_ep _ _ rfl rfl w1.heap.size k rfl rfl b t k e HB.out HT.out.2.1 ?_; intro w3 hw3; have HT := Lib.hid (HT.out.wrote hw3); clear hw3)
    | (go_at_call 24; refine (wake8 _).mono ?_; rintro x w1 ⟨rfl, hb1⟩; have HS := Lib.hid (HS.out.step hb1); clear hb1))
  refine wp_region_sp (fun w' => Tri w (posO b t c e) (posO b' t' c' e') w1.heap.size (posO b t k k) w') [.val (.agg (posC b t c e)), .val (.agg (posC b t k k)), .val (.bool true), .val (.bool true), .val (.agg (posC b t c e)), .val (.agg (posC b' t' c' e')), .val (.bool r), .val (.pointer (some ⟨w.heap.size, 0, none⟩)), .val (.agg (boardC b)), .val (.pointer (some ⟨w.heap.size + 1, 0, none⟩)), .val (.agg (boardC b')), .val (.bool true), .val (.bool true), .val (.pointer (some ⟨w.heap.size, 64, none⟩)), .val (.int .i64 t), .val (.pointer (some ⟨w.heap.size + 1, 64, none⟩)), .val (.int .i64 t'), .val (.bool r), .val (.bool r), .val (.bool true), .val (.bool true), .val (.bool true), .val (.agg (posC fb 0 15 (-1))), .val (.int .i64 0), .val (.bool true), .val (.bool true), .val (.bool true), .val (.agg (posC fb 0 15 (-1))), .val (.int .i64 15), .val (.bool true), .val (.bool true), .val (.bool true), .val (.agg (posC fb 0 15 (-1))), .val (.agg (boardC fb)), .val (.int .i64 0), .val (.bool true), .val (.bool true), .val (.bool true)] _
    (fun u => by simp only [putAll, Nat.reduceAdd, Act.put, List.setIfInBounds_toArray, List.set_cons_zero, List.set_cons_succ]; exact rfl) (by kernel_rfl) (by kernel_rfl) (by kernel_rfl) (by kernel_rfl)
    (HT.out.step ((Below.refl _ _).drew)) (fun _ _ hs hs' => hs.step hs') ?_ ?_
  · repeat' (first | exact Ops.nil | refine Ops.cons (fun u w4 K hS hd hK => ?_) ?_)
    all_goals (simp only [Deps, Sp.at, Sp.holds, Region.binds, true_implies, and_true] at hd hK)
    all_goals (obtain ⟨hc1, hc2, hc3⟩ := pos_cells HB.out hS.1.2.1)
    all_goals (obtain ⟨hd1, hd2, hd3⟩ := pos_cells HB2.out hS.1.2.2)
    all_goals first
      | (refine sp_load 37 _ rfl (by first | rfl | (simp only [hd]; rfl)) w.heap.size rfl 37 _ (0, 0) _ hS.1.2.1 Try.underlying37 rfl HI.out ?_; exact hK.out _ _ (Below.refl _ _) rfl)
      | (refine sp_load 37 _ rfl (by first | rfl | (simp only [hd]; rfl)) (w.heap.size + 1) rfl 37 _ (0, 0) _ hS.1.2.2 Try.underlying37 rfl HI2.out ?_; exact hK.out _ _ (Below.refl _ _) rfl)
      | (refine sp_load 37 _ rfl (by first | rfl | (simp only [hd]; rfl)) w1.heap.size rfl 37 _ (0, 0) _ hS.2.1 Try.underlying37 rfl HI3.out ?_; exact hK.out _ _ (Below.refl _ _) rfl)
      | (refine sp_at _ rfl (by first | rfl | (simp only [hd]; rfl)) w.heap.size _ rfl (by simp only [hd]; rfl) b t c e HB.out hS.1.2.1 ?_; exact hK.out _ _ (Below.refl _ _) rfl)
      | (refine sp_at _ rfl (by first | rfl | (simp only [hd]; rfl)) (w.heap.size + 1) _ rfl (by simp only [hd]; rfl) b' t' c' e' HB2.out hS.1.2.2 ?_; exact hK.out _ _ (Below.refl _ _) rfl)
      | (try simp only [hd] at hK ⊢
         go_simp
         first
           | exact hK.out _ _ (Below.refl _ _) rfl
           | exact hK.out _ _ (Below.refl _ _)
           | (go_at_call 32; refine (HC.out _).mono ?_; rintro x w5 ⟨rfl, hb5⟩; exact hK.out _ _ hb5 rfl)
           | (go_at_call 25; refine (pos_Wrong fb HFB.out 0 15 (-1) _).mono ?_; rw [HF1.out]; rintro x w5 ⟨rfl, hb5⟩; exact hK.out _ _ hb5 rfl)
           | (go_at_call 33; refine (r3_Wrong fb HFB.out _).mono ?_; rw [HF2.out]; rintro x w5 ⟨rfl, hb5⟩; exact hK.out _ _ hb5 rfl)
           | (go_at_call 31; refine (pos_Same _ _ _ _ _ _ _ _ (by first | exact HB.out | exact HB2.out) (by first | exact HB.out | exact HB2.out) _).mono ?_; (first | rw [HS1.out] | rw [HS2.out]); rintro x w5 ⟨rfl, hb5⟩; exact hK.out _ _ hb5 rfl))
  · intro u w4 hS hall
    simp only [AllSp, Sp.holds, and_true, Nat.reduceAdd] at hall
    simp only [hall]
    go_wp2
    go_ret
    exact ⟨rfl, hS.1.1⟩
set_option maxHeartbeats 3200000 in
set_option maxRecDepth 100000 in
theorem same_no (b : List Int) (hb : BOk b) (t c e : Int) (b' : List Int) (hb' : BOk b') (t' c' e' k : Int) (h0 : ¬ b = b') (fb : List Int) (hfb : BOk fb) (hc : ∀ w, Calls Try.prog 32 #[] w fun x w' => x = .returned (.agg (posC fb 0 15 (-1))) ∧ Below w.heap.size w w')
    (f1 : posW fb 0 15 (-1) = 0) (f2 : bWrong fb = 0) (zb : List Int) (hzb : BOk zb) (hz : ∀ w, (zeroValue 37).run Try.prog w = .ok (.agg (posC zb 0 0 0)) w) (w : World) : Calls Try.prog 9 #[.agg (posC b t c e), .agg (posC b' t' c' e'), .int .i64 k] w fun x w' => x = .returned (.bool true) ∧ Below w.heap.size w w' := by
  have HS := Lib.hid (Two.start w (posO b t c e) (posO b' t' c' e'))
  have HB := Lib.hid hb
  have HB2 := Lib.hid hb'
  have HZB := Lib.hid hzb
  have HFB := Lib.hid hfb
  have HI := Lib.hid (pos_info b hb t c e)
  have HI2 := Lib.hid (pos_info b' hb' t' c' e')
  have HI3 := Lib.hid (pos_info b hb t k k)
  have HC := Lib.hid hc
  have HF1 := Lib.hid f1
  have HF2 := Lib.hid f2
  have HZ0 := Lib.hid (show (posC zb 0 0 0).size = (posC b t c e).size by rw [posC_size zb hzb, posC_size b hb])
  have hq : ∀ W, (Op.equalIn 10000 24 (.agg (boardC b)) (.agg (boardC b'))).run Try.prog W = .ok false W := fun W => by
    rw [show (Op.equalIn 10000 24 (.agg (boardC b)) (.agg (boardC b'))).run Try.prog W = .ok (decide (b = b')) W from run_equalIn_board 9998 b b' hb hb' W]; simp [h0]
  have hg := guardB
  obtain ⟨r, hr⟩ : ∃ r, (t == t') = r := ⟨_, rfl⟩
  have HS1 := Lib.hid (show sameB b t b t = true by unfold sameB; simp)
  have HS2 := Lib.hid (show sameB b t b' t' = false by unfold sameB; rw [Bool.eq_iff_iff]; simp [h0])
  have hf1 := field_castle fb hfb 0 15 (-1)
  have hf2 := field_at fb hfb 0 15 (-1)
  clear hb hb' hzb hfb hc f1 f2 h0
  go_enter Try.func9, Try.ntmps9
  go_wp2_with (first
    | (refine load_row rfl 37 _ rfl w.heap.size rfl 37 (posC b t c e) (0, 0) _ HS.out.2.1 Try.underlying37 rfl HI.out ?_)
    | (refine store_all 37 _ _ rfl rfl w1.heap.size (posC b t c e) rfl rfl 37 (posC zb 0 0 0) (heap_alloc_last _ _) HI.out HZ0.out (posC_one _ _ _ _) ?_; intro w2 hw2; have HT := Lib.hid (Tri.mk HS.out hw2); clear hw2)
    | (refine store_castle _ _ rfl rfl w1.heap.size k rfl rfl b t c e HB.out HT.out.2.1 ?_; intro w3 hw3; have HT := Lib.hid (HT.out.wrote hw3); clear hw3)
    | (refine store_ep _ _ rfl rfl w1.heap.size k rfl rfl b t k e HB.out HT.out.2.1 ?_; intro w3 hw3; have HT := Lib.hid (HT.out.wrote hw3); clear hw3)
    | (go_at_call 24; refine (wake8 _).mono ?_; rintro x w1 ⟨rfl, hb1⟩; have HS := Lib.hid (HS.out.step hb1); clear hb1))
  refine wp_region_sp (fun w' => Tri w (posO b t c e) (posO b' t' c' e') w1.heap.size (posO b t k k) w') [.val (.agg (posC b t c e)), .val (.agg (posC b t k k)), .val (.bool true), .val (.bool true), .val (.agg (posC b t c e)), .val (.agg (posC b' t' c' e')), .val (.bool false), .val (.pointer (some ⟨w.heap.size, 0, none⟩)), .val (.agg (boardC b)), .val (.pointer (some ⟨w.heap.size + 1, 0, none⟩)), .val (.agg (boardC b')), .val (.bool false), .val (.bool false), .free, .free, .free, .free, .free, .val (.bool false), .val (.bool true), .val (.bool true), .val (.bool true), .val (.agg (posC fb 0 15 (-1))), .val (.int .i64 0), .val (.bool true), .val (.bool true), .val (.bool true), .val (.agg (posC fb 0 15 (-1))), .val (.int .i64 15), .val (.bool true), .val (.bool true), .val (.bool true), .val (.agg (posC fb 0 15 (-1))), .val (.agg (boardC fb)), .val (.int .i64 0), .val (.bool true), .val (.bool true), .val (.bool true)] _
    (fun u => by simp only [putAll, Nat.reduceAdd, Act.put, List.setIfInBounds_toArray, List.set_cons_zero, List.set_cons_succ]; exact rfl) (by kernel_rfl) (by kernel_rfl) (by kernel_rfl) (by kernel_rfl)
    (HT.out.step ((Below.refl _ _).drew)) (fun _ _ hs hs' => hs.step hs') ?_ ?_
  · repeat' (first | exact Ops.nil | refine Ops.cons (fun u w4 K hS hd hK => ?_) ?_)
    all_goals (simp only [Deps, Sp.at, Sp.holds, Region.binds, true_implies, and_true] at hd hK)
    all_goals (obtain ⟨hc1, hc2, hc3⟩ := pos_cells HB.out hS.1.2.1)
    all_goals (obtain ⟨hd1, hd2, hd3⟩ := pos_cells HB2.out hS.1.2.2)
    all_goals first
      | (refine sp_load 37 _ rfl (by first | rfl | (simp only [hd]; rfl)) w.heap.size rfl 37 _ (0, 0) _ hS.1.2.1 Try.underlying37 rfl HI.out ?_; exact hK.out _ _ (Below.refl _ _) rfl)
      | (refine sp_load 37 _ rfl (by first | rfl | (simp only [hd]; rfl)) (w.heap.size + 1) rfl 37 _ (0, 0) _ hS.1.2.2 Try.underlying37 rfl HI2.out ?_; exact hK.out _ _ (Below.refl _ _) rfl)
      | (refine sp_load 37 _ rfl (by first | rfl | (simp only [hd]; rfl)) w1.heap.size rfl 37 _ (0, 0) _ hS.2.1 Try.underlying37 rfl HI3.out ?_; exact hK.out _ _ (Below.refl _ _) rfl)
      | (refine sp_at _ rfl (by first | rfl | (simp only [hd]; rfl)) w.heap.size _ rfl (by simp only [hd]; rfl) b t c e HB.out hS.1.2.1 ?_; exact hK.out _ _ (Below.refl _ _) rfl)
      | (refine sp_at _ rfl (by first | rfl | (simp only [hd]; rfl)) (w.heap.size + 1) _ rfl (by simp only [hd]; rfl) b' t' c' e' HB2.out hS.1.2.2 ?_; exact hK.out _ _ (Below.refl _ _) rfl)
      | (try simp only [hd] at hK ⊢
         go_simp
         first
           | exact hK.out _ _ (Below.refl _ _) rfl
           | exact hK.out _ _ (Below.refl _ _)
           | (go_at_call 32; refine (HC.out _).mono ?_; rintro x w5 ⟨rfl, hb5⟩; exact hK.out _ _ hb5 rfl)
           | (go_at_call 25; refine (pos_Wrong fb HFB.out 0 15 (-1) _).mono ?_; rw [HF1.out]; rintro x w5 ⟨rfl, hb5⟩; exact hK.out _ _ hb5 rfl)
           | (go_at_call 33; refine (r3_Wrong fb HFB.out _).mono ?_; rw [HF2.out]; rintro x w5 ⟨rfl, hb5⟩; exact hK.out _ _ hb5 rfl)
           | (go_at_call 31; refine (pos_Same _ _ _ _ _ _ _ _ (by first | exact HB.out | exact HB2.out) (by first | exact HB.out | exact HB2.out) _).mono ?_; (first | rw [HS1.out] | rw [HS2.out]); rintro x w5 ⟨rfl, hb5⟩; exact hK.out _ _ hb5 rfl))
  · intro u w4 hS hall
    simp only [AllSp, Sp.holds, and_true, Nat.reduceAdd] at hall
    simp only [hall]
    go_wp2
    go_ret
    exact ⟨rfl, hS.1.1⟩
theorem law_PosSame (b : List Int) (hb : BOk b) (t c e : Int) (b' : List Int) (hb' : BOk b') (t' c' e' k : Int) (w : World) : Calls Try.prog 9 #[.agg (posC b t c e), .agg (posC b' t' c' e'), .int .i64 k] w fun x w' => x = .returned (.bool true) ∧ Below w.heap.size w w' := by
  by_cases h : b = b'
  · exact same_yes b hb t c e b' hb' t' c' e' k h firstB firstB_ok pos_First first_right first_board zeroB zeroB_ok zero_pos w
  · exact same_no b hb t c e b' hb' t' c' e' k h firstB firstB_ok pos_First first_right first_board zeroB zeroB_ok zero_pos w
end Go.Proofs.Ytibaembmdcdbkaa
