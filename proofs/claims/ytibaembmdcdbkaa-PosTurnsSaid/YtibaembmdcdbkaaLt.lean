import Derived.Test.YtibaembmdcdbkaaTn
import Derived.Test.YtibaembmdcdbkaaOo
import Derived.Test.YtibaembmdcdbkaaWa
namespace Go.Proofs.Ytibaembmdcdbkaa
open Go.RowKit Alf

/-! pos.Turned -/
theorem cells3 {w' : World} {g : Nat} {b : List Int} {t c e : Int} (hb : BOk b) (h : w'.heap[g]? = some (posO b t c e)) :
    w'.cell? ⟨g, 64, none⟩ = some (.int .i64 t) ∧ w'.cell? ⟨g, 65, none⟩ = some (.int .i64 c) ∧ w'.cell? ⟨g, 66, none⟩ = some (.int .i64 e) := by
  obtain ⟨h1, h2, h3⟩ := posC_at b hb t c e
  exact ⟨by rw [cell_of_row w' _ _ _ _ _ h]; exact h1, by rw [cell_of_row w' _ _ _ _ _ h]; exact h2, by rw [cell_of_row w' _ _ _ _ _ h]; exact h3⟩
theorem cast_bits : ∀ c : Fin 16, bits .or .i64 (bits .and .i64 (((c.val : Nat) : Int) / 4) 3) (wrap64 (bits .and .i64 ((c.val : Nat) : Int) 3 * 4)) = castT ((c.val : Nat) : Int) := by decide +kernel
set_option maxHeartbeats 1600000 in
set_option maxRecDepth 100000 in
theorem pos_Turned_ep (b : List Int) (hb : BOk b) (t : Int) (c n : Nat) (hc : c < 16) (tb : List Int) (htb : BOk tb) (hT : ∀ w, Calls Try.prog 69 #[.agg (boardC b)] w fun x w' => x = .returned (.agg (boardC tb)) ∧ Below w.heap.size w w') (t2 c2 e2 : Int) (ht2 : mOther t = t2) (hc2 : castT c = c2) (he2 : flip n = e2) (zb : List Int) (hzb : BOk zb) (hz : ∀ w, (zeroValue 37).run Try.prog w = .ok (.agg (posC zb 0 0 0)) w)
    (hno : ∀ w, Calls Try.prog 65 #[] w fun x w' => x = .returned (.agg (posC zb 0 0 (-1))) ∧ Below w.heap.size w w') (w : World) : Calls Try.prog 35 #[.agg (posC b t c n)] w fun x w' => x = .returned (.agg (posC tb t2 c2 e2)) ∧ Below w.heap.size w w' := by
  have HB := Lib.hid hb
  have HTB := Lib.hid htb
  have HT0 := Lib.hid hT
  have HZ := Lib.hid hzb
  have HN := Lib.hid hno
  have HO := Lib.hid ht2
  have HC2 := Lib.hid (show bits .or .i64 (bits .and .i64 ((c : Int) / 4) 3) (wrap64 (bits .and .i64 (c : Int) 3 * 4)) = c2 from (cast_bits ⟨c, hc⟩).trans hc2)
  have HE2 := Lib.hid he2
  have HS := Lib.hid (Two.start w (posO b t c n) (posO zb 0 0 0))
  have HI0 := Lib.hid (pos_info zb hzb 0 0 (-1))
  have HI := Lib.hid (pos_info tb htb t2 c2 e2)
  have HZ0 := Lib.hid (show (posC zb 0 0 0).size = (posC zb 0 0 (-1)).size by rw [posC_size zb hzb, posC_size zb hzb])
  have HZ1 := Lib.hid (show (posC zb 0 0 0).size = (posC tb t2 c2 e2).size by rw [posC_size zb hzb, posC_size _ htb])
  clear hb hzb hno htb hT ht2 hc2 he2
  have q : decide (0 ≤ (n : Int)) = true := by simp
  go_enter Try.func35, Try.ntmps35
  go_wp2_with (first
    | (go_at_call 65; refine (HN.out _).mono ?_; rintro x w1 ⟨rfl, hb1⟩; have HS := Lib.hid (HS.out.step hb1); clear hb1)
    | (refine store_all 37 _ _ rfl rfl w1.heap.size (posC zb 0 0 (-1)) rfl rfl 37 (posC zb 0 0 0) (heap_alloc_last _ _) HI0.out HZ0.out (posC_one _ _ _ _) ?_; intro w2 hw2; have HT := Lib.hid (Tri.mk HS.out hw2); clear hw2))
  refine wp_region_tail 7 (fun w' => Tri w (posO b t c n) (posO zb 0 0 0) w1.heap.size (posO zb 0 0 (-1)) w') [.val (.pointer (some ⟨w.heap.size, 0, none⟩)), .val (.agg (boardC b)), .val (.agg (boardC tb)), .val (.pointer (some ⟨w.heap.size, 64, none⟩)), .val (.int .i64 t), .val (.int .i64 t2), .val (.pointer (some ⟨w1.heap.size, 0, none⟩))] _
    (fun u => by simp only [List.take_succ_cons, List.take_zero, putAll, Nat.reduceAdd, Act.put, List.setIfInBounds_toArray, List.set_cons_zero, List.set_cons_succ]; exact rfl) (by kernel_rfl) (by kernel_rfl) (by kernel_rfl)
    (HT.out.step ((Below.refl _ _).drew)) (fun _ _ hs hs' => hs.step hs') ?_ ?_
  · simp only [List.take_succ_cons, List.take_zero]
    repeat' (first | exact Ops.nil | refine Ops.cons (fun u w4 K hS hd hK => ?_) ?_)
    all_goals (simp only [Deps, Sp.at, Sp.holds, Region.binds, true_implies, and_true] at hd hK)
    all_goals (obtain ⟨hc1, hc2, hc3⟩ := cells3 HB.out hS.1.2.1)
    all_goals first
      | (refine sp_at _ rfl (by first | rfl | (simp only [hd]; rfl)) w.heap.size _ rfl (by simp only [hd]; rfl) b t c n HB.out hS.1.2.1 ?_; exact hK.out _ _ (Below.refl _ _) rfl)
      | (try simp only [hd] at hK ⊢
         go_simp
         first
           | exact hK.out _ _ (Below.refl _ _) rfl
           | (go_at_call 69; refine (HT0.out _).mono ?_; rintro x w5 ⟨rfl, hb5⟩; exact hK.out _ _ hb5 rfl)
           | (go_at_call 41; refine (men_Other _ _).mono ?_; rw [HO.out]; rintro x w5 ⟨rfl, rfl⟩; exact hK.out _ _ (Below.refl _ _) rfl))
  · intro u w4 hS hall
    simp only [AllSp, Sp.holds, and_true, Nat.reduceAdd] at hall
    simp only [hall]
    simp only [List.drop_succ_cons, List.drop_zero]
    have HT := Lib.hid hS
    obtain ⟨hc1, hc2, hc3⟩ := cells3 HB.out hS.1.2.1
    clear hall hS
    go_wp2_with (first
      | (refine store_at _ _ rfl rfl w1.heap.size tb rfl rfl zb 0 0 (-1) HZ.out HTB.out HT.out.2.1 ?_; intro w5 hw5; have HT := Lib.hid (HT.out.wrote hw5); clear hw5)
      | (refine store_turn _ _ rfl rfl w1.heap.size t2 rfl rfl tb 0 0 (-1) HTB.out HT.out.2.1 ?_; intro w6 hw6; have HT := Lib.hid (HT.out.wrote hw6); clear hw6; obtain ⟨hc1, hc2, hc3⟩ := cells3 HB.out HT.out.1.2.1)
      | (refine store_castle _ _ rfl rfl w1.heap.size (bits .or .i64 (bits .and .i64 ((c : Int) / 4) 3) (wrap64 (bits .and .i64 (c : Int) 3 * 4))) rfl rfl tb t2 0 (-1) HTB.out HT.out.2.1 ?_; rw [HC2.out]; intro w7 hw7; have HT := Lib.hid (HT.out.wrote hw7); clear hw7; obtain ⟨hc1, hc2, hc3⟩ := cells3 HB.out HT.out.1.2.1)
      | (go_at_call 70; refine (sq_Flip _ _).mono ?_; rw [HE2.out]; rintro x w8 ⟨rfl, rfl⟩)
      | (refine store_ep _ _ rfl rfl w1.heap.size e2 rfl rfl tb t2 c2 (-1) HTB.out HT.out.2.1 ?_; intro w8 hw8; have HT := Lib.hid (HT.out.wrote hw8); clear hw8)
      | (refine load_row rfl 37 _ rfl w1.heap.size rfl 37 (posC tb t2 c2 e2) (0, 0) _ HT.out.2.1 Try.underlying37 rfl HI.out ?_)
      | (refine store_all 37 _ _ rfl rfl (w.heap.size + 1) (posC tb t2 c2 e2) rfl rfl 37 (posC zb 0 0 0) HT.out.1.2.2 HI.out HZ1.out (posC_one _ _ _ _) ?_; intro w9 hw9))
    exact bodyPost_ret (results_cell_row rfl _ _ (w.heap.size + 1) 37 _ (0, 0) _ rfl hw9.obj Try.underlying37 rfl HI.out) rfl ⟨rfl, HT.out.1.1.trans (hw9.below (by omega))⟩
set_option maxHeartbeats 1600000 in
set_option maxRecDepth 100000 in
theorem pos_Turned_no (b : List Int) (hb : BOk b) (t : Int) (c : Nat) (hc : c < 16) (tb : List Int) (htb : BOk tb) (hT : ∀ w, Calls Try.prog 69 #[.agg (boardC b)] w fun x w' => x = .returned (.agg (boardC tb)) ∧ Below w.heap.size w w') (t2 c2 : Int) (ht2 : mOther t = t2) (hc2 : castT c = c2) (zb : List Int) (hzb : BOk zb) (hz : ∀ w, (zeroValue 37).run Try.prog w = .ok (.agg (posC zb 0 0 0)) w)
    (hno : ∀ w, Calls Try.prog 65 #[] w fun x w' => x = .returned (.agg (posC zb 0 0 (-1))) ∧ Below w.heap.size w w') (w : World) : Calls Try.prog 35 #[.agg (posC b t c (-1))] w fun x w' => x = .returned (.agg (posC tb t2 c2 (-1))) ∧ Below w.heap.size w w' := by
  have HB := Lib.hid hb
  have HTB := Lib.hid htb
  have HT0 := Lib.hid hT
  have HZ := Lib.hid hzb
  have HN := Lib.hid hno
  have HO := Lib.hid ht2
  have HC2 := Lib.hid (show bits .or .i64 (bits .and .i64 ((c : Int) / 4) 3) (wrap64 (bits .and .i64 (c : Int) 3 * 4)) = c2 from (cast_bits ⟨c, hc⟩).trans hc2)
  have HS := Lib.hid (Two.start w (posO b t c (-1)) (posO zb 0 0 0))
  have HI0 := Lib.hid (pos_info zb hzb 0 0 (-1))
  have HI := Lib.hid (pos_info tb htb t2 c2 (-1))
  have HZ0 := Lib.hid (show (posC zb 0 0 0).size = (posC zb 0 0 (-1)).size by rw [posC_size zb hzb, posC_size zb hzb])
  have HZ1 := Lib.hid (show (posC zb 0 0 0).size = (posC tb t2 c2 (-1)).size by rw [posC_size zb hzb, posC_size _ htb])
  clear hb hzb hno htb hT ht2 hc2
  go_enter Try.func35, Try.ntmps35
  go_wp2_with (first
    | (go_at_call 65; refine (HN.out _).mono ?_; rintro x w1 ⟨rfl, hb1⟩; have HS := Lib.hid (HS.out.step hb1); clear hb1)
    | (refine store_all 37 _ _ rfl rfl w1.heap.size (posC zb 0 0 (-1)) rfl rfl 37 (posC zb 0 0 0) (heap_alloc_last _ _) HI0.out HZ0.out (posC_one _ _ _ _) ?_; intro w2 hw2; have HT := Lib.hid (Tri.mk HS.out hw2); clear hw2))
  refine wp_region_tail 7 (fun w' => Tri w (posO b t c (-1)) (posO zb 0 0 0) w1.heap.size (posO zb 0 0 (-1)) w') [.val (.pointer (some ⟨w.heap.size, 0, none⟩)), .val (.agg (boardC b)), .val (.agg (boardC tb)), .val (.pointer (some ⟨w.heap.size, 64, none⟩)), .val (.int .i64 t), .val (.int .i64 t2), .val (.pointer (some ⟨w1.heap.size, 0, none⟩))] _
    (fun u => by simp only [List.take_succ_cons, List.take_zero, putAll, Nat.reduceAdd, Act.put, List.setIfInBounds_toArray, List.set_cons_zero, List.set_cons_succ]; exact rfl) (by kernel_rfl) (by kernel_rfl) (by kernel_rfl)
    (HT.out.step ((Below.refl _ _).drew)) (fun _ _ hs hs' => hs.step hs') ?_ ?_
  · simp only [List.take_succ_cons, List.take_zero]
    repeat' (first | exact Ops.nil | refine Ops.cons (fun u w4 K hS hd hK => ?_) ?_)
    all_goals (simp only [Deps, Sp.at, Sp.holds, Region.binds, true_implies, and_true] at hd hK)
    all_goals (obtain ⟨hc1, hc2, hc3⟩ := cells3 HB.out hS.1.2.1)
    all_goals first
      | (refine sp_at _ rfl (by first | rfl | (simp only [hd]; rfl)) w.heap.size _ rfl (by simp only [hd]; rfl) b t c (-1) HB.out hS.1.2.1 ?_; exact hK.out _ _ (Below.refl _ _) rfl)
      | (try simp only [hd] at hK ⊢
         go_simp
         first
           | exact hK.out _ _ (Below.refl _ _) rfl
           | (go_at_call 69; refine (HT0.out _).mono ?_; rintro x w5 ⟨rfl, hb5⟩; exact hK.out _ _ hb5 rfl)
           | (go_at_call 41; refine (men_Other _ _).mono ?_; rw [HO.out]; rintro x w5 ⟨rfl, rfl⟩; exact hK.out _ _ (Below.refl _ _) rfl))
  · intro u w4 hS hall
    simp only [AllSp, Sp.holds, and_true, Nat.reduceAdd] at hall
    simp only [hall]
    simp only [List.drop_succ_cons, List.drop_zero]
    have HT := Lib.hid hS
    obtain ⟨hc1, hc2, hc3⟩ := cells3 HB.out hS.1.2.1
    clear hall hS
    go_wp2_with (first
      | (refine store_at _ _ rfl rfl w1.heap.size tb rfl rfl zb 0 0 (-1) HZ.out HTB.out HT.out.2.1 ?_; intro w5 hw5; have HT := Lib.hid (HT.out.wrote hw5); clear hw5)
      | (refine store_turn _ _ rfl rfl w1.heap.size t2 rfl rfl tb 0 0 (-1) HTB.out HT.out.2.1 ?_; intro w6 hw6; have HT := Lib.hid (HT.out.wrote hw6); clear hw6; obtain ⟨hc1, hc2, hc3⟩ := cells3 HB.out HT.out.1.2.1)
      | (refine store_castle _ _ rfl rfl w1.heap.size (bits .or .i64 (bits .and .i64 ((c : Int) / 4) 3) (wrap64 (bits .and .i64 (c : Int) 3 * 4))) rfl rfl tb t2 0 (-1) HTB.out HT.out.2.1 ?_; rw [HC2.out]; intro w7 hw7; have HT := Lib.hid (HT.out.wrote hw7); clear hw7; obtain ⟨hc1, hc2, hc3⟩ := cells3 HB.out HT.out.1.2.1)
      | (refine load_row rfl 37 _ rfl w1.heap.size rfl 37 (posC tb t2 c2 (-1)) (0, 0) _ HT.out.2.1 Try.underlying37 rfl HI.out ?_)
      | (refine store_all 37 _ _ rfl rfl (w.heap.size + 1) (posC tb t2 c2 (-1)) rfl rfl 37 (posC zb 0 0 0) HT.out.1.2.2 HI.out HZ1.out (posC_one _ _ _ _) ?_; intro w9 hw9))
    exact bodyPost_ret (results_cell_row rfl _ _ (w.heap.size + 1) 37 _ (0, 0) _ rfl hw9.obj Try.underlying37 rfl HI.out) rfl ⟨rfl, HT.out.1.1.trans (hw9.below (by omega))⟩
theorem pos_Turned (b : List Int) (hb : BOk b) (t c e : Int) (h : posW b t c e = 0) (w : World) : Calls Try.prog 35 #[.agg (posC b t c e)] w fun x w' => x = .returned (.agg (posC (turnB b) (1 - t) (castT c) (epT e))) ∧ Below w.heap.size w w' := by
  obtain ⟨_, h1, h2, h3, h4, h5, _⟩ := posW_parts b t c e h
  obtain ⟨k, rfl⟩ := Int.eq_ofNat_of_zero_le h2
  have ho : mOther t = 1 - t := by unfold mOther; rw [if_pos h1]
  by_cases he : 0 ≤ e
  · obtain ⟨n, rfl⟩ := Int.eq_ofNat_of_zero_le he
    exact pos_Turned_ep b hb t k n (by omega) (turnB b) (turnB_ok b hb) (board_Turned b hb) _ _ _ ho rfl (by unfold epT; rw [if_pos he]) zeroB zeroB_ok zero_pos pos_none w
  · obtain rfl : e = -1 := by omega
    exact pos_Turned_no b hb t k (by omega) (turnB b) (turnB_ok b hb) (board_Turned b hb) _ _ ho rfl zeroB zeroB_ok zero_pos pos_none w

/-! alfilref08.Turned -/
theorem sp_build {P : Program} {ops : Array Oper} {Q : Exit → Act → World → Prop} {o : Oper} {a : Act} {w : World} {K : Act → World → Prop} (hw : Region.wanted o (yielded ops a.tmps) = true) (t : TypeId) (parts : Array (Nat × Operand)) (ho : o.op = .build t parts)
    (l : List (Nat × Value)) (hl : parts.toList.map (fun x => (x.1, a.eval x.2)) = l) (cs : Array Value) (hc : P.built t l = some cs) (h : K (a.put o.dst (.agg cs)) w) : if Region.wanted o (yielded ops a.tmps) = true then Oper.wp P o a w K Q else K (a.put o.dst undef) w := by
  rw [if_pos hw]
  exact wp_build_eq t parts ho l (by rw [← hl]; simp) cs hc h
theorem Tri.of {w wr w' : World} {A B C : Obj} {g : Nat} (h : Two w A B wr) (hg : w.heap.size + 1 < g) (hw : Wrote g C wr w') : Tri w A B g C w' :=
  ⟨⟨h.1.trans (hw.below (by omega)), by rw [hw.rest _ (by omega)]; exact h.2.1, by rw [hw.rest _ (by omega)]; exact h.2.2⟩, hw.obj, hg⟩
theorem i64_in (x : Int) (h : -9223372036854775808 ≤ x ∧ x ≤ 9223372036854775807) : IntKind.i64.wrap x = x := by
  unfold IntKind.wrap
  simp [IntKind.bits, IntKind.signed]
  omega
theorem Two.lt {w wr : World} {A B : Obj} (h : Two w A B wr) : w.heap.size + 2 ≤ wr.heap.size := (Array.getElem?_eq_some_iff.1 h.2.2).1
set_option maxHeartbeats 1600000 in
set_option maxRecDepth 100000 in
theorem r8_Turned_ep (b : List Int) (hb : BOk b) (t : Int) (c n : Nat) (ht0 : 0 ≤ t) (ht1 : t ≤ 1) (hc : c < 16) (hn : n < 64) (tb : List Int) (htb : BOk tb) (hT : ∀ w, Calls Try.prog 71 #[.agg (boardC b)] w fun x w' => x = .returned (.agg (boardC tb)) ∧ Below w.heap.size w w') (t2 c2 e2 : Int) (ht2 : 1 - t = t2) (hc2 : castT c = c2) (he2 : flip n = e2) (zb : List Int) (hzb : BOk zb) (hz : ∀ w, (zeroValue 37).run Try.prog w = .ok (.agg (posC zb 0 0 0)) w)
    (hbu : Try.prog.built 37 [(0, .agg (boardC tb)), (1, .int .i64 t2), (2, .int .i64 c2), (3, .int .i64 (-1))] = some (posC tb t2 c2 (-1))) (w : World) : Calls Try.prog 36 #[.agg (posC b t c n)] w fun x w' => x = .returned (.agg (posC tb t2 c2 e2)) ∧ Below w.heap.size w w' := by
  have HB := Lib.hid hb
  have HTB := Lib.hid htb
  have HT0 := Lib.hid hT
  have HZ := Lib.hid hzb
  have HBU := Lib.hid hbu
  have HO := Lib.hid ht2
  have HC2 := Lib.hid hc2
  have HE2 := Lib.hid he2
  have HS := Lib.hid (Two.start w (posO b t c n) (posO zb 0 0 0))
  have HI1 := Lib.hid (pos_info tb htb t2 c2 (-1))
  have HI := Lib.hid (pos_info tb htb t2 c2 e2)
  have HZ0 := Lib.hid (show (posC zb 0 0 0).size = (posC tb t2 c2 (-1)).size by rw [posC_size zb hzb, posC_size _ htb])
  have HZ1 := Lib.hid (show (posC zb 0 0 0).size = (posC tb t2 c2 e2).size by rw [posC_size zb hzb, posC_size _ htb])
  have e1 : IntKind.i64.wrap (1 - t) = t2 := (i64_in _ (by omega)).trans ht2
  have e2' : IntKind.i64.wrap ((c : Int) / 4) = (c : Int) / 4 := i64_in _ (by omega)
  have e3 : IntKind.i64.wrap ((c : Int) % 4 * 4) = (c : Int) % 4 * 4 := i64_in _ (by omega)
  have e4 : IntKind.i64.wrap ((c : Int) / 4 + (c : Int) % 4 * 4) = c2 := (i64_in _ (by omega)).trans hc2
  clear hb hzb htb hT ht2 hc2 he2 hbu
  go_enter Try.func36, Try.ntmps36
  go_wp2_with fail
  refine wp_region_tail 16 (fun w' => Two w (posO b t c n) (posO zb 0 0 0) w') [.val (.pointer (some ⟨w.heap.size, 0, none⟩)), .val (.agg (boardC b)), .val (.agg (boardC tb)), .val (.pointer (some ⟨w.heap.size, 64, none⟩)), .val (.int .i64 t), .val (.int .i64 t2), .val (.pointer (some ⟨w.heap.size, 65, none⟩)), .val (.int .i64 c), .val (.int .i64 ((c : Int) / 4)), .val (.pointer (some ⟨w.heap.size, 65, none⟩)), .val (.int .i64 c), .val (.int .i64 ((c : Int) % 4)), .val (.int .i64 ((c : Int) % 4 * 4)), .val (.int .i64 c2), .val (.agg (posC tb t2 c2 (-1))), .lies (w.heap.size + 2) (posO zb 0 0 0)] _
    (fun u => by simp only [List.take_succ_cons, List.take_zero, putAll, Nat.reduceAdd, Act.put, List.setIfInBounds_toArray, List.set_cons_zero, List.set_cons_succ]; exact rfl) (by kernel_rfl) (by kernel_rfl) (by kernel_rfl)
    (HS.out.step ((Below.refl _ _).drew)) (fun _ _ hs hs' => hs.step hs') ?_ ?_
  · simp only [List.take_succ_cons, List.take_zero]
    repeat' (first | exact Ops.nil | refine Ops.cons (fun u w4 K hS hd hK => ?_) ?_)
    all_goals (simp only [Deps, Sp.at, Sp.holds, Region.binds, true_implies, and_true] at hd hK)
    all_goals (obtain ⟨hc1, hc2, hc3⟩ := cells3 HB.out hS.2.1)
    all_goals first
      | (refine sp_at _ rfl (by first | rfl | (simp only [hd]; rfl)) w.heap.size _ rfl (by simp only [hd]; rfl) b t c n HB.out hS.2.1 ?_; exact hK.out _ _ (Below.refl _ _) rfl)
      | (refine sp_build (by first | rfl | (simp only [hd]; rfl)) 37 _ rfl _ (by simp only [hd]; rfl) _ HBU.out ?_; exact hK.out _ _ (Below.refl _ _) rfl)
      | (try simp only [hd] at hK ⊢
         go_simp
         first
           | exact hK.out _ _ (Below.refl _ _) rfl
           | (go_at_call 71; refine (HT0.out _).mono ?_; rintro x w5 ⟨rfl, hb5⟩; exact hK.out _ _ hb5 rfl)
           | exact hK.out _ _ (below_box _ _) ⟨_, rfl, hS.lt, heap_alloc_last _ _⟩)
  · intro u w4 hS hall
    simp only [AllSp, Sp.holds, and_true, Nat.reduceAdd] at hall
    obtain ⟨a0, a1, a2, a3, a4, a5, a6, a7, a8, a9, a10, a11, a12, a13, a14, g, a15, hgl, hgo⟩ := hall
    simp only [a0, a1, a2, a3, a4, a5, a6, a7, a8, a9, a10, a11, a12, a13, a14, a15]
    simp only [List.drop_succ_cons, List.drop_zero]
    have HS := Lib.hid hS
    have HG := Lib.hid hgo
    have HL := Lib.hid (show w.heap.size + 1 < g by omega)
    obtain ⟨hc1, hc2, hc3⟩ := cells3 HB.out hS.2.1
    clear a0 a1 a2 a3 a4 a5 a6 a7 a8 a9 a10 a11 a12 a13 a14 a15 hgl hgo hS e1 e2' e3 e4
    have q : decide (0 ≤ (n : Int)) = true := by simp
    go_wp2_with (first
      | (refine store_all 37 _ _ rfl rfl g (posC tb t2 c2 (-1)) rfl rfl 37 (posC zb 0 0 0) HG.out HI1.out HZ0.out (posC_one _ _ _ _) ?_; intro w5 hw5; have HT := Lib.hid (Tri.of HS.out HL.out hw5); clear hw5; obtain ⟨hc1, hc2, hc3⟩ := cells3 HB.out HT.out.1.2.1))
    obtain ⟨x, hx⟩ : ∃ x : Int, ((n % 8 : Nat) : Int) = x := ⟨_, rfl⟩
    obtain ⟨y, hy⟩ : ∃ y : Int, ((n / 8 : Nat) : Int) = y := ⟨_, rfl⟩
    have HX := Lib.hid (show (if sqR (n : Int) then (n : Int) % 8 else -1) = x by rw [if_pos (by unfold sqR; simp; omega)]; omega)
    have HY := Lib.hid (show (if sqR (n : Int) then (n : Int) / 8 else -1) = y by rw [if_pos (by unfold sqR; simp; omega)]; omega)
    have HX2 := Lib.hid hx.symm
    have HY2 := Lib.hid (show 7 - y = 7 - ((n / 8 : Nat) : Int) by omega)
    have e5 : IntKind.i64.wrap (7 - y) = 7 - y := i64_in _ (by omega)
    clear hx hy
    refine wp_region_tail 8 (fun w' => Tri w (posO b t c n) (posO zb 0 0 0) g (posO tb t2 c2 (-1)) w') [.val (.pointer (some ⟨w.heap.size, 66, none⟩)), .val (.int .i64 n), .val (.int .i64 x), .val (.pointer (some ⟨w.heap.size, 66, none⟩)), .val (.int .i64 n), .val (.int .i64 y), .val (.int .i64 (7 - y)), .val (.int .i64 e2)] _
      (fun u => by simp only [List.take_succ_cons, List.take_zero, putAll, Nat.reduceAdd, Act.put, List.setIfInBounds_toArray, List.set_cons_zero, List.set_cons_succ]; exact rfl) (by kernel_rfl) (by kernel_rfl) (by kernel_rfl)
      (HT.out.step ((Below.refl _ _).drew)) (fun _ _ hs hs' => hs.step hs') ?_ ?_
    · simp only [List.take_succ_cons, List.take_zero]
      repeat' (first | exact Ops.nil | refine Ops.cons (fun u w6 K hS hd hK => ?_) ?_)
      all_goals (simp only [Deps, Sp.at, Sp.holds, Region.binds, true_implies, and_true] at hd hK)
      all_goals (obtain ⟨hc1, hc2, hc3⟩ := cells3 HB.out hS.1.2.1)
      all_goals
        (try simp only [hd] at hK ⊢
         go_simp
         first
           | exact hK.out _ _ (Below.refl _ _) rfl
           | (go_at_call 73; refine (r_File _ _).mono ?_; rw [HX.out]; rintro x1 w7 ⟨rfl, rfl⟩; exact hK.out _ _ (Below.refl _ _) rfl)
           | (go_at_call 62; refine (r_Rank _ _).mono ?_; rw [HY.out]; rintro x1 w7 ⟨rfl, rfl⟩; exact hK.out _ _ (Below.refl _ _) rfl)
           | (go_at_call 72; refine (r_Find7 n hn x (7 - y) HX2.out HY2.out _).mono ?_; rw [HE2.out]; rintro x1 w7 ⟨rfl, rfl⟩; exact hK.out _ _ (Below.refl _ _) rfl))
    · intro u w6 hS hall
      simp only [AllSp, Sp.holds, and_true, Nat.reduceAdd] at hall
      simp only [hall]
      simp only [List.drop_succ_cons, List.drop_zero]
      have HT := Lib.hid hS
      clear hall hS
      go_wp2_with (first
        | (refine store_ep _ _ rfl rfl g e2 rfl rfl tb t2 c2 (-1) HTB.out HT.out.2.1 ?_; intro w8 hw8; have HT := Lib.hid (HT.out.wrote hw8); clear hw8)
        | (refine load_row rfl 37 _ rfl g rfl 37 (posC tb t2 c2 e2) (0, 0) _ HT.out.2.1 Try.underlying37 rfl HI.out ?_)
        | (refine store_all 37 _ _ rfl rfl (w.heap.size + 1) (posC tb t2 c2 e2) rfl rfl 37 (posC zb 0 0 0) HT.out.1.2.2 HI.out HZ1.out (posC_one _ _ _ _) ?_; intro w9 hw9))
      exact bodyPost_ret (results_cell_row rfl _ _ (w.heap.size + 1) 37 _ (0, 0) _ rfl hw9.obj Try.underlying37 rfl HI.out) rfl ⟨rfl, HT.out.1.1.trans (hw9.below (by omega))⟩
set_option maxHeartbeats 1600000 in
set_option maxRecDepth 100000 in
theorem r8_Turned_no (b : List Int) (hb : BOk b) (t : Int) (c : Nat) (ht0 : 0 ≤ t) (ht1 : t ≤ 1) (hc : c < 16) (tb : List Int) (htb : BOk tb) (hT : ∀ w, Calls Try.prog 71 #[.agg (boardC b)] w fun x w' => x = .returned (.agg (boardC tb)) ∧ Below w.heap.size w w') (t2 c2 : Int) (ht2 : 1 - t = t2) (hc2 : castT c = c2) (zb : List Int) (hzb : BOk zb) (hz : ∀ w, (zeroValue 37).run Try.prog w = .ok (.agg (posC zb 0 0 0)) w)
    (hbu : Try.prog.built 37 [(0, .agg (boardC tb)), (1, .int .i64 t2), (2, .int .i64 c2), (3, .int .i64 (-1))] = some (posC tb t2 c2 (-1))) (w : World) : Calls Try.prog 36 #[.agg (posC b t c (-1))] w fun x w' => x = .returned (.agg (posC tb t2 c2 (-1))) ∧ Below w.heap.size w w' := by
  have HB := Lib.hid hb
  have HTB := Lib.hid htb
  have HT0 := Lib.hid hT
  have HZ := Lib.hid hzb
  have HBU := Lib.hid hbu
  have HO := Lib.hid ht2
  have HC2 := Lib.hid hc2
  have HS := Lib.hid (Two.start w (posO b t c (-1)) (posO zb 0 0 0))
  have HI1 := Lib.hid (pos_info tb htb t2 c2 (-1))
  have HZ0 := Lib.hid (show (posC zb 0 0 0).size = (posC tb t2 c2 (-1)).size by rw [posC_size zb hzb, posC_size _ htb])
  have e1 : IntKind.i64.wrap (1 - t) = t2 := (i64_in _ (by omega)).trans ht2
  have e2' : IntKind.i64.wrap ((c : Int) / 4) = (c : Int) / 4 := i64_in _ (by omega)
  have e3 : IntKind.i64.wrap ((c : Int) % 4 * 4) = (c : Int) % 4 * 4 := i64_in _ (by omega)
  have e4 : IntKind.i64.wrap ((c : Int) / 4 + (c : Int) % 4 * 4) = c2 := (i64_in _ (by omega)).trans hc2
  clear hb hzb htb hT ht2 hc2 hbu
  go_enter Try.func36, Try.ntmps36
  go_wp2_with fail
  refine wp_region_tail 16 (fun w' => Two w (posO b t c (-1)) (posO zb 0 0 0) w') [.val (.pointer (some ⟨w.heap.size, 0, none⟩)), .val (.agg (boardC b)), .val (.agg (boardC tb)), .val (.pointer (some ⟨w.heap.size, 64, none⟩)), .val (.int .i64 t), .val (.int .i64 t2), .val (.pointer (some ⟨w.heap.size, 65, none⟩)), .val (.int .i64 c), .val (.int .i64 ((c : Int) / 4)), .val (.pointer (some ⟨w.heap.size, 65, none⟩)), .val (.int .i64 c), .val (.int .i64 ((c : Int) % 4)), .val (.int .i64 ((c : Int) % 4 * 4)), .val (.int .i64 c2), .val (.agg (posC tb t2 c2 (-1))), .lies (w.heap.size + 2) (posO zb 0 0 0)] _
    (fun u => by simp only [List.take_succ_cons, List.take_zero, putAll, Nat.reduceAdd, Act.put, List.setIfInBounds_toArray, List.set_cons_zero, List.set_cons_succ]; exact rfl) (by kernel_rfl) (by kernel_rfl) (by kernel_rfl)
    (HS.out.step ((Below.refl _ _).drew)) (fun _ _ hs hs' => hs.step hs') ?_ ?_
  · simp only [List.take_succ_cons, List.take_zero]
    repeat' (first | exact Ops.nil | refine Ops.cons (fun u w4 K hS hd hK => ?_) ?_)
    all_goals (simp only [Deps, Sp.at, Sp.holds, Region.binds, true_implies, and_true] at hd hK)
    all_goals (obtain ⟨hc1, hc2, hc3⟩ := cells3 HB.out hS.2.1)
    all_goals first
      | (refine sp_at _ rfl (by first | rfl | (simp only [hd]; rfl)) w.heap.size _ rfl (by simp only [hd]; rfl) b t c (-1) HB.out hS.2.1 ?_; exact hK.out _ _ (Below.refl _ _) rfl)
      | (refine sp_build (by first | rfl | (simp only [hd]; rfl)) 37 _ rfl _ (by simp only [hd]; rfl) _ HBU.out ?_; exact hK.out _ _ (Below.refl _ _) rfl)
      | (try simp only [hd] at hK ⊢
         go_simp
         first
           | exact hK.out _ _ (Below.refl _ _) rfl
           | (go_at_call 71; refine (HT0.out _).mono ?_; rintro x w5 ⟨rfl, hb5⟩; exact hK.out _ _ hb5 rfl)
           | exact hK.out _ _ (below_box _ _) ⟨_, rfl, hS.lt, heap_alloc_last _ _⟩)
  · intro u w4 hS hall
    simp only [AllSp, Sp.holds, and_true, Nat.reduceAdd] at hall
    obtain ⟨a0, a1, a2, a3, a4, a5, a6, a7, a8, a9, a10, a11, a12, a13, a14, g, a15, hgl, hgo⟩ := hall
    simp only [a0, a1, a2, a3, a4, a5, a6, a7, a8, a9, a10, a11, a12, a13, a14, a15]
    simp only [List.drop_succ_cons, List.drop_zero]
    have HS := Lib.hid hS
    have HG := Lib.hid hgo
    have HL := Lib.hid (show w.heap.size + 1 < g by omega)
    obtain ⟨hc1, hc2, hc3⟩ := cells3 HB.out hS.2.1
    clear a0 a1 a2 a3 a4 a5 a6 a7 a8 a9 a10 a11 a12 a13 a14 a15 hgl hgo hS e1 e2' e3 e4
    go_wp2_with (first
      | (refine store_all 37 _ _ rfl rfl g (posC tb t2 c2 (-1)) rfl rfl 37 (posC zb 0 0 0) HG.out HI1.out HZ0.out (posC_one _ _ _ _) ?_; intro w5 hw5; have HT := Lib.hid (Tri.of HS.out HL.out hw5); clear hw5; obtain ⟨hc1, hc2, hc3⟩ := cells3 HB.out HT.out.1.2.1; have hlast := Lib.hid trivial)
      | (have h0 := hlast; refine load_row rfl 37 _ rfl g rfl 37 (posC tb t2 c2 (-1)) (0, 0) _ HT.out.2.1 Try.underlying37 rfl HI1.out ?_)
      | (have h0 := hlast; refine store_all 37 _ _ rfl rfl (w.heap.size + 1) (posC tb t2 c2 (-1)) rfl rfl 37 (posC zb 0 0 0) HT.out.1.2.2 HI1.out HZ0.out (posC_one _ _ _ _) ?_; intro w9 hw9))
    exact bodyPost_ret (results_cell_row rfl _ _ (w.heap.size + 1) 37 _ (0, 0) _ rfl hw9.obj Try.underlying37 rfl HI1.out) rfl ⟨rfl, HT.out.1.1.trans (hw9.below (by omega))⟩
theorem r8_Turned (b : List Int) (hb : BOk b) (t c e : Int) (h : posW b t c e = 0) (w : World) : Calls Try.prog 36 #[.agg (posC b t c e)] w fun x w' => x = .returned (.agg (posC (turnB b) (1 - t) (castT c) (epT e))) ∧ Below w.heap.size w w' := by
  obtain ⟨_, h1, h2, h3, h4, h5, _⟩ := posW_parts b t c e h
  obtain ⟨k, rfl⟩ := Int.eq_ofNat_of_zero_le h2
  by_cases he : 0 ≤ e
  · obtain ⟨n, rfl⟩ := Int.eq_ofNat_of_zero_le he
    exact r8_Turned_ep b hb t k n (by omega) (by omega) (by omega) (by omega) (turnB b) (turnB_ok b hb) (r3_Turned b hb) _ _ _ rfl rfl (by unfold epT; rw [if_pos he]) zeroB zeroB_ok zero_pos (built_all _ (turnB_ok b hb) _ _) w
  · obtain rfl : e = -1 := by omega
    exact r8_Turned_no b hb t k (by omega) (by omega) (by omega) (turnB b) (turnB_ok b hb) (r3_Turned b hb) _ _ rfl rfl zeroB zeroB_ok zero_pos (built_all _ (turnB_ok b hb) _ _) w

/-! law PosTurns -/
set_option maxHeartbeats 1600000 in
set_option maxRecDepth 100000 in
theorem turns_no (b : List Int) (hb : BOk b) (t c e v : Int) (hv : posW b t c e = v) (h0 : (v != 0) = true) (w : World) : Calls Try.prog 11 #[.agg (posC b t c e)] w fun x w' => x = .returned (.bool true) ∧ Below w.heap.size w w' := by
  have HA := Lib.hid (Lies.start w (posO b t c e))
  have HB := Lib.hid hb
  have HI := Lib.hid (pos_info b hb t c e)
  have HV := Lib.hid hv
  clear hb hv
  go_enter Try.func11, Try.ntmps11
  go_wp2_with (first
    | (refine load_row rfl 37 _ rfl w.heap.size rfl 37 _ (0, 0) _ HA.out.obj Try.underlying37 rfl HI.out ?_)
    | (go_at_call 26; refine (r8_Wrong b HB.out t c e _).mono ?_; rw [HV.out]; rintro x w1 ⟨rfl, hb1⟩; have HA := Lib.hid (HA.out.step hb1); clear hb1)
    | (go_at_call 24; refine (wake8 _).mono ?_; rintro x w1 ⟨rfl, hb1⟩; have HA := Lib.hid (HA.out.step hb1); clear hb1))
  go_ret
  exact ⟨rfl, HA.out.below⟩
set_option maxHeartbeats 1600000 in
set_option maxRecDepth 100000 in
theorem turns_yes (b : List Int) (hb : BOk b) (t c e : Int) (tb : List Int) (htb : BOk tb) (t2 c2 e2 : Int) (h0 : posW b t c e = 0) (h1 : posW tb t2 c2 e2 = 0)
    (hP : ∀ w, Calls Try.prog 35 #[.agg (posC b t c e)] w fun x w' => x = .returned (.agg (posC tb t2 c2 e2)) ∧ Below w.heap.size w w')
    (hQ : ∀ w, Calls Try.prog 35 #[.agg (posC tb t2 c2 e2)] w fun x w' => x = .returned (.agg (posC b t c e)) ∧ Below w.heap.size w w')
    (hR : ∀ w, Calls Try.prog 36 #[.agg (posC b t c e)] w fun x w' => x = .returned (.agg (posC tb t2 c2 e2)) ∧ Below w.heap.size w w')
    (zb : List Int) (hzb : BOk zb) (hz : ∀ w, (zeroValue 37).run Try.prog w = .ok (.agg (posC zb 0 0 0)) w) (w : World) : Calls Try.prog 11 #[.agg (posC b t c e)] w fun x w' => x = .returned (.bool true) ∧ Below w.heap.size w w' := by
  have HA := Lib.hid (Lies.start w (posO b t c e))
  have HB := Lib.hid hb
  have HTB := Lib.hid htb
  have HI := Lib.hid (pos_info b hb t c e)
  have HI2 := Lib.hid (pos_info tb htb t2 c2 e2)
  have HZ0 := Lib.hid (show (posC zb 0 0 0).size = (posC tb t2 c2 e2).size by rw [posC_size zb hzb, posC_size _ htb])
  have H0 := Lib.hid h0
  have H1 := Lib.hid h1
  have HP := Lib.hid hP
  have HQ := Lib.hid hQ
  have HR := Lib.hid hR
  have hq1 : ∀ W, (Op.equalIn 10000 37 (.agg (posC tb t2 c2 e2)) (.agg (posC tb t2 c2 e2))).run Try.prog W = .ok true W := fun W => by
    rw [eq_pos tb t2 c2 e2 tb t2 c2 e2 htb htb W]; simp
  have hq2 : ∀ W, (Op.equalIn 10000 37 (.agg (posC b t c e)) (.agg (posC b t c e))).run Try.prog W = .ok true W := fun W => by
    rw [eq_pos b t c e b t c e hb hb W]; simp
  have hg := guardP
  clear hb htb hzb h0 h1 hP hQ hR
  go_enter Try.func11, Try.ntmps11
  go_wp2_with (first
    | (refine load_row rfl 37 _ rfl w.heap.size rfl 37 _ (0, 0) _ HA.out.obj Try.underlying37 rfl HI.out ?_)
    | (go_at_call 26; refine (r8_Wrong b HB.out t c e _).mono ?_; rw [H0.out]; rintro x w2 ⟨rfl, hb1⟩; have HA := Lib.hid (HA.out.step hb1); clear hb1)
    | (go_at_call 24; refine (wake8 _).mono ?_; rintro x w1 ⟨rfl, hb1⟩; have HA := Lib.hid (HA.out.step hb1); clear hb1)
    | (go_at_call 35; refine (HP.out _).mono ?_; rintro x w3 ⟨rfl, hb1⟩; have HA := Lib.hid (HA.out.step hb1); clear hb1)
    | (refine store_all 37 _ _ rfl rfl w3.heap.size (posC tb t2 c2 e2) rfl rfl 37 (posC zb 0 0 0) (heap_alloc_last _ _) HI2.out HZ0.out (posC_one _ _ _ _) ?_; intro w4 hw4; have HD := Lib.hid (Duo.mk HA.out hw4); clear hw4))
  refine wp_region_sp (fun w' => Duo w (posO b t c e) w3.heap.size (posO tb t2 c2 e2) w') [.val (.agg (posC tb t2 c2 e2)), .val (.agg (posC b t c e)), .val (.agg (posC tb t2 c2 e2)), .val (.bool true), .val (.bool true), .val (.agg (posC tb t2 c2 e2)), .val (.int .i64 0), .val (.bool true), .val (.bool true), .val (.bool true), .val (.agg (posC tb t2 c2 e2)), .val (.agg (posC b t c e)), .val (.agg (posC b t c e)), .val (.bool true), .val (.bool true), .val (.bool true)] _
    (fun u => by simp only [putAll, Nat.reduceAdd, Act.put, List.setIfInBounds_toArray, List.set_cons_zero, List.set_cons_succ]; exact rfl) (by kernel_rfl) (by kernel_rfl) (by kernel_rfl) (by kernel_rfl)
    (HD.out.step ((Below.refl _ _).drew)) (fun _ _ hs hs' => hs.step hs') ?_ ?_
  · repeat' (first | exact Ops.nil | refine Ops.cons (fun u w5 K hS hd hK => ?_) ?_)
    all_goals (simp only [Deps, Sp.at, Sp.holds, Region.binds, true_implies, and_true] at hd hK)
    all_goals first
      | (refine sp_load 37 _ rfl (by first | rfl | (simp only [hd]; rfl)) w.heap.size rfl 37 _ (0, 0) _ hS.1.obj Try.underlying37 rfl HI.out ?_; exact hK.out _ _ (Below.refl _ _) rfl)
      | (refine sp_load 37 _ rfl (by first | rfl | (simp only [hd]; rfl)) w3.heap.size rfl 37 _ (0, 0) _ hS.2.1 Try.underlying37 rfl HI2.out ?_; exact hK.out _ _ (Below.refl _ _) rfl)
      | (try simp only [hd] at hK ⊢
         go_simp
         first
           | exact hK.out _ _ (Below.refl _ _) rfl
           | exact hK.out _ _ (Below.refl _ _)
           | (go_at_call 36; refine (HR.out _).mono ?_; rintro x w6 ⟨rfl, hb6⟩; exact hK.out _ _ hb6 rfl)
           | (go_at_call 25; refine (pos_Wrong tb HTB.out t2 c2 e2 _).mono ?_; rw [H1.out]; rintro x w6 ⟨rfl, hb6⟩; exact hK.out _ _ hb6 rfl)
           | (go_at_call 35; refine (HQ.out _).mono ?_; rintro x w6 ⟨rfl, hb6⟩; exact hK.out _ _ hb6 rfl))
  · intro u w5 hS hall
    simp only [AllSp, Sp.holds, and_true] at hall
    simp only [hall]
    go_wp2
    go_ret
    exact ⟨rfl, hS.below⟩
theorem law_PosTurns (b : List Int) (hb : BOk b) (t c e : Int) (w : World) : Calls Try.prog 11 #[.agg (posC b t c e)] w fun x w' => x = .returned (.bool true) ∧ Below w.heap.size w w' := by
  by_cases h : posW b t c e = 0
  · have h1 := turn_posW b hb t c e h
    obtain ⟨_, _, k2, k3, k4, k5, _⟩ := posW_parts b t c e h
    obtain ⟨n, rfl⟩ := Int.eq_ofNat_of_zero_le k2
    have hc := (castT_twice ⟨n, by omega⟩).1
    simp only at hc
    obtain ⟨_, _, he, _⟩ := epT_in e k4 k5
    refine turns_yes b hb t n e (turnB b) (turnB_ok b hb) _ _ _ h h1 (pos_Turned b hb t n e h) (fun w => ?_) (r8_Turned b hb t n e h) zeroB zeroB_ok zero_pos w
    have hq := pos_Turned (turnB b) (turnB_ok b hb) _ _ _ h1 w
    rw [turn_turn b hb, hc, he, show 1 - (1 - t) = t by omega] at hq
    exact hq
  · exact turns_no b hb t c e _ rfl (by simpa using h) w
end Go.Proofs.Ytibaembmdcdbkaa
