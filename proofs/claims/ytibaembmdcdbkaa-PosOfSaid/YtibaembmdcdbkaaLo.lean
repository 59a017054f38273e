import Derived.Test.YtibaembmdcdbkaaOo
import Derived.Test.YtibaembmdcdbkaaWa
namespace Go.Proofs.Ytibaembmdcdbkaa
open Go.RowKit Alf

/-! law PosOf (printed by genlo.py) -/
theorem build_at {P : Program} {ops : Array Oper} {rest : List Oper} {o : Oper} {a : Act} {w : World} {Q : Exit → Act → World → Prop} (hgd : Region.wanted o (yielded ops a.tmps) = true) (t : TypeId) (parts : Array (Nat × Operand)) (ho : o.op = .build t parts)
    (l : List (Nat × Value)) (hl : parts.toList.map (fun x => (x.1, a.eval x.2)) = l) (cs : Array Value) (hc : P.built t l = some cs) (h : wpList P ops Q rest (a.put o.dst (.agg cs)) w) : wpList P ops Q (o :: rest) a w :=
  build_row hgd t parts ho l (by rw [← hl]; simp) cs hc h
/-- an object that came in, and two of a call's own -/
def Trio (w : World) (A : Obj) (g : Nat) (B : Obj) (g2 : Nat) (C : Obj) (wr : World) : Prop := Duo w A g B wr ∧ wr.heap[g2]? = some C
theorem Trio.mk {w wr w' : World} {A B C o : Obj} {g : Nat} (h : Duo w A g B wr) (hw : Wrote wr.heap.size C (wr.alloc o) w') : Trio w A g B wr.heap.size C w' := by
  have h1 := h.step (below_box wr o)
  have l1 := (Array.getElem?_eq_some_iff.1 h.2.1).1
  have l2 := h.1.lt
  exact ⟨⟨h1.1.trans (hw.below (by omega)), by rw [hw.rest _ (by omega)]; exact h1.2.1, h.2.2⟩, hw.obj⟩
theorem Trio.step {w wr wr' : World} {A B C : Obj} {g g2 : Nat} (h : Trio w A g B g2 C wr) (hb : Below wr.heap.size wr wr') : Trio w A g B g2 C wr' :=
  ⟨h.1.step hb, by rw [hb.block _ (Array.getElem?_eq_some_iff.1 h.2).1]; exact h.2⟩
set_option maxHeartbeats 1600000 in
set_option maxRecDepth 100000 in
theorem of_yes (b : List Int) (hb : BOk b) (t : Int) (h0 : posW b t 0 (-1) = 0) (zb : List Int) (hzb : BOk zb) (hz : ∀ w, (zeroValue 37).run Try.prog w = .ok (.agg (posC zb 0 0 0)) w) (hbz : Try.prog.built 37 [] = some (posC zb 0 0 0))
    (hof : ∀ w, Calls Try.prog 34 #[.agg (boardC b), .int .i64 t] w fun x w' => x = .returned (.tuple #[.agg (posC b t 0 (-1)), .int .i64 0]) ∧ Below w.heap.size w w') (w : World) : Calls Try.prog 10 #[.agg (boardC b), .int .i64 t] w fun x w' => x = .returned (.bool true) ∧ Below w.heap.size w w' := by
  have HA := Lib.hid (Lies.start w (boardO b))
  have HB := Lib.hid hb
  have HOF := Lib.hid hof
  have H0 := Lib.hid h0
  have HBZ := Lib.hid hbz
  have HBO := Lib.hid (built_of b hb t)
  have HIB := Lib.hid (board_info b hb)
  have HI := Lib.hid (pos_info b hb t 0 (-1))
  have HI0 := Lib.hid (pos_info zb hzb 0 0 0)
  have HZ1 := Lib.hid (show (posC zb 0 0 0).size = (posC b t 0 (-1)).size by rw [posC_size zb hzb, posC_size b hb])
  have hq : ∀ W, (Op.equalIn 10000 37 (.agg (posC b t 0 (-1))) (.agg (posC b t 0 (-1)))).run Try.prog W = .ok true W := fun W => by
    rw [eq_pos b t 0 (-1) b t 0 (-1) hb hb W]; simp
  have hg := guardP
  clear hb hzb hof h0 hbz
  go_enter Try.func10, Try.ntmps10
  go_wp2_with (first
    | (have h6 := hsix; refine load_row rfl 37 _ rfl w3.heap.size rfl 37 (posC b t 0 (-1)) (0, 0) _ HT.out.2 Try.underlying37 rfl HI.out ?_)
    | (have h6 := hsix; refine load_row rfl 37 _ rfl w2.heap.size rfl 37 (posC b t 0 (-1)) (0, 0) _ HT.out.1.2.1 Try.underlying37 rfl HI.out ?_)
    | (have h6 := hsix; go_at_call 26; refine (r8_Wrong b HB.out t 0 (-1) _).mono ?_; rw [H0.out]; rintro x w5 ⟨rfl, hb5⟩; have HT := Lib.hid (HT.out.step hb5); clear hb5)
    | (have h5 := hfive; refine load_row rfl 24 _ rfl w.heap.size rfl 24 _ (0, 0) _ HD.out.1.obj Try.underlying24 rfl HIB.out ?_)
    | (have h5 := hfive; refine build_at rfl 37 _ rfl _ rfl _ HBO.out ?_)
    | (have h5 := hfive; refine store_all 37 _ _ rfl rfl w3.heap.size (posC b t 0 (-1)) rfl rfl 37 (posC zb 0 0 0) (heap_alloc_last _ _) HI.out HZ1.out (posC_one _ _ _ _) ?_; intro w4 hw4; have HT := Lib.hid (Trio.mk HD.out hw4); clear hw4; have hsix := Lib.hid trivial)
    | (refine load_row rfl 24 _ rfl w.heap.size rfl 24 _ (0, 0) _ HA.out.obj Try.underlying24 rfl HIB.out ?_)
    | (go_at_call 24; refine (wake8 _).mono ?_; rintro x w1 ⟨rfl, hb1⟩; have HA := Lib.hid (HA.out.step hb1); clear hb1)
    | (go_at_call 34; refine (HOF.out _).mono ?_; rintro x w2 ⟨rfl, hb2⟩; have HA := Lib.hid (HA.out.step hb2); clear hb2)
    | (refine store_all 37 _ _ rfl rfl w2.heap.size (posC b t 0 (-1)) rfl rfl 37 (posC zb 0 0 0) (heap_alloc_last _ _) HI.out HZ1.out (posC_one _ _ _ _) ?_; intro w3 hw3; have HD := Lib.hid (Duo.mk HA.out hw3); clear hw3; have hfive := Lib.hid trivial))
  go_ret
  exact ⟨rfl, HT.out.1.below⟩
set_option maxHeartbeats 1600000 in
set_option maxRecDepth 100000 in
theorem of_no (b : List Int) (hb : BOk b) (t v : Int) (h0 : posW b t 0 (-1) = v) (hv : (v != 0) = true) (hv2 : (v == 0) = false) (zb : List Int) (hzb : BOk zb) (hz : ∀ w, (zeroValue 37).run Try.prog w = .ok (.agg (posC zb 0 0 0)) w) (hbz : Try.prog.built 37 [] = some (posC zb 0 0 0))
    (hof : ∀ w, Calls Try.prog 34 #[.agg (boardC b), .int .i64 t] w fun x w' => x = .returned (.tuple #[.agg (posC zb 0 0 0), .int .i64 v]) ∧ Below w.heap.size w w') (w : World) : Calls Try.prog 10 #[.agg (boardC b), .int .i64 t] w fun x w' => x = .returned (.bool true) ∧ Below w.heap.size w w' := by
  have HA := Lib.hid (Lies.start w (boardO b))
  have HB := Lib.hid hb
  have HOF := Lib.hid hof
  have H0 := Lib.hid h0
  have HBZ := Lib.hid hbz
  have HBO := Lib.hid (built_of b hb t)
  have HIB := Lib.hid (board_info b hb)
  have HI := Lib.hid (pos_info b hb t 0 (-1))
  have HI0 := Lib.hid (pos_info zb hzb 0 0 0)
  have HZ1 := Lib.hid (show (posC zb 0 0 0).size = (posC b t 0 (-1)).size by rw [posC_size zb hzb, posC_size b hb])
  have hq : ∀ W, (Op.equalIn 10000 37 (.agg (posC zb 0 0 0)) (.agg (posC zb 0 0 0))).run Try.prog W = .ok true W := fun W => by
    rw [eq_pos zb 0 0 0 zb 0 0 0 hzb hzb W]; simp
  have hg := guardP
  clear hb hzb hof h0 hbz
  go_enter Try.func10, Try.ntmps10
  go_wp2_with (first
    | (have h6 := hsix; refine build_at rfl 37 _ rfl _ rfl _ HBZ.out ?_)
    | (have h6 := hsix; refine load_row rfl 37 _ rfl w3.heap.size rfl 37 (posC b t 0 (-1)) (0, 0) _ HT.out.2 Try.underlying37 rfl HI.out ?_)
    | (have h6 := hsix; refine load_row rfl 37 _ rfl w2.heap.size rfl 37 (posC zb 0 0 0) (0, 0) _ HT.out.1.2.1 Try.underlying37 rfl HI0.out ?_)
    | (have h6 := hsix; go_at_call 26; refine (r8_Wrong b HB.out t 0 (-1) _).mono ?_; rw [H0.out]; rintro x w5 ⟨rfl, hb5⟩; have HT := Lib.hid (HT.out.step hb5); clear hb5)
    | (have h5 := hfive; refine load_row rfl 24 _ rfl w.heap.size rfl 24 _ (0, 0) _ HD.out.1.obj Try.underlying24 rfl HIB.out ?_)
    | (have h5 := hfive; refine build_at rfl 37 _ rfl _ rfl _ HBO.out ?_)
    | (have h5 := hfive; refine store_all 37 _ _ rfl rfl w3.heap.size (posC b t 0 (-1)) rfl rfl 37 (posC zb 0 0 0) (heap_alloc_last _ _) HI.out HZ1.out (posC_one _ _ _ _) ?_; intro w4 hw4; have HT := Lib.hid (Trio.mk HD.out hw4); clear hw4; have hsix := Lib.hid trivial)
    | (refine load_row rfl 24 _ rfl w.heap.size rfl 24 _ (0, 0) _ HA.out.obj Try.underlying24 rfl HIB.out ?_)
    | (go_at_call 24; refine (wake8 _).mono ?_; rintro x w1 ⟨rfl, hb1⟩; have HA := Lib.hid (HA.out.step hb1); clear hb1)
    | (go_at_call 34; refine (HOF.out _).mono ?_; rintro x w2 ⟨rfl, hb2⟩; have HA := Lib.hid (HA.out.step hb2); clear hb2)
    | (refine store_all 37 _ _ rfl rfl w2.heap.size (posC zb 0 0 0) rfl rfl 37 (posC zb 0 0 0) (heap_alloc_last _ _) HI0.out rfl (posC_one _ _ _ _) ?_; intro w3 hw3; have HD := Lib.hid (Duo.mk HA.out hw3); clear hw3; have hfive := Lib.hid trivial))
  go_ret
  exact ⟨rfl, HT.out.1.below⟩
theorem law_PosOf (b : List Int) (hb : BOk b) (t : Int) (w : World) : Calls Try.prog 10 #[.agg (boardC b), .int .i64 t] w fun x w' => x = .returned (.bool true) ∧ Below w.heap.size w w' := by
  by_cases h : posW b t 0 (-1) = 0
  · exact of_yes b hb t h zeroB zeroB_ok zero_pos built_zero (pos_Of_ok b hb t h zeroB zeroB_ok zero_pos pos_none) w
  · exact of_no b hb t _ rfl (by simpa using h) (by simpa using h) zeroB zeroB_ok zero_pos built_zero (pos_Of_no b hb t _ rfl (by simpa using h) zeroB zeroB_ok zero_pos built_zero pos_none) w
end Go.Proofs.Ytibaembmdcdbkaa
