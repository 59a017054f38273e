import Derived.Test.YtibaembmdcdbkaaFp
namespace Go.Proofs.Ytibaembmdcdbkaa
open Go.RowKit Alf

/-! pos.Same; '==' on positions -/
def sameB (b : List Int) (t : Int) (b' : List Int) (t' : Int) : Bool := decide (b = b' ∧ t = t')
theorem guardP : Try.prog.eqGuardType Try.prog.depth 37 = false := by kernel_rfl
theorem eq_pos (b : List Int) (t c e : Int) (b' : List Int) (t' c' e' : Int) (hb : BOk b) (hb' : BOk b') (W : World) : (Op.equalIn 10000 37 (.agg (posC b t c e)) (.agg (posC b' t' c' e'))).run Try.prog W = .ok (decide (b = b' ∧ t = t' ∧ c = c' ∧ e = e')) W := run_equalIn_pos 9997 b b' hb hb' t c e t' c' e' W
set_option maxHeartbeats 800000 in
set_option maxRecDepth 100000 in
theorem pos_Same (b : List Int) (t c e : Int) (b' : List Int) (t' c' e' : Int) (hb : BOk b) (hb' : BOk b') (w : World) : Calls Try.prog 31 #[.agg (posC b t c e), .agg (posC b' t' c' e')] w fun x w' => x = .returned (.bool (sameB b t b' t')) ∧ Below w.heap.size w w' := by
  have HB := Lib.hid hb
  have HB2 := Lib.hid hb'
  have HS := Lib.hid (Two.start w (posO b t c e) (posO b' t' c' e'))
  have HI := Lib.hid (pos_info b hb t 0 0)
  have HI2 := Lib.hid (pos_info b' hb' t' 0 0)
  obtain ⟨r, hr⟩ : ∃ r, sameB b t b' t' = r := ⟨_, rfl⟩
  have hq : ∀ W, (Op.equalIn 10000 37 (.agg (posC b t 0 0)) (.agg (posC b' t' 0 0))).run Try.prog W = .ok r W := fun W => by
    rw [eq_pos b t 0 0 b' t' 0 0 hb hb' W, ← hr]; unfold sameB; simp
  have hg := guardP
  have E := Lib.hid hr
  clear hb hb' hr
  go_enter Try.func31, Try.ntmps31
  go_wp2_with (first
    | (refine store_castle _ _ rfl rfl w.heap.size 0 rfl rfl b t c e HB.out HS.out.2.1 ?_; intro w2 hw2; have HS := Lib.hid (HS.out.wrote0 hw2); clear hw2)
    | (refine store_ep _ _ rfl rfl w.heap.size 0 rfl rfl b t 0 e HB.out HS.out.2.1 ?_; intro w2 hw2; have HS := Lib.hid (HS.out.wrote0 hw2); clear hw2)
    | (refine store_castle _ _ rfl rfl (w.heap.size + 1) 0 rfl rfl b' t' c' e' HB2.out HS.out.2.2 ?_; intro w2 hw2; have HS := Lib.hid (HS.out.wrote hw2); clear hw2)
    | (refine store_ep _ _ rfl rfl (w.heap.size + 1) 0 rfl rfl b' t' 0 e' HB2.out HS.out.2.2 ?_; intro w2 hw2; have HS := Lib.hid (HS.out.wrote hw2); clear hw2)
    | (refine load_row rfl 37 _ rfl w.heap.size rfl 37 (posC b t 0 0) (0, 0) _ HS.out.2.1 Try.underlying37 rfl HI.out ?_)
    | (refine load_row rfl 37 _ rfl (w.heap.size + 1) rfl 37 (posC b' t' 0 0) (0, 0) _ HS.out.2.2 Try.underlying37 rfl HI2.out ?_))
  go_ret
  exact ⟨re_bool E.out.symm, HS.out.1⟩

/-! pos.Of -/
/-- three objects of a call's own -/
def Tri (w : World) (A B : Obj) (g : Nat) (C : Obj) (wr : World) : Prop := Two w A B wr ∧ wr.heap[g]? = some C ∧ w.heap.size + 1 < g
theorem Tri.mk {w w1 w2 : World} {A B C o : Obj} (h : Two w A B w1) (hw : Wrote w1.heap.size C (w1.alloc o) w2) : Tri w A B w1.heap.size C w2 :=
  ⟨h.fresh hw, hw.obj, (Array.getElem?_eq_some_iff.1 h.2.2).1⟩
theorem Tri.step {w wr wr' : World} {A B C : Obj} {g : Nat} (h : Tri w A B g C wr) (hb : Below wr.heap.size wr wr') : Tri w A B g C wr' :=
  ⟨h.1.step hb, by rw [hb.block _ (Array.getElem?_eq_some_iff.1 h.2.1).1]; exact h.2.1, h.2.2⟩
theorem Tri.wrote {w wr wr' : World} {A B C D : Obj} {g : Nat} (h : Tri w A B g C wr) (hw : Wrote g D wr wr') : Tri w A B g D wr' :=
  ⟨⟨h.1.1.trans (hw.below (by have := h.2.2; omega)), by rw [hw.rest _ (by have := h.2.2; omega)]; exact h.1.2.1, by rw [hw.rest _ (by have := h.2.2; omega)]; exact h.1.2.2⟩, hw.obj, h.2.2⟩
theorem results_row_tmp {P : Program} {fn : Func} {p u : Tmp} {ty : TypeId} (h : fn.results = #[.cell p ty, .tmp u]) (tmps : Array Value) (w : World) (g : Nat) (t : TypeId) (cs : Array Value) (fr : Nat × Nat) (d : TypeDesc)
    (hp : tmps.getD p undef = .pointer (some ⟨g, 0, none⟩)) (hg : w.heap[g]? = some (.cells cs t fr))
    (hu : P.underlying ty = some d) (hd : (match d with | .struct _ | .array _ _ => true | _ => false) = true) (hi : (P.info? ty).map (·.size) = some cs.size) :
    (results fn tmps).run P w = .ok (.tuple #[.agg cs, tmps.getD u undef]) w := by
  have hp' : tmps[p]?.getD undef = .pointer (some ⟨g, 0, none⟩) := by simpa using hp
  simp [results, h, hp', asAddr, run_loadVar_row w g t ty cs fr d hg hu hd hi]
set_option maxHeartbeats 1600000 in
set_option maxRecDepth 100000 in
theorem pos_Of_ok (b : List Int) (hb : BOk b) (t : Int) (h0 : posW b t 0 (-1) = 0) (zb : List Int) (hzb : BOk zb) (hz : ∀ w, (zeroValue 37).run Try.prog w = .ok (.agg (posC zb 0 0 0)) w)
    (hn : ∀ w, Calls Try.prog 65 #[] w fun x w' => x = .returned (.agg (posC zb 0 0 (-1))) ∧ Below w.heap.size w w') (w : World) : Calls Try.prog 34 #[.agg (boardC b), .int .i64 t] w fun x w' => x = .returned (.tuple #[.agg (posC b t 0 (-1)), .int .i64 0]) ∧ Below w.heap.size w w' := by
  have HB := Lib.hid hb
  have HZ := Lib.hid hzb
  have HN := Lib.hid hn
  have H0 := Lib.hid h0
  have HS := Lib.hid (Two.start w (boardO b) (posO zb 0 0 0))
  have HI0 := Lib.hid (pos_info zb hzb 0 0 (-1))
  have HI := Lib.hid (pos_info b hb t 0 (-1))
  have HIB := Lib.hid (board_info b hb)
  have HZ0 := Lib.hid (show (posC zb 0 0 0).size = (posC zb 0 0 (-1)).size by rw [posC_size zb hzb, posC_size zb hzb])
  have HZ1 := Lib.hid (show (posC zb 0 0 0).size = (posC b t 0 (-1)).size by rw [posC_size zb hzb, posC_size b hb])
  clear hb hzb hn h0
  go_enter Try.func34, Try.ntmps34
  go_wp2_with (first
    | (go_at_call 65; refine (HN.out _).mono ?_; rintro x w1 ⟨rfl, hb1⟩; have HS := Lib.hid (HS.out.step hb1); clear hb1)
    | (refine store_all 37 _ _ rfl rfl w1.heap.size (posC zb 0 0 (-1)) rfl rfl 37 (posC zb 0 0 0) (heap_alloc_last _ _) HI0.out HZ0.out (posC_one _ _ _ _) ?_; intro w2 hw2; have HT := Lib.hid (Tri.mk HS.out hw2); clear hw2)
    | (refine load_row rfl 24 _ rfl w.heap.size rfl 24 (boardC b) (0, 0) _ HT.out.1.2.1 Try.underlying24 rfl HIB.out ?_)
    | (refine store_at _ _ rfl rfl w1.heap.size b rfl rfl zb 0 0 (-1) HZ.out HB.out HT.out.2.1 ?_; intro w3 hw3; have HT := Lib.hid (HT.out.wrote hw3); clear hw3)
    | (refine store_turn _ _ rfl rfl w1.heap.size t rfl rfl b 0 0 (-1) HB.out HT.out.2.1 ?_; intro w3 hw3; have HT := Lib.hid (HT.out.wrote hw3); clear hw3)
    | (refine load_row rfl 37 _ rfl w1.heap.size rfl 37 (posC b t 0 (-1)) (0, 0) _ HT.out.2.1 Try.underlying37 rfl HI.out ?_)
    | (go_at_call 25; refine (pos_Wrong b HB.out t 0 (-1) _).mono ?_; rw [H0.out]; rintro x w4 ⟨rfl, hb4⟩; have HT := Lib.hid (HT.out.step hb4); clear hb4)
    | (refine store_all 37 _ _ rfl rfl (w.heap.size + 1) (posC b t 0 (-1)) rfl rfl 37 (posC zb 0 0 0) HT.out.1.2.2 HI.out HZ1.out (posC_one _ _ _ _) ?_; intro w6 hw6))
  exact bodyPost_ret (results_row_tmp rfl _ _ (w.heap.size + 1) 37 _ (0, 0) _ rfl hw6.obj Try.underlying37 rfl HI.out) rfl ⟨rfl, HT.out.1.1.trans (hw6.below (by omega))⟩
set_option maxHeartbeats 1600000 in
set_option maxRecDepth 100000 in
theorem pos_Of_no (b : List Int) (hb : BOk b) (t v : Int) (h0 : posW b t 0 (-1) = v) (hv : (v != 0) = true) (zb : List Int) (hzb : BOk zb) (hz : ∀ w, (zeroValue 37).run Try.prog w = .ok (.agg (posC zb 0 0 0)) w) (hbz : Try.prog.built 37 [] = some (posC zb 0 0 0))
    (hn : ∀ w, Calls Try.prog 65 #[] w fun x w' => x = .returned (.agg (posC zb 0 0 (-1))) ∧ Below w.heap.size w w') (w : World) : Calls Try.prog 34 #[.agg (boardC b), .int .i64 t] w fun x w' => x = .returned (.tuple #[.agg (posC zb 0 0 0), .int .i64 v]) ∧ Below w.heap.size w w' := by
  have HB := Lib.hid hb
  have HZ := Lib.hid hzb
  have HN := Lib.hid hn
  have H0 := Lib.hid h0
  have HBZ := Lib.hid hbz
  have HS := Lib.hid (Two.start w (boardO b) (posO zb 0 0 0))
  have HI0 := Lib.hid (pos_info zb hzb 0 0 (-1))
  have HI00 := Lib.hid (pos_info zb hzb 0 0 0)
  have HI := Lib.hid (pos_info b hb t 0 (-1))
  have HIB := Lib.hid (board_info b hb)
  have HZ0 := Lib.hid (show (posC zb 0 0 0).size = (posC zb 0 0 (-1)).size by rw [posC_size zb hzb, posC_size zb hzb])
  clear hb hzb hn h0 hbz
  go_enter Try.func34, Try.ntmps34
  go_wp2_with (first
    | (go_at_call 65; refine (HN.out _).mono ?_; rintro x w1 ⟨rfl, hb1⟩; have HS := Lib.hid (HS.out.step hb1); clear hb1)
    | (refine store_all 37 _ _ rfl rfl w1.heap.size (posC zb 0 0 (-1)) rfl rfl 37 (posC zb 0 0 0) (heap_alloc_last _ _) HI0.out HZ0.out (posC_one _ _ _ _) ?_; intro w2 hw2; have HT := Lib.hid (Tri.mk HS.out hw2); clear hw2)
    | (refine load_row rfl 24 _ rfl w.heap.size rfl 24 (boardC b) (0, 0) _ HT.out.1.2.1 Try.underlying24 rfl HIB.out ?_)
    | (refine store_at _ _ rfl rfl w1.heap.size b rfl rfl zb 0 0 (-1) HZ.out HB.out HT.out.2.1 ?_; intro w3 hw3; have HT := Lib.hid (HT.out.wrote hw3); clear hw3)
    | (refine store_turn _ _ rfl rfl w1.heap.size t rfl rfl b 0 0 (-1) HB.out HT.out.2.1 ?_; intro w3 hw3; have HT := Lib.hid (HT.out.wrote hw3); clear hw3)
    | (refine load_row rfl 37 _ rfl w1.heap.size rfl 37 (posC b t 0 (-1)) (0, 0) _ HT.out.2.1 Try.underlying37 rfl HI.out ?_)
    | (go_at_call 25; refine (pos_Wrong b HB.out t 0 (-1) _).mono ?_; rw [H0.out]; rintro x w4 ⟨rfl, hb4⟩; have HT := Lib.hid (HT.out.step hb4); clear hb4)
    | (refine build_row rfl 37 _ rfl _ (by simp; rfl) _ HBZ.out ?_)
    | (refine store_all 37 _ _ rfl rfl (w.heap.size + 1) (posC zb 0 0 0) rfl rfl 37 (posC zb 0 0 0) HT.out.1.2.2 HI00.out rfl (posC_one _ _ _ _) ?_; intro w6 hw6))
  exact bodyPost_ret (results_row_tmp rfl _ _ (w.heap.size + 1) 37 _ (0, 0) _ rfl hw6.obj Try.underlying37 rfl HI00.out) rfl ⟨rfl, HT.out.1.1.trans (hw6.below (by omega))⟩
end Go.Proofs.Ytibaembmdcdbkaa
