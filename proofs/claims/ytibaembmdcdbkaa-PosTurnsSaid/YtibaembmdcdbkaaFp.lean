import Derived.Test.YtibaembmdcdbkaaFi
import Derived.Test.YtibaembmdcdbkaaRy
namespace Go.Proofs.Ytibaembmdcdbkaa
open Go.RowKit Alf

/-! the position with which a game begins -/
/-- the result's object, and one more -/
def Duo (w : World) (A : Obj) (g : Nat) (B : Obj) (wr : World) : Prop := Lies w A wr ∧ wr.heap[g]? = some B ∧ w.heap.size < g
theorem Duo.mk {w w1 w2 : World} {A o B : Obj} (h : Lies w A w1) (hw : Wrote w1.heap.size B (w1.alloc o) w2) : Duo w A w1.heap.size B w2 := by
  have h1 := h.lt
  refine ⟨?_, hw.obj, h1⟩
  have h2 := h.step (below_box w1 o)
  exact h2.trans (hw.below (by omega))
theorem Duo.step {w wr wr' : World} {A B : Obj} {g : Nat} (h : Duo w A g B wr) (hb : Below wr.heap.size wr wr') : Duo w A g B wr' :=
  ⟨h.1.step hb, by rw [hb.block _ (Array.getElem?_eq_some_iff.1 h.2.1).1]; exact h.2.1, h.2.2⟩
theorem Duo.wrote {w wr wr' : World} {A B C : Obj} {g : Nat} (h : Duo w A g B wr) (hw : Wrote g C wr wr') : Duo w A g C wr' :=
  ⟨h.1.trans (hw.below (by have := h.2.2; omega)), hw.obj, h.2.2⟩
theorem Duo.below {w wr : World} {A B : Obj} {g : Nat} (h : Duo w A g B wr) : Below w.heap.size w wr := h.1.below
theorem Duo.obj {w wr : World} {A B : Obj} {g : Nat} (h : Duo w A g B wr) : wr.heap[g]? = some B := h.2.1
set_option maxHeartbeats 800000 in
set_option maxRecDepth 100000 in
theorem pos_First_of (fb : List Int) (hfb : BOk fb) (hc : ∀ w, Calls Try.prog 66 #[] w fun x w' => x = .returned (.agg (boardC fb)) ∧ Below w.heap.size w w') (zb : List Int) (hzb : BOk zb) (hz : ∀ w, (zeroValue 37).run Try.prog w = .ok (.agg (posC zb 0 0 0)) w)
    (hn : ∀ w, Calls Try.prog 65 #[] w fun x w' => x = .returned (.agg (posC zb 0 0 (-1))) ∧ Below w.heap.size w w') (w : World) : Calls Try.prog 32 #[] w fun x w' => x = .returned (.agg (posC fb 0 15 (-1))) ∧ Below w.heap.size w w' := by
  have HC := Lib.hid hc
  have HN := Lib.hid hn
  have HF := Lib.hid hfb
  have HB := Lib.hid hzb
  have HI0 := Lib.hid (pos_info zb hzb 0 0 (-1))
  have HI1 := Lib.hid (pos_info fb hfb 0 15 (-1))
  have HZ0 := Lib.hid (show (posC zb 0 0 0).size = (posC zb 0 0 (-1)).size by rw [posC_size zb hzb, posC_size zb hzb])
  have HZ1 := Lib.hid (show (posC zb 0 0 0).size = (posC fb 0 15 (-1)).size by rw [posC_size zb hzb, posC_size fb hfb])
  have HA := Lib.hid (Lies.start w (posO zb 0 0 0))
  clear hc hn hfb hzb
  go_enter Try.func32, Try.ntmps32
  go_wp2_with (first
    | (go_at_call 65; refine (HN.out _).mono ?_; rintro x w1 ⟨rfl, hb1⟩; have HA := Lib.hid (HA.out.step hb1); clear hb1)
    | (refine store_all 37 _ _ rfl rfl w1.heap.size (posC zb 0 0 (-1)) rfl rfl 37 (posC zb 0 0 0) (heap_alloc_last _ _) HI0.out HZ0.out (posC_one _ _ _ _) ?_; intro w2 hw2; have HD := Lib.hid (Duo.mk HA.out hw2); clear hw2)
    | (go_at_call 66; refine (HC.out _).mono ?_; rintro x w3 ⟨rfl, hb3⟩; have HD := Lib.hid (HD.out.step hb3); clear hb3)
    | (refine store_at _ _ rfl rfl w1.heap.size fb rfl rfl zb 0 0 (-1) HB.out HF.out HD.out.obj ?_; intro w4 hw4; have HD := Lib.hid (HD.out.wrote hw4); clear hw4)
    | (refine store_castle _ _ rfl rfl w1.heap.size 15 rfl rfl fb 0 0 (-1) HF.out HD.out.obj ?_; intro w5 hw5; have HD := Lib.hid (HD.out.wrote hw5); clear hw5)
    | (refine load_row rfl 37 _ rfl _ rfl 37 (posC fb 0 15 (-1)) (0, 0) _ HD.out.obj Try.underlying37 rfl HI1.out ?_)
    | (refine store_all 37 _ _ rfl rfl w.heap.size (posC fb 0 15 (-1)) rfl rfl 37 (posC zb 0 0 0) HD.out.1.obj HI1.out HZ1.out (posC_one _ _ _ _) ?_; intro w6 hw6))
  exact bodyPost_ret (results_cell_row rfl _ _ w.heap.size 37 _ (0, 0) _ rfl hw6.obj Try.underlying37 rfl HI1.out) rfl ⟨rfl, HD.out.below.trans (hw6.below (by omega))⟩
theorem pos_First (w : World) : Calls Try.prog 32 #[] w fun x w' => x = .returned (.agg (posC firstB 0 15 (-1))) ∧ Below w.heap.size w w' := pos_First_of firstB firstB_ok board_First zeroB zeroB_ok zero_pos pos_none w
theorem first_right : posW firstB 0 15 (-1) = 0 := by decide +kernel
theorem first_passant : posW firstB 0 15 20 = 11 := by decide +kernel
theorem first_board : bWrong firstB = 0 := by decide +kernel
end Go.Proofs.Ytibaembmdcdbkaa
