import Derived.Test.YtibaembmdcdbkaaRo
import Derived.Test.YtibaembmdcdbkaaEq
import Derived.ChangeArms
namespace Go.Proofs.Ytibaembmdcdbkaa
open Go.ChangeShapes Go.WideShapes Go.ChangeAt Go.RowKit

/-! the arguments, opened: a position by value -/
theorem cellsPos : Try.prog.cellsOf 37 = 67 := by kernel_rfl
theorem cellsInt : Try.prog.cellsOf 3 = 1 := by kernel_rfl
theorem one_cell {cs : List Value} {o : Nat} {v : Value} (h : (cs.drop o).take 1 = [v]) : cs[o]? = some v := by
  have h0 : ((cs.drop o).take 1)[0]? = some v := by rw [h]; rfl
  simpa using h0
theorem pos_of_cells {H : Type} {enc : TypeId × Value → H} {W : World} {base : Nat} {sp : Nat → Bool} {held : Bool} {fuel : Nat} {cs : List Value} {x : DataW H × List MemPlace}
    (h : DataW.trod enc Try.prog W base sp held fuel 37 cs = some x) : ∃ (b : List Int) (t c e : Int), BOk b ∧ cs = (posC b t c e).toList := by
  obtain ⟨xs, m, _, _, hlen, hl, hel⟩ := DataW.trod_struct Try.underlying37 h
  rw [cellsPos] at hlen
  have hl4 : xs.length = 4 := hl
  obtain ⟨x0, hx0⟩ : ∃ y, xs[0]? = some y := ⟨_, List.getElem?_eq_getElem (by omega)⟩
  obtain ⟨x1, hx1⟩ : ∃ y, xs[1]? = some y := ⟨_, List.getElem?_eq_getElem (by omega)⟩
  obtain ⟨x2, hx2⟩ : ∃ y, xs[2]? = some y := ⟨_, List.getElem?_eq_getElem (by omega)⟩
  obtain ⟨x3, hx3⟩ : ∃ y, xs[3]? = some y := ⟨_, List.getElem?_eq_getElem (by omega)⟩
  have h0 : DataW.trod enc Try.prog W base sp held m 24 ((cs.drop 0).take (Try.prog.cellsOf 24)) = some x0 := (hel 0 _ rfl).trans hx0
  have h1 : DataW.trod enc Try.prog W base sp held m 3 ((cs.drop 64).take (Try.prog.cellsOf 3)) = some x1 := (hel 1 _ rfl).trans hx1
  have h2 : DataW.trod enc Try.prog W base sp held m 3 ((cs.drop 65).take (Try.prog.cellsOf 3)) = some x2 := (hel 2 _ rfl).trans hx2
  have h3 : DataW.trod enc Try.prog W base sp held m 3 ((cs.drop 66).take (Try.prog.cellsOf 3)) = some x3 := (hel 3 _ rfl).trans hx3
  rw [cellsBoard] at h0
  rw [cellsInt] at h1 h2 h3
  obtain ⟨b, hb, eb⟩ := board_of_cells h0
  obtain ⟨t, e1, _, _⟩ := DataW.trod_int Try.underlying3 h1
  obtain ⟨c, e2, _, _⟩ := DataW.trod_int Try.underlying3 h2
  obtain ⟨e, e3, _, _⟩ := DataW.trod_int Try.underlying3 h3
  have f1 := one_cell e1
  have f2 := one_cell e2
  have f3 := one_cell e3
  refine ⟨b, t, c, e, hb, ?_⟩
  apply List.ext_getElem?
  intro i
  have hz : (boardC b).size = 64 := by rw [boardC_size, hb.1]
  have hr : (posC b t c e).toList[i]? = (posC b t c e)[i]? := by simp
  rw [hr]
  unfold posC
  by_cases q : i < 64
  · rw [Array.getElem?_append_left (by omega)]
    have := congrArg (fun l => l[i]?) eb
    simp only [List.drop_zero, List.getElem?_take, if_pos q] at this
    rw [this]
    simp [boardC]
  · rw [Array.getElem?_append_right (by omega), hz]
    by_cases q1 : i = 64
    · subst q1; exact f1
    · by_cases q2 : i = 65
      · subst q2; exact f2
      · by_cases q3 : i = 66
        · subst q3; exact f3
        · rw [List.getElem?_eq_none (by omega), Array.getElem?_eq_none (by simp; omega)]
set_option maxRecDepth 100000 in
theorem open_pos {H : Type} {enc : TypeId × Value → H} {W : World} {base : Nat} {sp : Nat → Bool} {held : Bool} {v : Value} {d : DataW H} {p : List MemPlace}
    (hv : Value.okWide Try.prog W .any base 37 v) (h : DataW.Trod enc Try.prog W 0 sp held 37 v d p) : ∃ (b : List Int) (t c e : Int), BOk b ∧ v = .agg (posC b t c e) := by
  obtain ⟨cs, rfl⟩ : ∃ cs, v = .agg cs := by
    unfold Value.okWide at hv
    simp only [Try.underlying37] at hv
    obtain ⟨cs, rfl, _⟩ := hv
    exact ⟨cs, rfl⟩
  obtain ⟨fuel, hf⟩ := h
  obtain ⟨b, t, c, e, hb, he⟩ := pos_of_cells hf
  refine ⟨b, t, c, e, hb, ?_⟩
  congr 1
  apply Array.toList_inj.1
  simpa [Value.cells] using he
end Go.Proofs.Ytibaembmdcdbkaa
