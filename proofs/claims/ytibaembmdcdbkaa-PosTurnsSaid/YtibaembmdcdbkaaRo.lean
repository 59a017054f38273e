import Derived.Test.YtibaembmdcdbkaaRows
import Derived.Test.YtibaembmdcdbkaaMen
import Derived.Test.YtibaembmdcdbkaaBd
import Derived.ProofKit
import Derived.OpenShut
namespace Go.Proofs.Ytibaembmdcdbkaa
open Go.ChangeShapes Go.WideShapes Go.ChangeAt Go.RowKit

/-! the arguments, opened: a board by value -/
theorem t_own : ownKnob Try.prog.godebug = none := by kernel_rfl
theorem t_laidOut : laidOutB Try.prog = true := by kernel_rfl
theorem cellsBoard : Try.prog.cellsOf 24 = 64 := by kernel_rfl
theorem cellsI8 : Try.prog.cellsOf 22 = 1 := by kernel_rfl

/-- 64 cells that read as numbers of eight bits are a board -/
theorem board_of_cells {H : Type} {enc : TypeId × Value → H} {W : World} {base : Nat} {sp : Nat → Bool} {held : Bool} {fuel : Nat} {cs : List Value} {x : DataW H × List MemPlace}
    (h : DataW.trod enc Try.prog W base sp held fuel 24 cs = some x) : ∃ b : List Int, BOk b ∧ cs = b.map (Value.int .i8) := by
  obtain ⟨xs, m, _, _, hlen, hl, hel⟩ := DataW.trod_array Try.underlying24 h
  rw [cellsBoard] at hlen
  have key : ∀ i, i < 64 → ∃ n : Int, cs[i]? = some (.int .i8 n) ∧ -128 ≤ n ∧ n ≤ 127 := by
    intro i hi
    have hE := hel i hi
    rw [cellsI8, Nat.mul_one, List.getElem?_eq_getElem (by omega)] at hE
    obtain ⟨n, e1, _, hw⟩ := DataW.trod_int Try.underlying22 hE
    refine ⟨n, ?_, bounds_i8 hw⟩
    have h0 : ((cs.drop i).take 1)[0]? = some (.int .i8 n) := by rw [e1]; rfl
    simpa using h0
  refine ⟨cs.map fun v => match v with | .int _ n => n | _ => 0, ⟨by simpa using hlen, ?_⟩, ?_⟩
  · intro y hy
    obtain ⟨v, hv, rfl⟩ := List.mem_map.1 hy
    obtain ⟨i, hi, e⟩ := List.mem_iff_getElem.1 hv
    obtain ⟨n, h1, h2, h3⟩ := key i (by omega)
    rw [List.getElem?_eq_getElem hi, e] at h1
    injection h1 with h1
    subst h1
    exact ⟨h2, h3⟩
  · apply List.ext_getElem?
    intro i
    rw [List.map_map, List.getElem?_map]
    by_cases hi : i < 64
    · obtain ⟨n, h1, _, _⟩ := key i hi
      rw [h1]; rfl
    · rw [List.getElem?_eq_none (by omega)]; rfl

set_option maxRecDepth 100000 in
theorem open_board {H : Type} {enc : TypeId × Value → H} {W : World} {base : Nat} {sp : Nat → Bool} {held : Bool} {v : Value} {d : DataW H} {p : List MemPlace}
    (hv : Value.okWide Try.prog W .any base 24 v) (h : DataW.Trod enc Try.prog W 0 sp held 24 v d p) : ∃ b : List Int, BOk b ∧ v = .agg (boardC b) := by
  obtain ⟨cs, rfl⟩ : ∃ cs, v = .agg cs := by
    unfold Value.okWide at hv
    simp only [Try.underlying24] at hv
    obtain ⟨cs, rfl, _⟩ := hv
    exact ⟨cs, rfl⟩
  obtain ⟨fuel, hf⟩ := h
  obtain ⟨b, hb, e⟩ := board_of_cells hf
  refine ⟨b, hb, ?_⟩
  unfold boardC
  rw [← e]
  simp [Value.cells]
end Go.Proofs.Ytibaembmdcdbkaa
