import Derived.Test.YtibaembmdcdbkaaSo
import Derived.Test.YtibaembmdcdbkaaMm
namespace Go.Proofs.Ytibaembmdcdbkaa
open Go.RowKit Alf

/-! slices.Sort, of a slice of the call's own -/
def SortPost (B : Nat) (v : Value) (xs : List Int) (w : World) (e : Ending) (w' : World) : Prop := e = .returned (.tuple #[]) ∧ Own B v (sortI xs) w' ∧ w.grownBy w' v.ownBlock
theorem sort_own (B : Nat) (A : Option Addr) (n cap : Nat) (xs : List Int) (w : World) (h : Own B (.slice A n cap) xs w) (hn : n = xs.length) (hlen : n ≤ 100000) : Calls Try.prog 40 #[.slice A n cap] w (SortPost B (.slice A n cap) xs w) := by
  subst hn
  rcases Nat.eq_zero_or_pos xs.length with h0 | h0
  · have hx : xs = [] := List.eq_nil_of_length_eq_zero h0
    subst hx
    refine (Try.slices_Sort_int_none A cap w).mono ?_
    rintro e w' ⟨rfl, rfl⟩
    exact ⟨rfl, by simpa [sortI] using h, ⟨rfl, rfl, rfl, Nat.le_refl _, fun _ _ _ => rfl⟩⟩
  · have hcells := h.cell h0
    obtain ⟨g, rfl, _, hB, hg, hc⟩ := hcells
    have hfr : ∀ j, w.frozen? ⟨g, j, none⟩ = false := fun j => World.ownsRow.frozenAt h j
    have hH : Go.Sort.Holds (Value.int .i64) w g 0 xs.toArray := by
      intro j hj
      have hj' : j < xs.length := by simpa using hj
      rw [Nat.zero_add]
      refine ⟨?_, hfr j⟩
      rw [hc j hj']
      congr 2
      rw [getElem!_pos _ j hj]
      simp [List.getD_eq_getElem?_getD, hj']
    refine (Try.slices_Sort_int g 0 cap xs w hH hg (by omega)).mono ?_
    rintro e w' ⟨rfl, m, os, rfl⟩
    have hs : (sortI xs).length = xs.length := by unfold sortI; exact List.length_mergeSort _
    rcases h.2 with ⟨e, _⟩ | ⟨g', cap', cur, e, hb, hh, hnc, hcm, hcs, htk⟩
    · cases e
    · injection e with e1 e2 e3
      injection e1 with e1
      injection e1 with e1 _ _
      subst e1 e3
      have hgn : (Go.Sort.grow (Go.Sort.putRow (Value.int .i64) (Go.Sort.ahead w m) g 0 (sortI xs).toArray) os).heap[g]? = some (.cells (Go.Sort.putCells (Value.int .i64) 0 (sortI xs).toArray cur) 3 (0, 0)) := by
        rw [Go.Sort.heap_grow_old _ _ (by rw [Go.Sort.size_putRow]; exact hg)]
        simp only [Go.Sort.putRow, Go.Sort.mapBlock, Go.Sort.heap_ahead, Array.getElem?_modify, if_true, hh, Option.map_some]
        rfl
      refine ⟨rfl, ⟨by simp [hs], .inr ⟨g, cap, _, by rw [hs], hb, hgn, by omega, hcm, by simpa [Go.Sort.putCells] using hcs, ?_⟩⟩, ⟨rfl, rfl, rfl, ?_, ?_⟩⟩
      · apply List.ext_getElem?
        intro k
        rw [List.getElem?_take, List.getElem?_map]
        by_cases hk : k < (sortI xs).length
        · have hkc : k < cur.size := by omega
          rw [if_pos (by omega)]
          simp only [Go.Sort.putCells, Array.getElem?_toList, Array.getElem?_mapIdx, Array.getElem?_eq_getElem hkc, Option.map_some]
          rw [if_pos ⟨Nat.zero_le _, by simpa using hk⟩, List.getElem?_eq_getElem hk]
          simp [hk]
        · rw [if_neg (by omega), List.getElem?_eq_none (by omega)]; rfl
      · rw [Go.Sort.size_grow, Go.Sort.size_putRow]; exact Nat.le_add_right _ _
      · intro k hk hne
        have hkg : k ≠ g := fun e => hne (by rw [e]; rfl)
        rw [Go.Sort.heap_grow_old _ _ (by rw [Go.Sort.size_putRow]; exact hk)]
        simp only [Go.Sort.putRow, Go.Sort.mapBlock, Go.Sort.heap_ahead, Array.getElem?_modify]
        rw [if_neg (fun e => hkg e.symm)]
end Go.Proofs.Ytibaembmdcdbkaa
