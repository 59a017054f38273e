import Derived.Test.YtibaembmdcdbkaaAl
import Derived.Test.YtibaembmdcdbkaaEy
import Derived.Test.YtibaembmdcdbkaaAtk
namespace Go.Proofs.Ytibaembmdcdbkaa
open Go.RowKit Alf

/-! what is told along: Strikes and from -/
theorem out_store {c : Nat} {A A' : Option Addr} {n cap n' cap' : Nat} {xs ys : List Int} {w w1 : World} (h : OutIs c (.slice A n cap) xs w) (hg : w.grownBy w1 (Value.slice A n cap).ownBlock) (ho : Own (c + 1) (.slice A' n' cap') ys w1)
    (hn : (Value.slice A' n' cap').ownBlock = (Value.slice A n cap).ownBlock ∨ ∀ k, (Value.slice A' n' cap').ownBlock = some k → w.heap.size < k) :
    OutIs c (.slice A' n' cap') ys (w1.setCell ⟨c, 0, none⟩ (.slice A' n' cap')) ∧ OutStep c (.slice A n cap) (.slice A' n' cap') w (w1.setCell ⟨c, 0, none⟩ (.slice A' n' cap')) := by
  have hl := lt_of_block h.1
  have hne : some c ≠ (Value.slice A n cap).ownBlock := fun e => by have := (h.2.lt c e.symm).1; omega
  have hc : w1.heap[c]? = some (.cells #[.slice A n cap] 28 (0, 0)) := by rw [hg.block c hl hne]; exact h.1
  refine ⟨⟨one_setCell hc, ownsRow_setCell_other ho (fun e => by have := (ho.lt c e).1; omega) _⟩, ⟨hg.os, hg.tape, hg.output, by simpa [World.setCell] using hg.size, fun k hk hkc hkv => ?_, fun k hk => ?_⟩⟩
  · rw [Below.heap_setCell _ _ _ _ (by simpa using hkc)]
    exact hg.block k hk (fun e => hkv e.symm)
  · rcases hn with hn | hn
    · exact .inl (by rw [← hn]; exact hk)
    · exact .inr (by have := hn k hk; omega)

theorem OutIs.form {c : Nat} {v : Value} {xs : List Int} {w : World} (h : OutIs c v xs w) : ∃ A cap, v = .slice A xs.length cap := h.2.form

set_option maxRecDepth 100000 in
theorem strikes1 (b : List Int) (hb : BOk b) (c bb : Nat) : OnCalls 39 #[.pointer (some ⟨c, 0, none⟩), .pointer (some ⟨bb, 0, none⟩)] c [(bb, .cells (boardC b) 24)] (emp b) (fun xs t => xs ++ [t]) := by
  intro t v xs W h0 h64 hx ho hk
  obtain ⟨A, cap, rfl⟩ := ho.form
  obtain ⟨k1, k2, k3⟩ := hk (bb, .cells (boardC b) 24) (by simp)
  simp only at k1 k2 k3
  have HO := Lib.hid ho
  have hc0 := cell_of_one ho.1
  have hcl := lt_of_block ho.1
  obtain ⟨t, rfl⟩ := Int.eq_ofNat_of_zero_le h0
  have hbc : ∀ w1 : World, W.grownBy w1 (Value.slice A xs.length cap).ownBlock → w1.cell? ⟨c, 0, none⟩ = some (.slice A xs.length cap) ∧ w1.frozen? ⟨c, 0, none⟩ = false ∧ w1.cell? ⟨bb, t, none⟩ = some (.int .i8 (bd b t)) := by
    intro w1 hg
    have hne : some c ≠ (Value.slice A xs.length cap).ownBlock := fun e => by have := (HO.out.2.lt c e.symm).1; omega
    have hc : w1.heap[c]? = some (.cells #[.slice A xs.length cap] 28 (0, 0)) := by rw [hg.block c hcl hne]; exact HO.out.1
    refine ⟨cell_of_one hc, free_of_one hc, ?_⟩
    rw [cell_of_row w1 bb t _ _ _ (by rw [hg.block bb (lt_of_block k1) (fun e => k3 e.symm)]; exact k1)]
    exact boardC_get b t (by have := hb.1; omega)
  have HBC := Lib.hid hbc
  have e1 : ¬ bb = c := k2
  have e2 : ¬ c = bb := fun e => k2 e.symm
  have hbb := bd_bounds b hb t
  clear hbc k1 k2 k3 hk ho
  change Calls _ _ #[.int .i64 t, .pointer (some ⟨c, 0, none⟩), .pointer (some ⟨bb, 0, none⟩)] _ _
  go_enter Try.func39, Try.ntmps39
  go_wp2_with (at_builtin; refine append1 rfl _ _ rfl (c + 1) (.slice A xs.length cap) xs rfl W HO.out.2 t rfl rfl (by omega) (by omega) ?_; intro A' cap' w1 hown1 hg1 hn1; obtain ⟨d1, d2, d3⟩ := HBC.out w1 hg1)
  go_ret
  exact ⟨rfl, _, out_store HO.out hg1 hown1 hn1⟩

def fromF (b : List Int) (man : Int) (most : Nat) (xs : List Int) (t : Int) : List Int := if bd b t = man ∧ xs.length < most then xs ++ [t] else xs
theorem OutStep.refl (c : Nat) (v : Value) (w : World) : OutStep c v v w w := .of_below (Below.refl _ _)
theorem OutStep.drewN {c : Nat} {v v' : Value} {w w' : World} (n : Nat) (h : OutStep c v v' (w.drewN n) w') : OutStep c v v' w w' := ⟨h.os, h.tape, h.output, h.size, h.block, h.row⟩

set_option maxHeartbeats 400000 in
set_option maxRecDepth 100000 in
theorem from1 (b : List Int) (hb : BOk b) (c bb mv mo : Nat) (man : Int) (most : Nat) : OnCalls 80 #[.pointer (some ⟨bb, 0, none⟩), .pointer (some ⟨mv, 0, none⟩), .pointer (some ⟨c, 0, none⟩), .pointer (some ⟨mo, 0, none⟩)] c
    [(bb, .cells (boardC b) 24), (mv, .cells #[.int .i64 man] 3), (mo, .cells #[.int .i64 most] 3)] (emp b) (fromF b man most) := by
  intro t v xs W h0 h64 hx ho hk
  obtain ⟨A, cap, rfl⟩ := ho.form
  obtain ⟨k1, k2, k3⟩ := hk (bb, .cells (boardC b) 24) (by simp)
  obtain ⟨m1, m2, m3⟩ := hk (mv, .cells #[.int .i64 man] 3) (by simp)
  obtain ⟨n1, n2, n3⟩ := hk (mo, .cells #[.int .i64 most] 3) (by simp)
  simp only at k1 k2 k3 m1 m2 m3 n1 n2 n3
  have HO := Lib.hid ho
  have hc0 := cell_of_one ho.1
  have hm0 := cell_of_one m1
  have hn0 := cell_of_one n1
  have hcl := lt_of_block ho.1
  obtain ⟨t, rfl⟩ := Int.eq_ofNat_of_zero_le h0
  have ht : t < b.length := by have := hb.1; omega
  have hb0 : W.cell? ⟨bb, t, none⟩ = some (.int .i8 (bd b t)) := by
    rw [cell_of_row W bb t _ _ _ k1]
    exact boardC_get b t ht
  have hbc : ∀ (n : Nat) (w1 : World), (W.drewN n).grownBy w1 (Value.slice A xs.length cap).ownBlock → w1.cell? ⟨c, 0, none⟩ = some (.slice A xs.length cap) ∧ w1.frozen? ⟨c, 0, none⟩ = false ∧ w1.cell? ⟨bb, t, none⟩ = some (.int .i8 (bd b t)) := by
    intro n w1 hg
    have hne : some c ≠ (Value.slice A xs.length cap).ownBlock := fun e => by have := (HO.out.2.lt c e.symm).1; omega
    have hc : w1.heap[c]? = some (.cells #[.slice A xs.length cap] 28 (0, 0)) := by rw [hg.block c hcl hne]; exact HO.out.1
    refine ⟨cell_of_one hc, free_of_one hc, ?_⟩
    rw [cell_of_row w1 bb t _ _ _ (by rw [hg.block bb (lt_of_block k1) (fun e => k3 e.symm)]; exact k1)]
    exact boardC_get b t ht
  have HBC := Lib.hid hbc
  have e1 : ¬ bb = c := k2
  have e2 : ¬ c = bb := fun e => k2 e.symm
  obtain ⟨hbb1, hbb2⟩ := bd_bounds b hb t
  clear hbc k1 k2 k3 m1 m2 m3 n1 n2 n3 hk ho ht
  change Calls _ _ #[.int .i64 t, .pointer (some ⟨bb, 0, none⟩), .pointer (some ⟨mv, 0, none⟩), .pointer (some ⟨c, 0, none⟩), .pointer (some ⟨mo, 0, none⟩)] _ _
  by_cases g1 : bd b t = man
  · have b1 : (bd b t == man) = true := by simpa using g1
    by_cases g2 : xs.length < most
    · have E := Lib.hid (show fromF b man most xs t = xs ++ [(t : Int)] by unfold fromF; rw [if_pos ⟨g1, g2⟩])
      have b2 : decide (xs.length < most) = true := by simpa using g2
      clear g1 g2
      go_enter Try.func80, Try.ntmps80
      go_wp2_with fail
      go_quiet (fail)
      go_wp2_with (at_builtin; refine append1 rfl _ _ rfl (c + 1) (.slice A xs.length cap) xs rfl (W.drewN nq) HO.out.2 t rfl rfl (by omega) (by show _ ≤ W.heap.size; omega) ?_; intro A' cap' w1 hown1 hg1 hn1; obtain ⟨d1, d2, d3⟩ := HBC.out _ w1 hg1)
      go_ret
      obtain ⟨p1, p2⟩ := out_store (w := W.drewN nq) HO.out hg1 hown1 hn1
      exact ⟨rfl, _, by rw [E.out]; exact p1, p2.drewN nq⟩
    · have E := Lib.hid (show fromF b man most xs t = xs by unfold fromF; rw [if_neg (fun e => g2 e.2)])
      have b2 : decide (xs.length < most) = false := by simpa using g2
      clear g1 g2
      go_enter Try.func80, Try.ntmps80
      go_wp2_with fail
      go_quiet (fail)
      go_wp2
      go_ret
      exact ⟨rfl, _, by rw [E.out]; exact HO.out, (OutStep.refl _ _ (W.drewN nq)).drewN nq⟩
  · have E := Lib.hid (show fromF b man most xs t = xs by unfold fromF; rw [if_neg (fun e => g1 e.1)])
    have b1 : (bd b t == man) = false := by simpa using g1
    clear g1
    go_enter Try.func80, Try.ntmps80
    go_wp2_with fail
    go_quiet (fail)
    go_wp2
    go_ret
    exact ⟨rfl, _, by rw [E.out]; exact HO.out, (OutStep.refl _ _ (W.drewN nq)).drewN nq⟩
end Go.Proofs.Ytibaembmdcdbkaa
