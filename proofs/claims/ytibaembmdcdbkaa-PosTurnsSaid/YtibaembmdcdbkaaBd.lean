import Derived.Test.YtibaembmdcdbkaaSq
import Derived.Deep.WholeRow
namespace Go.Proofs.Ytibaembmdcdbkaa
open Go.RowKit Alf

/-! boards as they lie in memory -/
def boardC (b : List Int) : Array Value := (b.map (Value.int .i8)).toArray
/-- a board: 64 numbers of eight bits -/
def BOk (b : List Int) : Prop := b.length = 64 ∧ ∀ x ∈ b, -128 ≤ x ∧ x ≤ 127
theorem boardC_size (b : List Int) : (boardC b).size = b.length := by simp [boardC]
theorem boardC_get (b : List Int) (k : Nat) (h : k < b.length) : (boardC b)[k]? = some (.int .i8 (bd b k)) := by
  simp [boardC, bd, List.getD_eq_getElem?_getD, h]
theorem bd_mem (b : List Int) (k : Nat) (hk : k < b.length) : b[k]? = some (bd b k) := by
  simp [bd, List.getD_eq_getElem?_getD, hk]
theorem bd_bounds (b : List Int) (hb : BOk b) (k : Int) : -128 ≤ bd b k ∧ bd b k ≤ 127 := by
  unfold bd
  rw [List.getD_eq_getElem?_getD]
  cases h : b[k.toNat]? with
  | none => simp
  | some x => exact hb.2 x (List.mem_of_getElem? h)
theorem board_index (b : List Int) (hb : BOk b) (k : Nat) (hk : k < 64) (W : World) : (Instr.index 24 (.agg (boardC b)) (.int .i64 k)).run Try.prog W = .ok (.int .i8 (bd b k)) W := by
  have hg : (boardC b)[k]? = some (.int .i8 (bd b k)) := boardC_get b k (by have := hb.1; omega)
  have h0 : ¬ 64 ≤ k := by omega
  simp [Instr.index, asIntOf, go_sem, Try.runUnderlying24, part, Try.isAgg22, Try.sizeOf22, h0, hg]
theorem board_cell (b : List Int) (hb : BOk b) (k : Nat) (hk : k < 64) (w : World) : (w.alloc (.cells (boardC b) 24)).cell? ⟨w.heap.size, k, none⟩ = some (.int .i8 (bd b k)) := by
  rw [cell_of_row _ _ k _ _ _ (heap_alloc_last w _)]
  exact boardC_get b k (by have := hb.1; omega)
theorem board_info (b : List Int) (hb : BOk b) : (Try.prog.info? 24).map (·.size) = some (boardC b).size := by
  rw [boardC_size, hb.1]; kernel_rfl
theorem bRight_iff (b : List Int) (hb : BOk b) : bRight b = true ↔ ∀ k : Nat, k < 64 → bd b k = 0 ∨ mRight (bd b k) = true := by
  have hb := hb.1
  unfold bRight
  rw [List.all_eq_true]
  constructor
  · intro h k hk
    have := h _ (List.mem_of_getElem? (bd_mem b k (by omega)))
    simpa using this
  · intro h x hx
    obtain ⟨k, hk, rfl⟩ := List.mem_iff_getElem.1 hx
    have := h k (by omega)
    have e : bd b k = b[k] := by
      have := bd_mem b k hk
      rw [List.getElem?_eq_getElem hk] at this
      injection this with h; exact h.symm
    rw [e] at this
    simpa using this
theorem bRight_not (b : List Int) (hb : BOk b) (k : Nat) (hk : k < 64) (h0 : ¬ bd b k = 0) (hr : mRight (bd b k) = false) : bRight b = false := by
  cases g : bRight b with
  | false => rfl
  | true => have := (bRight_iff b hb).1 g k hk; rw [hr] at this; simp [h0] at this
theorem load_row {P : Program} {ops : Array Oper} {rest : List Oper} {o : Oper} {a : Act} {w : World} {Q : Exit → Act → World → Prop} (hgd : Region.wanted o (yielded ops a.tmps) = true) (ty : TypeId) (x : Operand) (ho : o.op = .load ty x)
    (g : Nat) (hx : a.eval x = .pointer (some ⟨g, 0, none⟩)) (t : TypeId) (cs : Array Value) (fr : Nat × Nat) (d : TypeDesc) (hg : w.heap[g]? = some (.cells cs t fr))
    (hu : P.underlying ty = some d) (hd : (match d with | .struct _ | .array _ _ => true | _ => false) = true) (hi : (P.info? ty).map (·.size) = some cs.size)
    (h : wpList P ops Q rest (a.put o.dst (.agg cs)) w) : wpList P ops Q (o :: rest) a w :=
  wpList_step fun _ hK => by rw [if_pos hgd]; exact wp_load_row ty x ho g hx t cs fr d hg hu hd hi (hK _ _ h)
theorem below_box (w : World) (o : Obj) : Below w.heap.size w (w.alloc o) := (Below.refl _ _).alloc (Nat.le_refl _) _

set_option maxRecDepth 100000 in
theorem board_Right (b : List Int) (hb : BOk b) (w : World) : Calls Try.prog 75 #[.agg (boardC b)] w fun e w' => e = .returned (.bool (bRight b)) ∧ Below w.heap.size w w' := by
  have HZ := Lib.hid (board_info b hb)
  have HG := Lib.hid (heap_alloc_last w (.cells (boardC b) 24))
  have hw := below_box w (.cells (boardC b) 24)
  go_enter Try.func75, Try.ntmps75
  go_wp2_with (refine load_row rfl 24 _ rfl _ rfl 24 _ (0, 0) _ HG.out Try.underlying24 rfl HZ.out ?_)
  go_loop [4, 6] (fun _ i => ∃ k : Nat, k ≤ 64 ∧ i = .int .i64 k ∧ ∀ j : Nat, j < k → bd b j = 0 ∨ mRight (bd b j) = true) (fun _ i => 64 - (intOf i).toNat)
  case atStart => exact ⟨0, by omega, rfl, fun j h => by omega⟩
  case round =>
    obtain ⟨k, h64, rfl, hno⟩ := hrel
    have H := Lib.hid hno
    clear hno
    by_cases q : k < 64
    · have hi := board_index b hb k q
      obtain ⟨c1, c2⟩ := bd_bounds b hb k
      by_cases q1 : bd b k = 0
      · have b1 : (bd b k != 0) = false := by simpa using q1
        have Q1 := Lib.hid q1
        clear q1
        go_wp2
        go_round
        case rel => exact ⟨k + 1, by omega, by go_num, fun j h => by
          by_cases e : j = k
          · subst e; exact .inl Q1.out
          · exact H.out j (by omega)⟩
        case measure => simp [intOf]; omega
      · have b1 : (bd b k != 0) = true := by simpa using q1
        have Q1 := Lib.hid q1
        clear q1
        cases q2 : mRight (bd b k)
        · have E := Lib.hid (bRight_not b hb k q Q1.out q2)
          go_wp2_with (go_at_call 83; refine (men_Right _ _).mono ?_; rintro e w' ⟨rfl, rfl⟩)
          go_ret
          exact ⟨re_bool E.out.symm, hw⟩
        · go_wp2_with (go_at_call 83; refine (men_Right _ _).mono ?_; rintro e w' ⟨rfl, rfl⟩)
          go_round
          case rel => exact ⟨k + 1, by omega, by go_num, fun j h => by
            by_cases e : j = k
            · subst e; exact .inr q2
            · exact H.out j (by omega)⟩
          case measure => simp [intOf]; omega
    · obtain rfl : k = 64 := by omega
      have E := Lib.hid (show bRight b = true from (bRight_iff b hb).2 H.out)
      go_wp2
      go_ret
      exact ⟨re_bool E.out.symm, hw⟩

theorem mKind_zero (m : Int) : mKind m = 0 ↔ mRight m = false := by
  unfold mKind
  constructor
  · intro h
    cases g : mRight m with
    | false => rfl
    | true => rw [g, if_pos rfl] at h; have := mRight_bd g; omega
  · intro h; simp [h]

set_option maxRecDepth 100000 in
theorem r3_Right (b : List Int) (hb : BOk b) (w : World) : Calls Try.prog 43 #[.agg (boardC b)] w fun e w' => e = .returned (.bool (bRight b)) ∧ Below w.heap.size w w' := by
  have hw := below_box w (.cells (boardC b) 24)
  go_enter Try.func43, Try.ntmps43
  go_wp2_with fail
  go_loop [3] (fun i => ∃ k : Nat, k ≤ 64 ∧ i = .int .i64 k ∧ ∀ j : Nat, j < k → bd b j = 0 ∨ mRight (bd b j) = true) (fun i => 64 - (intOf i).toNat)
  case atStart => exact ⟨0, by omega, rfl, fun j h => by omega⟩
  case round =>
    obtain ⟨k, h64, rfl, hno⟩ := hrel
    have H := Lib.hid hno
    clear hno
    by_cases q : k < 64
    · have hi := board_cell b hb k q w
      obtain ⟨c1, c2⟩ := bd_bounds b hb k
      by_cases q1 : bd b k = 0
      · have b1 : (bd b k != 0) = false := by simpa using q1
        have Q1 := Lib.hid q1
        clear q1
        go_wp2
        go_round
        case rel => exact ⟨k + 1, by omega, by go_num, fun j h => by
          by_cases e : j = k
          · subst e; exact .inl Q1.out
          · exact H.out j (by omega)⟩
        case measure => simp [intOf]; omega
      · have b1 : (bd b k != 0) = true := by simpa using q1
        have Q1 := Lib.hid q1
        clear q1
        cases q2 : mRight (bd b k)
        · have E := Lib.hid (bRight_not b hb k q Q1.out q2)
          have b2 : (mKind (bd b k) == 0) = true := by simpa using (mKind_zero _).2 q2
          go_wp2_with (go_at_call 81; refine (r_Kind _ _).mono ?_; rintro e w' ⟨rfl, rfl⟩)
          go_ret
          exact ⟨re_bool E.out.symm, hw⟩
        · have b2 : (mKind (bd b k) == 0) = false := by
            rw [beq_eq_false_iff_ne]; intro h; have := (mKind_zero _).1 h; rw [q2] at this; cases this
          go_wp2_with (go_at_call 81; refine (r_Kind _ _).mono ?_; rintro e w' ⟨rfl, rfl⟩)
          go_round
          case rel => exact ⟨k + 1, by omega, by go_num, fun j h => by
            by_cases e : j = k
            · subst e; exact .inr q2
            · exact H.out j (by omega)⟩
          case measure => simp [intOf]; omega
    · obtain rfl : k = 64 := by omega
      have E := Lib.hid (show bRight b = true from (bRight_iff b hb).2 H.out)
      go_wp2
      go_ret
      exact ⟨re_bool E.out.symm, hw⟩
end Go.Proofs.Ytibaembmdcdbkaa
