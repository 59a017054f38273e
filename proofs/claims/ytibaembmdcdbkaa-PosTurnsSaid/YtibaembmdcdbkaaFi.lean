import Derived.Test.YtibaembmdcdbkaaTr
import Derived.Test.YtibaembmdcdbkaaBu
namespace Go.Proofs.Ytibaembmdcdbkaa
open Go.RowKit Alf

/-! the board on which a game begins -/
def backL : List Int := [4, 2, 3, 5, 6, 3, 2, 4]
def backI (k : Nat) : Int := backL.getD k 0
def backC : Array Value := #[.int .i8 4, .int .i8 2, .int .i8 3, .int .i8 5, .int .i8 6, .int .i8 3, .int .i8 2, .int .i8 4]
set_option maxRecDepth 100000 in
theorem back_index (k : Nat) (hk : k < 8) (W : World) : (Instr.index 87 (.agg backC) (.int .i64 k)).run Try.prog W = .ok (.int .i8 (backI k)) W := by
  match k, hk with
  | 0, _ | 1, _ | 2, _ | 3, _ | 4, _ | 5, _ | 6, _ | 7, _ => simp [Instr.index, asIntOf, go_sem, Try.runUnderlying87, part, Try.isAgg22, Try.sizeOf22, backC, backI, backL]
  | k + 8, h => exact absurd h (by omega)
def rowK : Nat → List Int
  | 0 => List.replicate 64 0
  | k + 1 => ((rowK k).set k (backI k)).set (8 + k) 1
theorem rowK_len (k : Nat) : (rowK k).length = 64 := by
  induction k with
  | zero => simp [rowK]
  | succ k ih => simp [rowK, ih]
def halfB : List Int := turnB (rowK 8)
def secK : Nat → List Int
  | 0 => rowK 8
  | k + 1 => if bd halfB k = 0 then secK k else (secK k).set k (bd halfB k)
theorem secK_len (k : Nat) : (secK k).length = 64 := by
  induction k with
  | zero => exact rowK_len 8
  | succ k ih => unfold secK; split <;> simp [ih]
def firstB : List Int := secK 64
theorem rowK_ok : BOk (rowK 8) := by
  refine ⟨rowK_len 8, ?_⟩
  have : ∀ x ∈ rowK 8, -128 ≤ x ∧ x ≤ 127 := by decide +kernel
  exact this
theorem halfB_ok : BOk halfB := turnK_ok _ rowK_ok 64
theorem firstB_ok : BOk firstB := by
  refine ⟨secK_len 64, ?_⟩
  have : ∀ x ∈ firstB, -128 ≤ x ∧ x ≤ 127 := by decide +kernel
  exact this
/-- two objects of a call's own -/
def Two (w : World) (A B : Obj) (wr : World) : Prop := Below w.heap.size w wr ∧ wr.heap[w.heap.size]? = some A ∧ wr.heap[w.heap.size + 1]? = some B
theorem Two.start (w : World) (A B : Obj) : Two w A B ((w.alloc A).alloc B) := by
  refine ⟨((Below.refl _ _).alloc (Nat.le_refl _) _).alloc (by simp) _, ?_, ?_⟩
  · rw [Below.heap_alloc _ _ _ (by simp)]; exact heap_alloc_last w A
  · have := heap_alloc_last (w.alloc A) B; simpa using this
theorem Two.wrote {w wr wr' : World} {A B C : Obj} (h : Two w A B wr) (hw : Wrote (w.heap.size + 1) C wr wr') : Two w A C wr' :=
  ⟨h.1.trans (hw.below (by omega)), by rw [hw.rest _ (by omega)]; exact h.2.1, hw.obj⟩
theorem Two.wrote0 {w wr wr' : World} {A B C : Obj} (h : Two w A B wr) (hw : Wrote w.heap.size C wr wr') : Two w C B wr' :=
  ⟨h.1.trans (hw.below (by omega)), hw.obj, by rw [hw.rest _ (by omega)]; exact h.2.2⟩
theorem Two.step {w wr wr' : World} {A B : Obj} (h : Two w A B wr) (hb : Below wr.heap.size wr wr') : Two w A B wr' :=
  ⟨h.1.trans (hb.mono h.1.size), by rw [hb.block _ (Array.getElem?_eq_some_iff.1 h.2.1).1]; exact h.2.1, by rw [hb.block _ (Array.getElem?_eq_some_iff.1 h.2.2).1]; exact h.2.2⟩
/-- a block laid and written beside them -/
theorem Two.fresh {w wr wr' : World} {A B C o : Obj} (h : Two w A B wr) (hw : Wrote wr.heap.size C (wr.alloc o) wr') : Two w A B wr' := by
  have h1 := h.step (below_box wr o)
  have l1 := (Array.getElem?_eq_some_iff.1 h.2.1).1
  have l2 := (Array.getElem?_eq_some_iff.1 h.2.2).1
  exact ⟨h1.1.trans (hw.below (by omega)), by rw [hw.rest _ (by omega)]; exact h1.2.1, by rw [hw.rest _ (by omega)]; exact h1.2.2⟩
abbrev boardO (b : List Int) : Obj := .cells (boardC b) 24
set_option maxHeartbeats 1600000 in
set_option maxRecDepth 100000 in
theorem board_First (w : World) : Calls Try.prog 66 #[] w fun x w' => x = .returned (.agg (boardC firstB)) ∧ Below w.heap.size w w' := by
  have HZ1 := Lib.hid (board_info (rowK 8) rowK_ok)
  have HZ2 := Lib.hid (board_info halfB halfB_ok)
  have HZ3 := Lib.hid (board_info firstB firstB_ok)
  have HS2 := Lib.hid (show (boardC (List.replicate 64 (0 : Int))).size = (boardC halfB).size by rw [boardC_size, boardC_size, halfB_ok.1]; simp)
  have HS3 := Lib.hid (show (boardC (List.replicate 64 (0 : Int))).size = (boardC firstB).size by rw [boardC_size, boardC_size, firstB_ok.1]; simp)
  go_enter Try.func66, Try.ntmps66
  go_wp2_with fail
  obtain ⟨wr0, hwr0⟩ : ∃ v, v = ((w.alloc (boardO (List.replicate 64 0))).alloc (boardO (List.replicate 64 0))) := ⟨_, rfl⟩
  have HS := Lib.hid (show Two w (boardO (List.replicate 64 0)) (boardO (rowK 0)) wr0 by rw [hwr0]; exact Two.start w _ _)
  change Code.wp _ _ _ _ ((w.alloc (boardO (List.replicate 64 0))).alloc (boardO (List.replicate 64 0)))
  rw [← hwr0]
  clear hwr0
  go_loopg [8] 8 (fun m kv wr => ∃ k : Nat, k + m = 8 ∧ kv = .int .i64 k ∧ Two w (boardO (List.replicate 64 0)) (boardO (rowK k)) wr)
  case atStart => exact ⟨0, by omega, rfl, HS.out⟩
  case round =>
    obtain ⟨k, hk, rfl, hS⟩ := hrel
    have HS := Lib.hid hS
    have HX := Lib.hid hS.2.2
    clear hS
    by_cases g0 : gk = 0
    · obtain rfl : k = 8 := by omega
      have q : decide (((8 : Nat) : Int) < 8) = false := by decide
      clear hk g0
      go_wp2_with (first
        | (refine load_row rfl 24 _ rfl _ rfl 24 (boardC (rowK 8)) (0, 0) _ HX.out Try.underlying24 rfl HZ1.out ?_)
        | (go_at_call 69; refine (board_Turned (rowK 8) rowK_ok _).mono ?_; rw [show turnB (rowK 8) = halfB from rfl]; rintro x w1 ⟨rfl, hb1⟩; have HS := Lib.hid (HS.out.step hb1); clear hb1)
        | (refine store_all 24 _ _ rfl rfl w1.heap.size (boardC halfB) rfl rfl 24 (boardC (List.replicate 64 0)) (heap_alloc_last _ _) HZ2.out HS2.out (boardC_one _) ?_; intro w2 hw2; have HH := Lib.hid hw2.obj; have HS := Lib.hid (HS.out.fresh hw2); clear hw2)
        | (refine load_row rfl 24 _ rfl _ rfl 24 (boardC halfB) (0, 0) _ HH.out Try.underlying24 rfl HZ2.out ?_))
      have HS0 := Lib.hid (show Two w (boardO (List.replicate 64 0)) (boardO (secK 0)) w2 from HS.out)
      clear HX HH HS
      go_loopg [22] 64 (fun m kv wr => ∃ k : Nat, k + m = 64 ∧ kv = .int .i64 k ∧ Two w (boardO (List.replicate 64 0)) (boardO (secK k)) wr)
      case atStart => exact ⟨0, by omega, rfl, HS0.out⟩
      case round =>
        obtain ⟨k, hk, rfl, hS⟩ := hrel
        have HS := Lib.hid hS
        have HX := Lib.hid hS.2.2
        have HR := Lib.hid hS.2.1
        clear hS
        by_cases g0 : gk = 0
        · obtain rfl : k = 64 := by omega
          have q : decide (((64 : Nat) : Int) < 64) = false := by decide
          clear hk g0
          go_wp2_with (first
            | (refine load_row rfl 24 _ rfl _ rfl 24 (boardC firstB) (0, 0) _ HX.out Try.underlying24 rfl HZ3.out ?_)
            | (refine store_all 24 _ _ rfl rfl w.heap.size (boardC firstB) rfl rfl 24 _ HR.out HZ3.out HS3.out (boardC_one _) ?_; intro w2 hw2))
          exact bodyPost_ret (results_cell_row rfl _ _ w.heap.size 24 _ (0, 0) _ rfl hw2.obj Try.underlying24 rfl HZ3.out) rfl ⟨rfl, HS.out.1.trans (hw2.below (by omega))⟩
        · have q : decide ((k : Int) < 64) = true := by simp; omega
          have hk2 : k < 64 := by omega
          have HK := Lib.hid hk
          have HN := Lib.hid g0
          have HL := Lib.hid (secK_len k)
          have hi := board_index halfB halfB_ok k hk2
          clear hk g0
          by_cases e : bd halfB k = 0
          · have HT := Lib.hid (show secK (k + 1) = secK k by unfold secK; rw [if_pos e]; cases k <;> rfl)
            have b1 : (bd halfB k != 0) = false := by simpa using e
            clear e
            go_wp2
            go_roundg (gk - 1)
            case measure => have := HN.out; omega
            case rel => exact ⟨k + 1, by have := HK.out; have := HN.out; omega, by go_num, by rw [HT.out]; exact HS.out⟩
          · have HT := Lib.hid (show secK (k + 1) = (secK k).set k (bd halfB k) by unfold secK; rw [if_neg e]; cases k <;> rfl)
            have b1 : (bd halfB k != 0) = true := by simpa using e
            clear e
            go_wp2_with (first
              | (refine store_sq _ _ rfl rfl (w.heap.size + 1) k (bd halfB k) rfl rfl (secK k) HL.out (by omega) HX.out ?_; rw [← HT.out]; intro w2 hw2; have HS2 := Lib.hid (HS.out.wrote hw2); clear hw2))
            go_roundg (gk - 1)
            case measure => have := HN.out; omega
            case rel => exact ⟨k + 1, by have := HK.out; have := HN.out; omega, by go_num, HS2.out⟩
    · have q : decide ((k : Int) < 8) = true := by simp; omega
      have hk2 : k < 8 := by omega
      have HK := Lib.hid hk
      have HN := Lib.hid g0
      have HT := Lib.hid (show rowK (k + 1) = ((rowK k).set k (backI k)).set (8 + k) 1 from rfl)
      have HL := Lib.hid (rowK_len k)
      have HL2 := Lib.hid (show ((rowK k).set k (backI k)).length = 64 by rw [List.length_set, rowK_len])
      have hi : ∀ W, (Instr.index 87 (.agg #[.int .i8 4, .int .i8 2, .int .i8 3, .int .i8 5, .int .i8 6, .int .i8 3, .int .i8 2, .int .i8 4]) (.int .i64 k)).run Try.prog W = .ok (.int .i8 (backI k)) W := back_index k hk2
      clear hk g0
      go_wp2_with (first
        | (refine store_sq _ _ rfl rfl (w.heap.size + 1) k (backI k) rfl rfl (rowK k) HL.out (by omega) HX.out ?_; intro w2 hw2; have HX2 := Lib.hid hw2.obj; have HS2 := Lib.hid (HS.out.wrote hw2); clear hw2)
        | (refine store_sq _ _ rfl rfl (w.heap.size + 1) (8 + k) 1 rfl rfl ((rowK k).set k (backI k)) HL2.out (by omega) HX2.out ?_; rw [← HT.out]; intro w3 hw3; have HS3 := Lib.hid (HS2.out.wrote hw3); clear hw3))
      go_roundg (gk - 1)
      case measure => have := HN.out; omega
      case rel => exact ⟨k + 1, by have := HK.out; have := HN.out; omega, by go_num, HS3.out⟩
end Go.Proofs.Ytibaembmdcdbkaa
