import Derived.Test.YtibaembmdcdbkaaPo
import Derived.Test.YtibaembmdcdbkaaOw
namespace Go.Proofs.Ytibaembmdcdbkaa
open Go.RowKit Alf

/-! boards turned -/
theorem h30 (w : World) (a b c : Obj) : (((w.alloc a).alloc b).alloc c).heap[w.heap.size]? = some a := by
  rw [Below.heap_alloc _ _ _ (by simp; omega), Below.heap_alloc _ _ _ (by simp)]; exact heap_alloc_last _ _
def neg8 (x : Int) : Int := IntKind.i8.wrap (-x)
def turnP (b : List Int) (k : Nat) (s : Int) : Int := if flip s < k then neg8 (bd b (flip s)) else 0
def turnK (b : List Int) (k : Nat) : List Int := squares.map (turnP b k)
def turnB (b : List Int) : List Int := turnK b 64
theorem squares_len : squares.length = 64 := by simp [squares]
theorem turnK_len (b : List Int) (k : Nat) : (turnK b k).length = 64 := by simp [turnK, squares]
/-- the blocks of board.Turned: the result's, the new board's -/
def TurnS (w : World) (b : List Int) (k : Nat) (wr : World) : Prop :=
  Below w.heap.size w wr ∧ wr.heap[w.heap.size + 1]? = some (.cells (boardC (List.replicate 64 0)) 24 (0, 0)) ∧ wr.heap[w.heap.size + 1 + 1]? = some (.cells (boardC (turnK b k)) 24 (0, 0))
theorem turn_start (w : World) (o : Obj) (b : List Int) (hz : turnK b 0 = List.replicate 64 0) : TurnS w b 0 (((w.alloc o).alloc (.cells (boardC (List.replicate 64 0)) 24)).alloc (.cells (boardC (List.replicate 64 0)) 24)) := by
  refine ⟨(((Below.refl _ _).alloc (Nat.le_refl _) _).alloc (by simp) _).alloc (by simp; omega) _, ?_, ?_⟩
  · rw [Below.heap_alloc _ _ _ (by simp)]
    have := heap_alloc_last (w.alloc o) (.cells (boardC (List.replicate 64 0)) 24); simpa using this
  · rw [hz]
    have := heap_alloc_last ((w.alloc o).alloc (.cells (boardC (List.replicate 64 0)) 24)) (.cells (boardC (List.replicate 64 0)) 24); simpa using this
theorem TurnS.wrote {w wr wr' : World} {b : List Int} {k : Nat} (h : TurnS w b k wr) (hw : Wrote (w.heap.size + 1 + 1) (.cells (boardC (turnK b (k + 1))) 24 (0, 0)) wr wr') : TurnS w b (k + 1) wr' :=
  ⟨h.1.trans (hw.below (by omega)), by rw [hw.rest _ (by omega)]; exact h.2.1, hw.obj⟩
theorem TurnS.below {w wr wr' : World} {b : List Int} {k : Nat} (h : TurnS w b k wr) (hb : Below wr.heap.size wr wr') : TurnS w b k wr' :=
  ⟨h.1.trans (hb.mono h.1.size), by rw [hb.block _ (Array.getElem?_eq_some_iff.1 h.2.1).1]; exact h.2.1, by rw [hb.block _ (Array.getElem?_eq_some_iff.1 h.2.2).1]; exact h.2.2⟩
theorem flip_nat (k : Nat) (hk : k < 64) : ∃ f : Nat, flip (k : Int) = f ∧ f < 64 ∧ f = (7 - k / 8) * 8 + k % 8 := by
  refine ⟨(7 - k / 8) * 8 + k % 8, ?_, by omega, rfl⟩
  unfold flip
  rw [if_pos (by unfold sqR; simp; omega)]
  omega
theorem turnK_succ (b : List Int) (k f : Nat) (hk : k < 64) (hf : flip (k : Int) = f) (hf64 : f < 64) : turnK b (k + 1) = (turnK b k).set f (neg8 (bd b k)) := by
  obtain ⟨f', h1, _, h3⟩ := flip_nat k hk
  obtain rfl : f' = f := by omega
  apply List.ext_getElem?
  intro i
  rw [List.getElem?_set]
  by_cases hi : i < 64
  · obtain ⟨j, j1, j2, j3⟩ := flip_nat i hi
    unfold turnK
    rw [List.getElem?_map, List.getElem?_map, squares_get i hi]
    simp only [Option.map_some, turnP, j1]
    by_cases e : f' = i
    · subst e
      have hj : j = k := by omega
      subst hj
      rw [if_pos rfl, if_pos (by omega), if_pos (by rw [List.length_map, squares_len]; exact hi)]
    · rw [if_neg e]
      have hj : j ≠ k := by omega
      by_cases q : j < k
      · rw [if_pos (by omega), if_pos (by omega)]
      · rw [if_neg (by omega), if_neg (by omega)]
  · have hl := turnK_len b (k + 1)
    have hl2 := turnK_len b k
    rw [List.getElem?_eq_none (by omega), if_neg (by omega), List.getElem?_eq_none (by omega)]
theorem turn_zero (b : List Int) : turnK b 0 = List.replicate 64 0 := by
  apply List.ext_getElem?
  intro i
  by_cases hi : i < 64
  · obtain ⟨j, j1, j2, j3⟩ := flip_nat i hi
    unfold turnK
    rw [List.getElem?_map, squares_get i hi]
    simp only [Option.map_some, turnP, j1]
    rw [if_neg (by omega), List.getElem?_replicate, if_pos hi]
  · have hl := turnK_len b 0
    rw [List.getElem?_eq_none (by omega), List.getElem?_eq_none (by simp; omega)]
theorem turnK_ok (b : List Int) (hb : BOk b) (k : Nat) : BOk (turnK b k) := by
  refine ⟨turnK_len b k, fun x hx => ?_⟩
  obtain ⟨s, _, rfl⟩ := List.mem_map.1 hx
  unfold turnP
  split
  · unfold neg8
    have h := bd_bounds b hb (flip s)
    by_cases q : bd b (flip s) = -128
    · rw [q]; decide
    · have : IntKind.i8.wrap (-bd b (flip s)) = -bd b (flip s) := by
        unfold IntKind.wrap
        simp [IntKind.bits, IntKind.signed]
        omega
      rw [this]; omega
  · omega
set_option maxHeartbeats 800000 in
set_option maxRecDepth 100000 in
theorem board_Turned (b : List Int) (hb : BOk b) (w : World) : Calls Try.prog 69 #[.agg (boardC b)] w fun x w' => x = .returned (.agg (boardC (turnB b))) ∧ Below w.heap.size w w' := by
  have HZ := Lib.hid (board_info b hb)
  have HB := Lib.hid hb
  go_enter Try.func69, Try.ntmps69
  have HL := Lib.hid (h30 w (.cells (boardC b) 24))
  go_wp2_with (refine load_row rfl 24 _ rfl _ rfl 24 _ (0, 0) _ (HL.out _ _) Try.underlying24 rfl HZ.out ?_)
  obtain ⟨wr0, hwr0⟩ : ∃ v, v = (((w.alloc (.cells (boardC b) 24)).alloc (.cells (boardC (List.replicate 64 0)) 24)).alloc (.cells (boardC (List.replicate 64 0)) 24)) := ⟨_, rfl⟩
  have HS := Lib.hid (show TurnS w b 0 wr0 by rw [hwr0]; exact turn_start w _ b (turn_zero b))
  change Code.wp _ _ _ _ (((w.alloc (.cells (boardC b) 24)).alloc (.cells (boardC (List.replicate 64 0)) 24)).alloc (.cells (boardC (List.replicate 64 0)) 24))
  rw [← hwr0]
  clear hwr0 hb
  go_loopg [7] 64 (fun m kv wr => ∃ k : Nat, k + m = 64 ∧ kv = .int .i64 k ∧ TurnS w b k wr)
  case atStart => exact ⟨0, by omega, rfl, HS.out⟩
  case round =>
    obtain ⟨k, hk, rfl, hS⟩ := hrel
    have HS := Lib.hid hS
    have HO := Lib.hid (turnK_ok b HB.out k)
    have HX := Lib.hid hS.2.2
    have HR := Lib.hid hS.2.1
    clear hS
    by_cases g0 : gk = 0
    · obtain rfl : k = 64 := by omega
      have q : decide (((64 : Nat) : Int) < 64) = false := by decide
      have HZ2 := Lib.hid (board_info (turnK b 64) HO.out)
      have HS2 := Lib.hid (show (boardC (List.replicate 64 (0 : Int))).size = (boardC (turnK b 64)).size by rw [boardC_size, boardC_size, HO.out.1]; simp)
      clear hk g0
      go_wp2_with (first
        | (refine load_row rfl 24 _ rfl _ rfl 24 _ (0, 0) _ HX.out Try.underlying24 rfl HZ2.out ?_)
        | (refine store_all 24 _ _ rfl rfl (w.heap.size + 1) (boardC (turnK b 64)) rfl rfl 24 _ HR.out HZ2.out HS2.out (boardC_one _) ?_; intro w2 hw2))
      exact bodyPost_ret (results_cell_row rfl _ _ (w.heap.size + 1) 24 _ (0, 0) _ rfl hw2.obj Try.underlying24 rfl HZ2.out) rfl ⟨rfl, HS.out.1.trans (hw2.below (by omega))⟩
    · have q : decide ((k : Int) < 64) = true := by simp; omega
      have hk2 : k < 64 := by omega
      obtain ⟨f, hf, hf64, hf2⟩ := flip_nat k hk2
      have HF := Lib.hid hf
      have HF64 := Lib.hid hf64
      have HK := Lib.hid hk
      have HN := Lib.hid g0
      have hi := board_index b HB.out k hk2
      have HT := Lib.hid (turnK_succ b k f hk2 hf hf64)
      obtain ⟨c1, c2⟩ := bd_bounds b HB.out k
      clear hk g0 hf hf2
      go_wp2_with (first
        | (go_at_call 70; refine (sq_Flip _ _).mono ?_; rw [HF.out]; rintro x w1 ⟨rfl, rfl⟩)
        | (refine store_sq _ _ rfl rfl (w.heap.size + 1 + 1) f (neg8 (bd b k)) rfl rfl (turnK b k) HO.out.1 HF64.out HX.out ?_; rw [← HT.out]; intro w2 hw2; have HS2 := Lib.hid (HS.out.wrote hw2); clear hw2))
      go_roundg (gk - 1)
      case measure => have := HN.out; omega
      case rel => exact ⟨k + 1, by have := HK.out; have := HN.out; omega, by go_num, HS2.out⟩
end Go.Proofs.Ytibaembmdcdbkaa
