import Derived.Test.YtibaembmdcdbkaaTu
namespace Go.Proofs.Ytibaembmdcdbkaa
open Go.RowKit Alf

/-! the reference's squares found, its boards turned -/
set_option maxHeartbeats 400000 in
set_option maxRecDepth 100000 in
theorem r_Find (f r : Nat) (hf : f < 8) (hr : r < 8) (w : World) : Calls Try.prog 72 #[.int .i64 f, .int .i64 r] w fun e w' => e = .returned (.int .i64 ((r * 8 + f : Nat) : Int)) ∧ w = w' := by
  have HF := Lib.hid (show ∀ z : Nat, z < 64 → (if sqR (z : Int) then (z : Int) % 8 else -1) = ((z % 8 : Nat) : Int) from fun z hz => by rw [if_pos (by unfold sqR; simp; omega)]; omega)
  have HR := Lib.hid (show ∀ z : Nat, z < 64 → (if sqR (z : Int) then (z : Int) / 8 else -1) = ((z / 8 : Nat) : Int) from fun z hz => by rw [if_pos (by unfold sqR; simp; omega)]; omega)
  go_enter Try.func72, Try.ntmps72
  go_wp2_with fail
  go_loop [5] (fun kv => ∃ k : Nat, k ≤ r * 8 + f ∧ kv = .int .i64 k) (fun kv => 64 - (intOf kv).toNat)
  case atStart => exact ⟨0, by omega, rfl⟩
  case round =>
    obtain ⟨k, hk, rfl⟩ := hrel
    have hk2 : k < 64 := by omega
    have q : decide ((k : Int) < 64) = true := by simp; omega
    obtain ⟨x, hx⟩ : ∃ x, k % 8 = x := ⟨_, rfl⟩
    obtain ⟨y, hy⟩ : ∃ y, k / 8 = y := ⟨_, rfl⟩
    have HX := Lib.hid (show (if sqR (k : Int) then (k : Int) % 8 else -1) = (x : Int) by rw [HF.out k hk2, hx])
    have HY := Lib.hid (show (if sqR (k : Int) then (k : Int) / 8 else -1) = (y : Int) by rw [HR.out k hk2, hy])
    by_cases e1 : x = f
    · have b1 : ((x : Int) == (f : Int)) = true := by rw [e1]; simp
      by_cases e2 : y = r
      · have b2 : ((y : Int) == (r : Int)) = true := by rw [e2]; simp
        have E := Lib.hid (show k = r * 8 + f by omega)
        clear e1 e2 hk hx hy
        go_wp2_with (first
          | (go_at_call 73; refine (r_File _ _).mono ?_; rw [HX.out]; rintro e w' ⟨rfl, rfl⟩)
          | (go_at_call 62; refine (r_Rank _ _).mono ?_; rw [HY.out]; rintro e w' ⟨rfl, rfl⟩))
        go_ret
        exact ⟨re_int (by rw [E.out]), rfl⟩
      · have b2 : ((y : Int) == (r : Int)) = false := by simp; omega
        have E := Lib.hid (show k + 1 ≤ r * 8 + f by omega)
        clear e1 e2 hk hx hy
        go_wp2_with (first
          | (go_at_call 73; refine (r_File _ _).mono ?_; rw [HX.out]; rintro e w' ⟨rfl, rfl⟩)
          | (go_at_call 62; refine (r_Rank _ _).mono ?_; rw [HY.out]; rintro e w' ⟨rfl, rfl⟩))
        go_round
        case rel => exact ⟨k + 1, E.out, by go_num⟩
        case measure => simp [intOf]; omega
    · have b1 : ((x : Int) == (f : Int)) = false := by simp; omega
      have E := Lib.hid (show k + 1 ≤ r * 8 + f by omega)
      clear e1 hk hx hy
      go_wp2_with (first
        | (go_at_call 73; refine (r_File _ _).mono ?_; rw [HX.out]; rintro e w' ⟨rfl, rfl⟩))
      go_round
      case rel => exact ⟨k + 1, E.out, by go_num⟩
      case measure => simp [intOf]; omega
/-- the square over the middle -/
theorem r_Find7 (k : Nat) (hk : k < 64) (x y : Int) (hx : x = ((k % 8 : Nat) : Int)) (hy : y = 7 - ((k / 8 : Nat) : Int)) (w : World) : Calls Try.prog 72 #[.int .i64 x, .int .i64 y] w fun e w' => e = .returned (.int .i64 (flip k)) ∧ w = w' := by
  subst hx
  obtain rfl : y = ((7 - k / 8 : Nat) : Int) := by omega
  obtain ⟨f, h1, h2, h3⟩ := flip_nat k hk
  rw [h1, h3]
  exact r_Find (k % 8) (7 - k / 8) (by omega) (by omega) w

set_option maxHeartbeats 800000 in
set_option maxRecDepth 100000 in
theorem r3_Turned (b : List Int) (hb : BOk b) (w : World) : Calls Try.prog 71 #[.agg (boardC b)] w fun x w' => x = .returned (.agg (boardC (turnB b))) ∧ Below w.heap.size w w' := by
  have HF := Lib.hid (show ∀ z : Nat, z < 64 → (if sqR (z : Int) then (z : Int) % 8 else -1) = ((z % 8 : Nat) : Int) from fun z hz => by rw [if_pos (by unfold sqR; simp; omega)]; omega)
  have HRK := Lib.hid (show ∀ z : Nat, z < 64 → (if sqR (z : Int) then (z : Int) / 8 else -1) = ((z / 8 : Nat) : Int) from fun z hz => by rw [if_pos (by unfold sqR; simp; omega)]; omega)
  have HB := Lib.hid hb
  go_enter Try.func71, Try.ntmps71
  have HL := Lib.hid (h30 w (.cells (boardC b) 24))
  go_wp2_with fail
  obtain ⟨wr0, hwr0⟩ : ∃ v, v = (((w.alloc (.cells (boardC b) 24)).alloc (.cells (boardC (List.replicate 64 0)) 24)).alloc (.cells (boardC (List.replicate 64 0)) 24)) := ⟨_, rfl⟩
  have HS := Lib.hid (show TurnS w b 0 wr0 by rw [hwr0]; exact turn_start w _ b (turn_zero b))
  have HP := Lib.hid (show wr0.heap[w.heap.size]? = some (.cells (boardC b) 24 (0, 0)) by rw [hwr0]; exact HL.out _ _)
  change Code.wp _ _ _ _ (((w.alloc (.cells (boardC b) 24)).alloc (.cells (boardC (List.replicate 64 0)) 24)).alloc (.cells (boardC (List.replicate 64 0)) 24))
  rw [← hwr0]
  clear hwr0 hb
  go_loopg [4] 64 (fun m kv wr => ∃ k : Nat, k + m = 64 ∧ kv = .int .i64 k ∧ TurnS w b k wr ∧ wr.heap[w.heap.size]? = some (.cells (boardC b) 24 (0, 0)))
  case atStart => exact ⟨0, by omega, rfl, HS.out, HP.out⟩
  case round =>
    obtain ⟨k, hk, rfl, hS, hP⟩ := hrel
    have HS := Lib.hid hS
    have HP := Lib.hid hP
    have HO := Lib.hid (turnK_ok b HB.out k)
    have HX := Lib.hid hS.2.2
    have HR := Lib.hid hS.2.1
    clear hS hP
    by_cases g0 : gk = 0
    · obtain rfl : k = 64 := by omega
      have q : decide (((64 : Nat) : Int) < 64) = false := by decide
      have HZ2 := Lib.hid (board_info (turnK b 64) HO.out)
      have HS2 := Lib.hid (show (boardC (List.replicate 64 (0 : Int))).size = (boardC (turnK b 64)).size by rw [boardC_size, boardC_size, HO.out.1]; simp)
      clear hk g0
      go_wp2_with (first
        | (refine load_row rfl 24 _ rfl _ rfl 24 _ (0, 0) _ HX.out Try.underlying24 rfl HZ2.out ?_)
        | (refine store_all 24 _ _ rfl rfl (w.heap.size + 1) (boardC (turnK b 64)) rfl rfl 24 _ HR.out HZ2.out HS2.out (boardC_one _) ?_; intro w2 hw2))
      exact bodyPost_ret (results_cell_row rfl _ _ (w.heap.size + 1) 24 _ (0, 0) _ rfl hw2.obj Try.underlying24 rfl HZ2.out) rfl ⟨rfl, HS.out.1.trans (hw2.below (by omega))⟩
    · have q : decide ((k : Int) < 64) = true := by simp; omega
      have hk2 : k < 64 := by omega
      obtain ⟨f, hf, hf64, hf2⟩ := flip_nat k hk2
      have HFL := Lib.hid hf
      have HF64 := Lib.hid hf64
      have HK := Lib.hid hk
      have HN := Lib.hid g0
      have hc : wr.cell? ⟨w.heap.size, k, none⟩ = some (.int .i8 (bd b k)) := by rw [cell_of_row _ _ k _ _ _ HP.out]; exact boardC_get b k (by rw [HB.out.1]; exact hk2)
      have HT := Lib.hid (turnK_succ b k f hk2 hf hf64)
      have e1 : wrap64 (7 - ((k / 8 : Nat) : Int)) = 7 - ((k / 8 : Nat) : Int) := IntWalk.wrap64_in _ (by omega)
      obtain ⟨c1, c2⟩ := bd_bounds b HB.out k
      clear hk g0 hf hf2
      go_wp2_with (first
        | (go_at_call 73; refine (r_File _ _).mono ?_; rw [HF.out k hk2]; rintro e w' ⟨rfl, rfl⟩)
        | (go_at_call 62; refine (r_Rank _ _).mono ?_; rw [HRK.out k hk2]; rintro e w' ⟨rfl, rfl⟩)
        | (go_at_call 72; refine (r_Find7 k hk2 _ _ rfl (by omega) _).mono ?_; rw [HFL.out]; rintro x w1 ⟨rfl, rfl⟩)
        | (refine store_sq _ _ rfl rfl (w.heap.size + 1 + 1) f (neg8 (bd b k)) rfl rfl (turnK b k) HO.out.1 HF64.out HX.out ?_; rw [← HT.out]; intro w2 hw2; have HS2 := Lib.hid (HS.out.wrote hw2); have HP2 := Lib.hid ((hw2.rest _ (by omega)).trans HP.out); clear hw2))
      go_roundg (gk - 1)
      case measure => have := HN.out; omega
      case rel => exact ⟨k + 1, by have := HK.out; have := HN.out; omega, by go_num, HS2.out, HP2.out⟩
end Go.Proofs.Ytibaembmdcdbkaa
