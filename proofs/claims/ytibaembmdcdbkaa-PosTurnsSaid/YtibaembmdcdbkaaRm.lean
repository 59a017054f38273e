import Derived.Test.YtibaembmdcdbkaaLi
import Derived.Test.YtibaembmdcdbkaaRr
namespace Go.Proofs.Ytibaembmdcdbkaa
open Go.RowKit Alf

/-! alfilref03.Many, Wrong -/
theorem sumK_le (b : List Int) (sg : Int) (k : Nat) : sumK b sg k ≤ b.length * k := by
  induction k with
  | zero => simp [sumK]
  | succ k ih =>
    have h : b.count (sg * ((k : Int) + 1)) ≤ b.length := List.count_le_length
    rw [sumK, Nat.mul_succ]
    omega

set_option maxHeartbeats 800000 in
set_option maxRecDepth 100000 in
theorem r3_Many0 (b : List Int) (hb : BOk b) (w : World) : Calls Try.prog 68 #[.agg (boardC b), .int .i64 0, .int .i64 0] w fun e w' => e = .returned (.int .i64 (many b 0 0 : Nat)) ∧ Below w.heap.size w w' := by
  have HZ := Lib.hid (board_info b hb)
  have HA := Lib.hid (Lies.start w (.cells (boardC b) 24))
  have HB := Lib.hid hb
  go_enter Try.func68, Try.ntmps68
  go_wp2_with fail
  go_loopg [7, 8] 6 (fun m nv kv wr => ∃ k : Nat, k + m = 6 ∧ kv = .int .i64 ((k : Int) + 1) ∧ nv = .int .i64 (sumK b (1) k : Nat) ∧ Lies w (.cells (boardC b) 24) wr)
  case atStart => exact ⟨0, by omega, rfl, rfl, HA.out⟩
  case round =>
    obtain ⟨k, hk, rfl, rfl, hA⟩ := hrel
    have HA := Lib.hid hA
    have HK := Lib.hid hk
    clear hA
    by_cases g0 : gk = 0
    · obtain rfl : k = 6 := by omega
      have E := Lib.hid (sumK_many0 b)
      rw [E.out]
      clear hk g0
      go_wp2
      go_ret
      exact ⟨rfl, HA.out.below⟩
    · have q : decide ((k : Int) + 1 ≤ 6) = true := by simp; omega
      have hk2 : k < 6 := by omega
      have HG := Lib.hid g0
      have HS := Lib.hid (show sumK b (1) (k + 1) = sumK b (1) k + b.count ((k : Int) + 1) by rw [sumK]; congr 2; omega)
      have hs := sumK_le b (1) k; rw [hb.1] at hs
      have hc : b.count ((k : Int) + 1) ≤ 64 := Nat.le_trans List.count_le_length (by rw [hb.1]; exact Nat.le_refl _)
      have HW := Lib.hid (where_len b hb ((k : Int) + 1))
      clear hk g0
      generalize sumK b (1) k = n at *
      generalize b.count ((k : Int) + 1) = c at *
      go_wp2_with (first
        | (refine load_row rfl 24 _ rfl _ rfl 24 _ (0, 0) _ HA.out.obj Try.underlying24 rfl HZ.out ?_)
        | (go_at_call 67; refine (r3_Where b HB.out ((k : Int) + 1) _).mono ?_; rintro e w1 ⟨A, cap, rfl, hL, hb1⟩; rw [HW.out]; have HA := Lib.hid (HA.out.step hb1)))
      go_roundg (gk - 1)
      case measure => have := HG.out; omega
      case rel => exact ⟨k + 1, by have := HK.out; have := HG.out; omega, by go_num, by rw [HS.out]; go_num, HA.out⟩

set_option maxHeartbeats 800000 in
set_option maxRecDepth 100000 in
theorem r3_Many1 (b : List Int) (hb : BOk b) (w : World) : Calls Try.prog 68 #[.agg (boardC b), .int .i64 0, .int .i64 1] w fun e w' => e = .returned (.int .i64 (many b 0 1 : Nat)) ∧ Below w.heap.size w w' := by
  have HZ := Lib.hid (board_info b hb)
  have HA := Lib.hid (Lies.start w (.cells (boardC b) 24))
  have HB := Lib.hid hb
  go_enter Try.func68, Try.ntmps68
  go_wp2_with fail
  go_loopg [7, 8] 6 (fun m nv kv wr => ∃ k : Nat, k + m = 6 ∧ kv = .int .i64 ((k : Int) + 1) ∧ nv = .int .i64 (sumK b (-1) k : Nat) ∧ Lies w (.cells (boardC b) 24) wr)
  case atStart => exact ⟨0, by omega, rfl, rfl, HA.out⟩
  case round =>
    obtain ⟨k, hk, rfl, rfl, hA⟩ := hrel
    have HA := Lib.hid hA
    have HK := Lib.hid hk
    clear hA
    by_cases g0 : gk = 0
    · obtain rfl : k = 6 := by omega
      have E := Lib.hid (sumK_many1 b)
      rw [E.out]
      clear hk g0
      go_wp2
      go_ret
      exact ⟨rfl, HA.out.below⟩
    · have q : decide ((k : Int) + 1 ≤ 6) = true := by simp; omega
      have hk2 : k < 6 := by omega
      have HG := Lib.hid g0
      have HS := Lib.hid (show sumK b (-1) (k + 1) = sumK b (-1) k + b.count (-((k : Int) + 1)) by rw [sumK]; congr 2; omega)
      have hs := sumK_le b (-1) k; rw [hb.1] at hs
      have hc : b.count (-((k : Int) + 1)) ≤ 64 := Nat.le_trans List.count_le_length (by rw [hb.1]; exact Nat.le_refl _)
      have HW := Lib.hid (where_len b hb (-((k : Int) + 1)))
      clear hk g0
      generalize sumK b (-1) k = n at *
      generalize b.count (-((k : Int) + 1)) = c at *
      go_wp2_with (first
        | (refine load_row rfl 24 _ rfl _ rfl 24 _ (0, 0) _ HA.out.obj Try.underlying24 rfl HZ.out ?_)
        | (go_at_call 67; refine (r3_Where b HB.out (-((k : Int) + 1)) _).mono ?_; rintro e w1 ⟨A, cap, rfl, hL, hb1⟩; rw [HW.out]; have HA := Lib.hid (HA.out.step hb1)))
      go_roundg (gk - 1)
      case measure => have := HG.out; omega
      case rel => exact ⟨k + 1, by have := HK.out; have := HG.out; omega, by go_num, by rw [HS.out]; go_num, HA.out⟩
end Go.Proofs.Ytibaembmdcdbkaa
