import Derived.Test.YtibaembmdcdbkaaRw
import Derived.IntWalk
namespace Go.Proofs.Ytibaembmdcdbkaa
open Go.RowKit Alf

/-! small functions of squares and positions -/
def flip (s : Int) : Int := if sqR s then (7 - s / 8) * 8 + s % 8 else -1
theorem xor56 : ∀ k : Fin 64, bits .xor .i64 ((k.val : Nat) : Int) 56 = (7 - ((k.val : Nat) : Int) / 8) * 8 + ((k.val : Nat) : Int) % 8 := by decide +kernel
theorem sqR_nat {s : Int} (h : sqR s = true) : ∃ k : Nat, s = k ∧ k < 64 := by
  unfold sqR at h
  simp at h
  exact ⟨s.toNat, by omega, by omega⟩
set_option maxRecDepth 100000 in
theorem sq_Flip (s : Int) (w : World) : Calls Try.prog 70 #[.int .i64 s] w fun e w' => e = .returned (.int .i64 (flip s)) ∧ w = w' := by
  cases q : sqR s
  · have E := Lib.hid (show flip s = -1 by unfold flip; rw [q]; rfl)
    go_enter Try.func70, Try.ntmps70
    go_wp2_with (go_at_call 74; refine (sq_Right _ _).mono ?_; rintro e w' ⟨rfl, rfl⟩)
    go_ret
    exact ⟨re_int E.out.symm, rfl⟩
  · obtain ⟨k, rfl, hk⟩ := sqR_nat q
    have hx := xor56 ⟨k, hk⟩
    have E := Lib.hid (show bits .xor .i64 (k : Int) 56 = flip k by rw [hx]; unfold flip; rw [q]; rfl)
    clear hx
    go_enter Try.func70, Try.ntmps70
    go_wp2_with (go_at_call 74; refine (sq_Right _ _).mono ?_; rintro e w' ⟨rfl, rfl⟩)
    go_ret
    exact ⟨re_int E.out, rfl⟩

def gapI (a b : Int) : Int := max (a - b) (b - a)
set_option maxRecDepth 100000 in
theorem sq_gap (a b : Int) (ha : -1 ≤ a) (ha' : a ≤ 63) (hb : -1 ≤ b) (hb' : b ≤ 63) (w : World) : Calls Try.prog 106 #[.int .i64 a, .int .i64 b] w fun e w' => e = .returned (.int .i64 (gapI a b)) ∧ w = w' := by
  have e1 : wrap64 (a - b) = a - b := IntWalk.wrap64_in _ (by omega)
  have e2 : wrap64 (b - a) = b - a := IntWalk.wrap64_in _ (by omega)
  go_enter Try.func106, Try.ntmps106
  go_wp2
  go_ret
  exact ⟨re_int (by unfold gapI; first | rfl | (simp only [Int.max_def]) | omega), rfl⟩
def farI (a b : Int) : Int := if sqR a && sqR b then max (gapI (a % 8) (b % 8)) (gapI (a / 8) (b / 8)) else -1
set_option maxHeartbeats 400000 in
set_option maxRecDepth 100000 in
theorem sq_Far (a b : Int) (w : World) : Calls Try.prog 86 #[.int .i64 a, .int .i64 b] w fun e w' => e = .returned (.int .i64 (farI a b)) ∧ w = w' := by
  cases q : sqR a
  · have E := Lib.hid (show farI a b = -1 by unfold farI; rw [q]; rfl)
    go_enter Try.func86, Try.ntmps86
    go_wp2_with (go_at_call 74; refine (sq_Right _ _).mono ?_; rintro e w' ⟨rfl, rfl⟩)
    go_ret
    exact ⟨re_int E.out.symm, rfl⟩
  · cases q2 : sqR b
    · have E := Lib.hid (show farI a b = -1 by unfold farI; rw [q, q2]; rfl)
      go_enter Try.func86, Try.ntmps86
      go_wp2_with (go_at_call 74; refine (sq_Right _ _).mono ?_; rintro e w' ⟨rfl, rfl⟩)
      go_ret
      exact ⟨re_int E.out.symm, rfl⟩
    · obtain ⟨x, rfl, hx⟩ := sqR_nat q
      obtain ⟨y, rfl, hy⟩ := sqR_nat q2
      have E := Lib.hid (show farI x y = max (gapI ((x : Int) % 8) ((y : Int) % 8)) (gapI ((x : Int) / 8) ((y : Int) / 8)) by unfold farI; rw [q, q2]; rfl)
      have HF := Lib.hid (show ∀ z : Nat, z < 64 → (if sqR (z : Int) then (z : Int) % 8 else -1) = (z : Int) % 8 from fun z hz => if_pos (by unfold sqR; simp; omega))
      have HR := Lib.hid (show ∀ z : Nat, z < 64 → (if sqR (z : Int) then (z : Int) / 8 else -1) = (z : Int) / 8 from fun z hz => if_pos (by unfold sqR; simp; omega))
      go_enter Try.func86, Try.ntmps86
      go_wp2_with (first
        | (go_at_call 74; refine (sq_Right _ _).mono ?_; rintro e w' ⟨rfl, rfl⟩)
        | (go_at_call 107; refine (sq_File _ _).mono ?_; rw [HF.out _ (by assumption)]; rintro e w' ⟨rfl, rfl⟩)
        | (go_at_call 61; refine (sq_Rank _ _).mono ?_; rw [HR.out _ (by assumption)]; rintro e w' ⟨rfl, rfl⟩)
        | (go_at_call 106; refine (sq_gap _ _ (by omega) (by omega) (by omega) (by omega) _).mono ?_; rintro e w' ⟨rfl, rfl⟩))
      go_ret
      exact ⟨re_int E.out.symm, rfl⟩

set_option maxHeartbeats 400000 in
set_option maxRecDepth 100000 in
theorem r_Far (a b : Int) (w : World) : Calls Try.prog 57 #[.int .i64 a, .int .i64 b] w fun e w' => e = .returned (.int .i64 (farI a b)) ∧ w = w' := by
  cases q : sqR a
  · have E := Lib.hid (show farI a b = -1 by unfold farI; rw [q]; rfl)
    go_enter Try.func57, Try.ntmps57
    go_wp2_with (go_at_call 87; refine (r_Right _ _).mono ?_; rintro e w' ⟨rfl, rfl⟩)
    go_ret
    exact ⟨re_int E.out.symm, rfl⟩
  · cases q2 : sqR b
    · have E := Lib.hid (show farI a b = -1 by unfold farI; rw [q, q2]; rfl)
      go_enter Try.func57, Try.ntmps57
      go_wp2_with (go_at_call 87; refine (r_Right _ _).mono ?_; rintro e w' ⟨rfl, rfl⟩)
      go_ret
      exact ⟨re_int E.out.symm, rfl⟩
    · obtain ⟨x, rfl, hx⟩ := sqR_nat q
      obtain ⟨y, rfl, hy⟩ := sqR_nat q2
      have HF := Lib.hid (show ∀ z : Nat, z < 64 → (if sqR (z : Int) then (z : Int) % 8 else -1) = (z : Int) % 8 from fun z hz => if_pos (by unfold sqR; simp; omega))
      have HR := Lib.hid (show ∀ z : Nat, z < 64 → (if sqR (z : Int) then (z : Int) / 8 else -1) = (z : Int) / 8 from fun z hz => if_pos (by unfold sqR; simp; omega))
      have E := Lib.hid (show farI x y = max (gapI ((x : Int) % 8) ((y : Int) % 8)) (gapI ((x : Int) / 8) ((y : Int) / 8)) by unfold farI; rw [q, q2]; rfl)
      have fx : (x : Int) % 8 = ((x % 8 : Nat) : Int) := by omega
      have fy : (y : Int) % 8 = ((y % 8 : Nat) : Int) := by omega
      have rx : (x : Int) / 8 = ((x / 8 : Nat) : Int) := by omega
      have ry : (y : Int) / 8 = ((y / 8 : Nat) : Int) := by omega
      rw [fx, fy, rx, ry] at E
      have HFX := Lib.hid fx
      have HFY := Lib.hid fy
      have HRX := Lib.hid rx
      have HRY := Lib.hid ry
      have b1 : x % 8 < 8 := by omega
      have b2 : y % 8 < 8 := by omega
      have b3 : x / 8 < 8 := by omega
      have b4 : y / 8 < 8 := by omega
      clear fx fy rx ry
      generalize x % 8 = p1 at *
      generalize y % 8 = p2 at *
      generalize x / 8 = p3 at *
      generalize y / 8 = p4 at *
      have e1 : wrap64 ((p1 : Int) - p2) = (p1 : Int) - p2 := IntWalk.wrap64_in _ (by omega)
      have e2 : wrap64 ((p3 : Int) - p4) = (p3 : Int) - p4 := IntWalk.wrap64_in _ (by omega)
      have e3 : wrap64 (-((p1 : Int) - p2)) = -((p1 : Int) - p2) := IntWalk.wrap64_in _ (by omega)
      have e4 : wrap64 (-((p3 : Int) - p4)) = -((p3 : Int) - p4) := IntWalk.wrap64_in _ (by omega)
      go_enter Try.func57, Try.ntmps57
      go_wp2_with (first
        | (go_at_call 87; refine (r_Right _ _).mono ?_; rintro e w' ⟨rfl, rfl⟩)
        | (go_at_call 73; refine (r_File _ _).mono ?_; rw [HF.out _ (by assumption)]; (first | rw [HFX.out] | rw [HFY.out]); rintro e w' ⟨rfl, rfl⟩)
        | (go_at_call 62; refine (r_Rank _ _).mono ?_; rw [HR.out _ (by assumption)]; (first | rw [HRX.out] | rw [HRY.out]); rintro e w' ⟨rfl, rfl⟩))
      all_goals (go_ret; refine ⟨re_int ?_, rfl⟩; rw [E.out]; unfold gapI; omega)
end Go.Proofs.Ytibaembmdcdbkaa
