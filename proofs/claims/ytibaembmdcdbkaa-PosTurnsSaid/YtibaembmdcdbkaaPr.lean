import Derived.Test.YtibaembmdcdbkaaPp
namespace Go.Proofs.Ytibaembmdcdbkaa
open Go.RowKit Alf

/-! alfilref08.Passed -/

set_option maxHeartbeats 1600000 in
set_option maxRecDepth 100000 in
theorem r8_Passed0 (b : List Int) (hb : BOk b) (c : Int) (n : Nat) (hn : n < 64) (w : World) : Calls Try.prog 28 #[.agg (posC b 0 c n)] w fun x w' => x = .returned (.int .i64 (passI b 0 n)) ∧ Below w.heap.size w w' := by
  have HA := Lib.hid (Lies.start w (posO b 0 c n))
  have HB := Lib.hid hb
  obtain ⟨hc1, hc2, hc3⟩ := lies_pos HB.out HA.out
  have q : sqR (n : Int) = true := by unfold sqR; simp; omega
  have q1 : decide ((n : Int) < 0) = false := by simp
  have q2 : decide ((63 : Int) < (n : Int)) = false := by simp; omega
  clear hb
  by_cases h8 : n / 8 = 5
  · have H8 := Lib.hid h8
    have HR := Lib.hid (show (if sqR (n : Int) then (n : Int) / 8 else -1) = 5 by rw [q]; simp; omega)
    have HP := Lib.hid (passI_nat b 0 n hn)
    have hs1 := lies_sq HB.out HA.out n hn
    have hs2 := lies_sq HB.out HA.out (n + 8) (by omega)
    have hs3 := lies_sq HB.out HA.out (n - 8) (by omega)
    have hn1 : 8 ≤ n := by omega
    have hn2 : n + 8 < 64 := by omega
    have hm2 : n - 8 < 64 := by omega
    clear h8 q
    generalize hx : bd b (n : Int) = x at *
    generalize hy : bd b ((n + 8 : Nat) : Int) = y at *
    generalize hz : bd b ((n - 8 : Nat) : Int) = z at *
    clear hx hy hz
    by_cases k1 : x = 0
    · by_cases k2 : y = 0
      · by_cases k3 : z = -1
        · have P := Lib.hid (show passI b 0 n = ((n - 8 : Nat) : Int) by rw [HP.out]; simp [k1, k2, k3, H8.out])
          have k1 : (x == 0) = true := by simpa using k1
          have k2 : (y == 0) = true := by simpa using k2
          have k3 : (z == -1) = true := by simpa using k3
          have E := P
          go_enter Try.func28, Try.ntmps28
          go_wp2_with (go_at_call 62; refine (r_Rank _ _).mono ?_; rw [HR.out]; rintro x w1 ⟨rfl, rfl⟩)
          go_ret
          exact ⟨re_int (by first | exact E.out.symm | (rw [E.out]; omega)), HA.out.below⟩
        · have P := Lib.hid (show passI b 0 n = -1 by rw [HP.out]; simp [k3])
          have k1 : (x == 0) = true := by simpa using k1
          have k2 : (y == 0) = true := by simpa using k2
          have k3 : (z == -1) = false := by simpa using k3
          have E := P
          go_enter Try.func28, Try.ntmps28
          go_wp2_with (go_at_call 62; refine (r_Rank _ _).mono ?_; rw [HR.out]; rintro x w1 ⟨rfl, rfl⟩)
          go_ret
          exact ⟨re_int (by first | exact E.out.symm | (rw [E.out]; omega)), HA.out.below⟩
      · have P := Lib.hid (show passI b 0 n = -1 by rw [HP.out]; simp [k2])
        have k1 : (x == 0) = true := by simpa using k1
        have k2 : (y == 0) = false := by simpa using k2
        have E := P
        go_enter Try.func28, Try.ntmps28
        go_wp2_with (go_at_call 62; refine (r_Rank _ _).mono ?_; rw [HR.out]; rintro x w1 ⟨rfl, rfl⟩)
        go_ret
        exact ⟨re_int (by first | exact E.out.symm | (rw [E.out]; omega)), HA.out.below⟩
    · have P := Lib.hid (show passI b 0 n = -1 by rw [HP.out]; simp [k1])
      have k1 : (x == 0) = false := by simpa using k1
      have E := P
      go_enter Try.func28, Try.ntmps28
      go_wp2_with (go_at_call 62; refine (r_Rank _ _).mono ?_; rw [HR.out]; rintro x w1 ⟨rfl, rfl⟩)
      go_ret
      exact ⟨re_int (by first | exact E.out.symm | (rw [E.out]; omega)), HA.out.below⟩
  · have P := Lib.hid (pass_off0 b n (.inr (by omega)))
    have HR := Lib.hid (show (if sqR (n : Int) then (n : Int) / 8 else -1) = ((n / 8 : Nat) : Int) by rw [q]; simp)
    have r8 : (((n / 8 : Nat) : Int) == 5) = false := by simp; omega
    clear h8 q
    generalize n / 8 = kr at *
    have E := P
    go_enter Try.func28, Try.ntmps28
    go_wp2_with (go_at_call 62; refine (r_Rank _ _).mono ?_; rw [HR.out]; rintro x w1 ⟨rfl, rfl⟩)
    go_ret
    exact ⟨re_int (by first | exact E.out.symm | (rw [E.out]; omega)), HA.out.below⟩

set_option maxHeartbeats 1600000 in
set_option maxRecDepth 100000 in
theorem r8_Passed1 (b : List Int) (hb : BOk b) (c : Int) (n : Nat) (hn : n < 64) (w : World) : Calls Try.prog 28 #[.agg (posC b 1 c n)] w fun x w' => x = .returned (.int .i64 (passI b 1 n)) ∧ Below w.heap.size w w' := by
  have HA := Lib.hid (Lies.start w (posO b 1 c n))
  have HB := Lib.hid hb
  obtain ⟨hc1, hc2, hc3⟩ := lies_pos HB.out HA.out
  have q : sqR (n : Int) = true := by unfold sqR; simp; omega
  have q1 : decide ((n : Int) < 0) = false := by simp
  have q2 : decide ((63 : Int) < (n : Int)) = false := by simp; omega
  clear hb
  by_cases h8 : n / 8 = 2
  · have H8 := Lib.hid h8
    have HR := Lib.hid (show (if sqR (n : Int) then (n : Int) / 8 else -1) = 2 by rw [q]; simp; omega)
    have HP := Lib.hid (passI_nat b 1 n hn)
    have hs1 := lies_sq HB.out HA.out n hn
    have hs2 := lies_sq HB.out HA.out (n + 8) (by omega)
    have hs3 := lies_sq HB.out HA.out (n - 8) (by omega)
    have hn1 : 8 ≤ n := by omega
    have hn2 : n + 8 < 64 := by omega
    have hm2 : n - 8 < 64 := by omega
    clear h8 q
    generalize hx : bd b (n : Int) = x at *
    generalize hy : bd b ((n - 8 : Nat) : Int) = y at *
    generalize hz : bd b ((n + 8 : Nat) : Int) = z at *
    clear hx hy hz
    by_cases k1 : x = 0
    · by_cases k2 : y = 0
      · by_cases k3 : z = 1
        · have P := Lib.hid (show passI b 1 n = ((n + 8 : Nat) : Int) by rw [HP.out]; simp [k1, k2, k3, H8.out])
          have k1 : (x == 0) = true := by simpa using k1
          have k2 : (y == 0) = true := by simpa using k2
          have k3 : (z == 1) = true := by simpa using k3
          have E := P
          go_enter Try.func28, Try.ntmps28
          go_wp2_with (go_at_call 62; refine (r_Rank _ _).mono ?_; rw [HR.out]; rintro x w1 ⟨rfl, rfl⟩)
          go_ret
          exact ⟨re_int (by first | exact E.out.symm | (rw [E.out]; omega)), HA.out.below⟩
        · have P := Lib.hid (show passI b 1 n = -1 by rw [HP.out]; simp [k3])
          have k1 : (x == 0) = true := by simpa using k1
          have k2 : (y == 0) = true := by simpa using k2
          have k3 : (z == 1) = false := by simpa using k3
          have E := P
          go_enter Try.func28, Try.ntmps28
          go_wp2_with (go_at_call 62; refine (r_Rank _ _).mono ?_; rw [HR.out]; rintro x w1 ⟨rfl, rfl⟩)
          go_ret
          exact ⟨re_int (by first | exact E.out.symm | (rw [E.out]; omega)), HA.out.below⟩
      · have P := Lib.hid (show passI b 1 n = -1 by rw [HP.out]; simp [k2])
        have k1 : (x == 0) = true := by simpa using k1
        have k2 : (y == 0) = false := by simpa using k2
        have E := P
        go_enter Try.func28, Try.ntmps28
        go_wp2_with (go_at_call 62; refine (r_Rank _ _).mono ?_; rw [HR.out]; rintro x w1 ⟨rfl, rfl⟩)
        go_ret
        exact ⟨re_int (by first | exact E.out.symm | (rw [E.out]; omega)), HA.out.below⟩
    · have P := Lib.hid (show passI b 1 n = -1 by rw [HP.out]; simp [k1])
      have k1 : (x == 0) = false := by simpa using k1
      have E := P
      go_enter Try.func28, Try.ntmps28
      go_wp2_with (go_at_call 62; refine (r_Rank _ _).mono ?_; rw [HR.out]; rintro x w1 ⟨rfl, rfl⟩)
      go_ret
      exact ⟨re_int (by first | exact E.out.symm | (rw [E.out]; omega)), HA.out.below⟩
  · have P := Lib.hid (pass_off1 b n (.inr (by omega)))
    have HR := Lib.hid (show (if sqR (n : Int) then (n : Int) / 8 else -1) = ((n / 8 : Nat) : Int) by rw [q]; simp)
    have r8 : (((n / 8 : Nat) : Int) == 2) = false := by simp; omega
    clear h8 q
    generalize n / 8 = kr at *
    have E := P
    go_enter Try.func28, Try.ntmps28
    go_wp2_with (go_at_call 62; refine (r_Rank _ _).mono ?_; rw [HR.out]; rintro x w1 ⟨rfl, rfl⟩)
    go_ret
    exact ⟨re_int (by first | exact E.out.symm | (rw [E.out]; omega)), HA.out.below⟩

set_option maxHeartbeats 800000 in
set_option maxRecDepth 100000 in
theorem r8_Passed (b : List Int) (hb : BOk b) (t c e : Int) (w : World) : Calls Try.prog 28 #[.agg (posC b t c e)] w fun x w' => x = .returned (.int .i64 (passI b t e)) ∧ Below w.heap.size w w' := by
  have HA := Lib.hid (Lies.start w (posO b t c e))
  obtain ⟨hc1, hc2, hc3⟩ := lies_pos hb HA.out
  by_cases g1 : e < 0
  · have E := Lib.hid (show passI b t e = -1 by unfold passI; rw [if_pos (.inl g1)])
    have q1 : decide (e < 0) = true := by simpa using g1
    clear g1
    go_enter Try.func28, Try.ntmps28
    go_wp2
    go_ret
    exact ⟨re_int E.out.symm, HA.out.below⟩
  · by_cases g2 : 63 < e
    · have E := Lib.hid (show passI b t e = -1 by unfold passI; rw [if_pos (.inr g2)])
      have q1 : decide (e < 0) = false := by simpa using g1
      have q2 : decide (63 < e) = true := by simpa using g2
      clear g1 g2
      go_enter Try.func28, Try.ntmps28
      go_wp2
      go_ret
      exact ⟨re_int E.out.symm, HA.out.below⟩
    · obtain ⟨n, rfl⟩ := Int.eq_ofNat_of_zero_le (a := e) (by omega)
      by_cases h0 : t = 0
      · subst h0; exact r8_Passed0 b hb c n (by omega) w
      · by_cases h1 : t = 1
        · subst h1; exact r8_Passed1 b hb c n (by omega) w
        · have E := Lib.hid (pass_offN b t n h0 h1)
          have q1 : decide ((n : Int) < 0) = false := by simp
          have q2 : decide ((63 : Int) < (n : Int)) = false := by simp; omega
          have q3 : (t == 0) = false := by simpa using h0
          have q4 : (t == 1) = false := by simpa using h1
          clear h0 h1
          go_enter Try.func28, Try.ntmps28
          go_wp2
          go_ret
          exact ⟨re_int E.out.symm, HA.out.below⟩
end Go.Proofs.Ytibaembmdcdbkaa
