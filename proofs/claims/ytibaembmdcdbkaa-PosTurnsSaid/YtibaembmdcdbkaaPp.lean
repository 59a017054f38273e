import Derived.Test.YtibaembmdcdbkaaPt
import Derived.Deep.QuietTactic
namespace Go.Proofs.Ytibaembmdcdbkaa
open Go.RowKit Alf

/-! pos.Passed -/
def passB (b : List Int) (t e : Int) : Bool := decide (0 ≤ passI b t e)
def passS (b : List Int) (t e : Int) : Int := if 0 ≤ passI b t e then passI b t e else 0
theorem passRe {b : List Int} {t e : Int} (h : passI b t e = -1) : Ending.returned (.tuple #[.int .i64 0, .bool false]) = .returned (.tuple #[.int .i64 (passS b t e), .bool (passB b t e)]) := by
  unfold passS passB; rw [h]; rfl
theorem passYes {b : List Int} {t e : Int} {n : Nat} (h : passI b t e = (n : Int)) : Ending.returned (.tuple #[.int .i64 n, .bool true]) = .returned (.tuple #[.int .i64 (passS b t e), .bool (passB b t e)]) := by
  unfold passS passB; rw [h]; simp
theorem pos_ahead0 (t : Int) (ht : ¬ t = 1) (w : World) : Calls Try.prog 60 #[.int .i64 t] w fun e w' => e = .returned (.int .i64 1) ∧ w = w' :=
  (pos_ahead t w).mono fun e w' h => ⟨by rw [h.1]; unfold aheadI; rw [if_neg ht], h.2⟩
theorem pos_ahead1 (w : World) : Calls Try.prog 60 #[.int .i64 1] w fun e w' => e = .returned (.int .i64 (-1)) ∧ w = w' := pos_ahead 1 w
theorem sq_StepS (s df dr x : Int) (h : stepSq s df dr = some x) (w : World) : Calls Try.prog 59 #[.int .i64 s, .int .i64 df, .int .i64 dr] w fun e w' => e = .returned (.tuple #[.int .i64 x, .bool true]) ∧ w = w' :=
  (sq_Step s df dr w).mono fun e w' hh => ⟨by rw [hh.1, h]; rfl, hh.2⟩
theorem pass_offN (b : List Int) (t e : Int) (h0 : ¬ t = 0) (h1 : ¬ t = 1) : passI b t e = -1 := by
  unfold passI
  simp [h0, h1]
set_option maxHeartbeats 800000 in
set_option maxRecDepth 100000 in
theorem pos_PassedN (b : List Int) (hb : BOk b) (t c e : Int) (h0 : ¬ t = 0) (h1 : ¬ t = 1) (w : World) : Calls Try.prog 27 #[.agg (posC b t c e)] w fun x w' => x = .returned (.tuple #[.int .i64 (passS b t e), .bool (passB b t e)]) ∧ Below w.heap.size w w' := by
  have HA := Lib.hid (Lies.start w (posO b t c e))
  have HB := Lib.hid hb
  obtain ⟨hc1, hc2, hc3⟩ := lies_pos hb HA.out
  have E := Lib.hid (pass_offN b t e h0 h1)
  have HO := Lib.hid (show mOther t = -1 by unfold mOther; rw [if_neg (by omega)])
  have HN := Lib.hid h1
  have k1 : (t == 1) = false := by simpa using h1
  clear h0 h1 hb
  go_enter Try.func27, Try.ntmps27
  go_wp2_with fail
  go_quiet (first
    | (go_at_call 60; exact Calls.quiet_of_same ((pos_ahead0 _ HN.out _).mono fun e w' h => ⟨h.1, h.2.symm⟩))
    | (go_at_call 59; exact Calls.quiet_of_same ((sq_Step _ _ _ _).mono fun e w' h => ⟨h.1, h.2.symm⟩)))
  obtain ⟨wq, hwq⟩ : ∃ v, v = (w.alloc (posO b t c e)).drewN nq := ⟨_, rfl⟩
  rw [← hwq]
  have HA := Lib.hid (show Lies w (posO b t c e) wq by rw [hwq]; exact HA.out.step (Drawn_below _ _))
  clear hwq
  obtain ⟨hc1, hc2, hc3⟩ := lies_pos HB.out HA.out
  go_wp2_with fail
  go_quiet (first
    | (go_at_call 60; exact Calls.quiet_of_same ((pos_ahead0 _ HN.out _).mono fun e w' h => ⟨h.1, h.2.symm⟩))
    | (go_at_call 59; exact Calls.quiet_of_same ((sq_Step _ _ _ _).mono fun e w' h => ⟨h.1, h.2.symm⟩)))
  obtain ⟨wr, hwr⟩ : ∃ v, v = wq.drewN nq := ⟨_, rfl⟩
  rw [← hwr]
  have HA := Lib.hid (show Lies w (posO b t c e) wr by rw [hwr]; exact HA.out.step (Drawn_below _ _))
  clear hwr
  obtain ⟨hc1, hc2, hc3⟩ := lies_pos HB.out HA.out
  go_wp2_with (go_at_call 41; refine (men_Other _ _).mono ?_; rw [HO.out]; rintro x w1 ⟨rfl, rfl⟩)
  go_ret2
  exact ⟨passRe E.out, HA.out.below⟩

theorem pass_off0 (b : List Int) (e : Int) (h : sqR e = false ∨ ¬ e / 8 = 5) : passI b 0 e = -1 := by
  unfold passI
  rcases h with h | h
  · unfold sqR at h
    simp at h
    rw [if_pos (by omega)]
  · by_cases g : e < 0 ∨ 63 < e
    · rw [if_pos g]
    · rw [if_neg g, if_neg (by omega), if_neg (by omega)]
set_option maxHeartbeats 1600000 in
set_option maxRecDepth 100000 in
theorem pos_Passed0 (b : List Int) (hb : BOk b) (c e : Int) (w : World) : Calls Try.prog 27 #[.agg (posC b 0 c e)] w fun x w' => x = .returned (.tuple #[.int .i64 (passS b 0 e), .bool (passB b 0 e)]) ∧ Below w.heap.size w w' := by
  have HA := Lib.hid (Lies.start w (posO b 0 c e))
  have HB := Lib.hid hb
  obtain ⟨hc1, hc2, hc3⟩ := lies_pos HB.out HA.out
  have HO := Lib.hid (show mOther 0 = 1 by decide)
  have HM := Lib.hid (show mMake 1 1 = -1 by decide)
  clear hb
  cases q : sqR e
  · have E := Lib.hid (pass_off0 b e (.inl q))
    have HR := Lib.hid (show (if sqR e then e / 8 else -1) = -1 by rw [q]; rfl)
    go_enter Try.func27, Try.ntmps27
    go_wp2_with fail
    go_quiet (first
      | (go_at_call 60; exact Calls.quiet_of_same ((pos_ahead0 0 (by decide) _).mono fun e w' h => ⟨h.1, h.2.symm⟩))
      | (go_at_call 59; exact Calls.quiet_of_same ((sq_Step _ _ _ _).mono fun e w' h => ⟨h.1, h.2.symm⟩)))
    obtain ⟨wq, hwq⟩ : ∃ v, v = (w.alloc (posO b 0 c e)).drewN nq := ⟨_, rfl⟩
    rw [← hwq]
    have HA := Lib.hid (show Lies w (posO b 0 c e) wq by rw [hwq]; exact HA.out.step (Drawn_below _ _))
    clear hwq
    obtain ⟨hc1, hc2, hc3⟩ := lies_pos HB.out HA.out
    go_wp2_with fail
    go_quiet (first
      | (go_at_call 60; exact Calls.quiet_of_same ((pos_ahead0 0 (by decide) _).mono fun e w' h => ⟨h.1, h.2.symm⟩))
      | (go_at_call 59; exact Calls.quiet_of_same ((sq_Step _ _ _ _).mono fun e w' h => ⟨h.1, h.2.symm⟩)))
    obtain ⟨wr, hwr⟩ : ∃ v, v = wq.drewN nq := ⟨_, rfl⟩
    rw [← hwr]
    have HA := Lib.hid (show Lies w (posO b 0 c e) wr by rw [hwr]; exact HA.out.step (Drawn_below _ _))
    clear hwr
    obtain ⟨hc1, hc2, hc3⟩ := lies_pos HB.out HA.out
    go_wp2_with (first | (go_at_call 41; refine (men_Other _ _).mono ?_; rw [HO.out]; rintro x w1 ⟨rfl, rfl⟩) | (go_at_call 61; refine (sq_Rank _ _).mono ?_; rw [HR.out]; rintro x w1 ⟨rfl, rfl⟩))
    go_ret2
    exact ⟨passRe E.out, HA.out.below⟩
  · obtain ⟨n, rfl, hn⟩ := sqR_nat q
    have HR := Lib.hid (show (if sqR (n : Int) then (n : Int) / 8 else -1) = ((n / 8 : Nat) : Int) by rw [q]; simp)
    by_cases h8 : n / 8 = 5
    · have H8 := Lib.hid h8
      have HR2 := Lib.hid (show (if sqR (n : Int) then (n : Int) / 8 else -1) = 5 by rw [HR.out, h8]; rfl)
      have HP := Lib.hid (passI_nat b 0 n hn)
      have HS1 := Lib.hid (show stepSq (n : Int) 0 1 = some ((n + 8 : Nat) : Int) by unfold stepSq; rw [if_pos (by rw [q]; simp)]; unfold atSq; rw [if_pos (by unfold onB; simp; omega)]; simp; omega)
      have HS2 := Lib.hid (show stepSq (n : Int) 0 (-1) = some ((n - 8 : Nat) : Int) by unfold stepSq; rw [if_pos (by rw [q]; simp)]; unfold atSq; rw [if_pos (by unfold onB; simp; omega)]; simp; omega)
      have HSQ := Lib.hid (show ∀ W, Lies w (posO b 0 c n) W → W.cell? ⟨w.heap.size, n, none⟩ = some (.int .i8 (bd b (n : Int))) ∧ W.cell? ⟨w.heap.size, n + 8, none⟩ = some (.int .i8 (bd b ((n + 8 : Nat) : Int))) ∧ W.cell? ⟨w.heap.size, n - 8, none⟩ = some (.int .i8 (bd b ((n - 8 : Nat) : Int))) from fun W hW => ⟨lies_sq HB.out hW n hn, lies_sq HB.out hW (n + 8) (by omega), lies_sq HB.out hW (n - 8) (by omega)⟩)
      obtain ⟨z1, z2⟩ := bd_bounds b HB.out ((n - 8 : Nat) : Int)
      obtain ⟨z3, z4⟩ := bd_bounds b HB.out ((n + 8 : Nat) : Int)
      have hn1 : 8 ≤ n := by omega
      have hn2 : n + 8 < 64 := by omega
      clear h8
      generalize hx : bd b (n : Int) = x at *
      generalize hy : bd b ((n + 8 : Nat) : Int) = y at *
      generalize hz : bd b ((n - 8 : Nat) : Int) = z at *
      generalize hp : n + 8 = np at *
      generalize hm : n - 8 = nm at *
      have hm2 : nm < 64 := by omega
      clear hx hy hz hp hm
      by_cases k1 : x = 0
      · by_cases k2 : y = 0
        · by_cases k3 : z = -1
          · have P := Lib.hid (show passI b 0 n = ((nm : Nat) : Int) by rw [HP.out]; simp [k1, k2, k3, H8.out])
            have k1 : (x != 0) = false := by simpa using k1
            have k2 : (y != 0) = false := by simpa using k2
            have k3 : (z != -1) = false := by simpa using k3
            have E := P
            go_enter Try.func27, Try.ntmps27
            go_wp2_with fail
            go_quiet (first
              | (go_at_call 60; exact Calls.quiet_of_same ((pos_ahead0 0 (by decide) _).mono fun e w' h => ⟨h.1, h.2.symm⟩))
              | (go_at_call 59; exact Calls.quiet_of_same ((sq_StepS _ _ _ _ HS1.out _).mono fun e w' h => ⟨h.1, h.2.symm⟩)))
            obtain ⟨wq, hwq⟩ : ∃ v, v = (w.alloc (posO b 0 c n)).drewN nq := ⟨_, rfl⟩
            rw [← hwq]
            have HA := Lib.hid (show Lies w (posO b 0 c n) wq by rw [hwq]; exact HA.out.step (Drawn_below _ _))
            clear hwq
            obtain ⟨hc1, hc2, hc3⟩ := lies_pos HB.out HA.out
            obtain ⟨hs1, hs2, hs3⟩ := HSQ.out _ HA.out
            go_wp2_with fail
            go_quiet (first
              | (go_at_call 60; exact Calls.quiet_of_same ((pos_ahead0 0 (by decide) _).mono fun e w' h => ⟨h.1, h.2.symm⟩))
              | (go_at_call 59; exact Calls.quiet_of_same ((sq_StepS _ _ _ _ HS2.out _).mono fun e w' h => ⟨h.1, h.2.symm⟩)))
            obtain ⟨wr, hwr⟩ : ∃ v, v = wq.drewN nq := ⟨_, rfl⟩
            rw [← hwr]
            have HA := Lib.hid (show Lies w (posO b 0 c n) wr by rw [hwr]; exact HA.out.step (Drawn_below _ _))
            clear hwr
            obtain ⟨hc1, hc2, hc3⟩ := lies_pos HB.out HA.out
            obtain ⟨hs1, hs2, hs3⟩ := HSQ.out _ HA.out
            go_wp2_with (first | (go_at_call 41; refine (men_Other _ _).mono ?_; rw [HO.out]; rintro x w1 ⟨rfl, rfl⟩) | (go_at_call 61; refine (sq_Rank _ _).mono ?_; rw [HR2.out]; rintro x w1 ⟨rfl, rfl⟩))
            go_quiet (first | (go_at_call 41; exact Calls.quiet_of_same ((men_Other _ _).mono fun e w2 h => ⟨by rw [h.1, HO.out], h.2.symm⟩)) | (go_at_call 50; exact Calls.quiet_of_same ((men_Make _ _ _).mono fun e w2 h => ⟨by rw [h.1, HM.out], h.2.symm⟩)))
            go_wp2
            go_ret2
            exact ⟨passYes E.out, (HA.out.step (Drawn_below _ _)).below⟩
          · have E0 := Lib.hid (show passI b 0 n = -1 by rw [HP.out]; simp [k3])
            have k1 : (x != 0) = false := by simpa using k1
            have k2 : (y != 0) = false := by simpa using k2
            have k3 : (z != -1) = true := by simpa using k3
            have E := E0
            go_enter Try.func27, Try.ntmps27
            go_wp2_with fail
            go_quiet (first
              | (go_at_call 60; exact Calls.quiet_of_same ((pos_ahead0 0 (by decide) _).mono fun e w' h => ⟨h.1, h.2.symm⟩))
              | (go_at_call 59; exact Calls.quiet_of_same ((sq_StepS _ _ _ _ HS1.out _).mono fun e w' h => ⟨h.1, h.2.symm⟩)))
            obtain ⟨wq, hwq⟩ : ∃ v, v = (w.alloc (posO b 0 c n)).drewN nq := ⟨_, rfl⟩
            rw [← hwq]
            have HA := Lib.hid (show Lies w (posO b 0 c n) wq by rw [hwq]; exact HA.out.step (Drawn_below _ _))
            clear hwq
            obtain ⟨hc1, hc2, hc3⟩ := lies_pos HB.out HA.out
            obtain ⟨hs1, hs2, hs3⟩ := HSQ.out _ HA.out
            go_wp2_with fail
            go_quiet (first
              | (go_at_call 60; exact Calls.quiet_of_same ((pos_ahead0 0 (by decide) _).mono fun e w' h => ⟨h.1, h.2.symm⟩))
              | (go_at_call 59; exact Calls.quiet_of_same ((sq_StepS _ _ _ _ HS2.out _).mono fun e w' h => ⟨h.1, h.2.symm⟩)))
            obtain ⟨wr, hwr⟩ : ∃ v, v = wq.drewN nq := ⟨_, rfl⟩
            rw [← hwr]
            have HA := Lib.hid (show Lies w (posO b 0 c n) wr by rw [hwr]; exact HA.out.step (Drawn_below _ _))
            clear hwr
            obtain ⟨hc1, hc2, hc3⟩ := lies_pos HB.out HA.out
            obtain ⟨hs1, hs2, hs3⟩ := HSQ.out _ HA.out
            go_wp2_with (first | (go_at_call 41; refine (men_Other _ _).mono ?_; rw [HO.out]; rintro x w1 ⟨rfl, rfl⟩) | (go_at_call 61; refine (sq_Rank _ _).mono ?_; rw [HR2.out]; rintro x w1 ⟨rfl, rfl⟩))
            go_quiet (first | (go_at_call 41; exact Calls.quiet_of_same ((men_Other _ _).mono fun e w2 h => ⟨by rw [h.1, HO.out], h.2.symm⟩)) | (go_at_call 50; exact Calls.quiet_of_same ((men_Make _ _ _).mono fun e w2 h => ⟨by rw [h.1, HM.out], h.2.symm⟩)))
            go_wp2
            go_ret2
            exact ⟨passRe E.out, (HA.out.step (Drawn_below _ _)).below⟩
        · have E0 := Lib.hid (show passI b 0 n = -1 by rw [HP.out]; simp [k2])
          have k1 : (x != 0) = false := by simpa using k1
          have k2 : (y != 0) = true := by simpa using k2
          have E := E0
          go_enter Try.func27, Try.ntmps27
          go_wp2_with fail
          go_quiet (first
            | (go_at_call 60; exact Calls.quiet_of_same ((pos_ahead0 0 (by decide) _).mono fun e w' h => ⟨h.1, h.2.symm⟩))
            | (go_at_call 59; exact Calls.quiet_of_same ((sq_StepS _ _ _ _ HS1.out _).mono fun e w' h => ⟨h.1, h.2.symm⟩)))
          obtain ⟨wq, hwq⟩ : ∃ v, v = (w.alloc (posO b 0 c n)).drewN nq := ⟨_, rfl⟩
          rw [← hwq]
          have HA := Lib.hid (show Lies w (posO b 0 c n) wq by rw [hwq]; exact HA.out.step (Drawn_below _ _))
          clear hwq
          obtain ⟨hc1, hc2, hc3⟩ := lies_pos HB.out HA.out
          obtain ⟨hs1, hs2, hs3⟩ := HSQ.out _ HA.out
          go_wp2_with fail
          go_quiet (first
            | (go_at_call 60; exact Calls.quiet_of_same ((pos_ahead0 0 (by decide) _).mono fun e w' h => ⟨h.1, h.2.symm⟩))
            | (go_at_call 59; exact Calls.quiet_of_same ((sq_StepS _ _ _ _ HS2.out _).mono fun e w' h => ⟨h.1, h.2.symm⟩)))
          obtain ⟨wr, hwr⟩ : ∃ v, v = wq.drewN nq := ⟨_, rfl⟩
          rw [← hwr]
          have HA := Lib.hid (show Lies w (posO b 0 c n) wr by rw [hwr]; exact HA.out.step (Drawn_below _ _))
          clear hwr
          obtain ⟨hc1, hc2, hc3⟩ := lies_pos HB.out HA.out
          obtain ⟨hs1, hs2, hs3⟩ := HSQ.out _ HA.out
          go_wp2_with (first | (go_at_call 41; refine (men_Other _ _).mono ?_; rw [HO.out]; rintro x w1 ⟨rfl, rfl⟩) | (go_at_call 61; refine (sq_Rank _ _).mono ?_; rw [HR2.out]; rintro x w1 ⟨rfl, rfl⟩))
          go_quiet (first | (go_at_call 41; exact Calls.quiet_of_same ((men_Other _ _).mono fun e w2 h => ⟨by rw [h.1, HO.out], h.2.symm⟩)) | (go_at_call 50; exact Calls.quiet_of_same ((men_Make _ _ _).mono fun e w2 h => ⟨by rw [h.1, HM.out], h.2.symm⟩)))
          go_wp2
          go_ret2
          exact ⟨passRe E.out, (HA.out.step (Drawn_below _ _)).below⟩
      · have E0 := Lib.hid (show passI b 0 n = -1 by rw [HP.out]; simp [k1])
        have k1 : (x != 0) = true := by simpa using k1
        have E := E0
        go_enter Try.func27, Try.ntmps27
        go_wp2_with fail
        go_quiet (first
          | (go_at_call 60; exact Calls.quiet_of_same ((pos_ahead0 0 (by decide) _).mono fun e w' h => ⟨h.1, h.2.symm⟩))
          | (go_at_call 59; exact Calls.quiet_of_same ((sq_StepS _ _ _ _ HS1.out _).mono fun e w' h => ⟨h.1, h.2.symm⟩)))
        obtain ⟨wq, hwq⟩ : ∃ v, v = (w.alloc (posO b 0 c n)).drewN nq := ⟨_, rfl⟩
        rw [← hwq]
        have HA := Lib.hid (show Lies w (posO b 0 c n) wq by rw [hwq]; exact HA.out.step (Drawn_below _ _))
        clear hwq
        obtain ⟨hc1, hc2, hc3⟩ := lies_pos HB.out HA.out
        obtain ⟨hs1, hs2, hs3⟩ := HSQ.out _ HA.out
        go_wp2_with fail
        go_quiet (first
          | (go_at_call 60; exact Calls.quiet_of_same ((pos_ahead0 0 (by decide) _).mono fun e w' h => ⟨h.1, h.2.symm⟩))
          | (go_at_call 59; exact Calls.quiet_of_same ((sq_StepS _ _ _ _ HS2.out _).mono fun e w' h => ⟨h.1, h.2.symm⟩)))
        obtain ⟨wr, hwr⟩ : ∃ v, v = wq.drewN nq := ⟨_, rfl⟩
        rw [← hwr]
        have HA := Lib.hid (show Lies w (posO b 0 c n) wr by rw [hwr]; exact HA.out.step (Drawn_below _ _))
        clear hwr
        obtain ⟨hc1, hc2, hc3⟩ := lies_pos HB.out HA.out
        obtain ⟨hs1, hs2, hs3⟩ := HSQ.out _ HA.out
        go_wp2_with (first | (go_at_call 41; refine (men_Other _ _).mono ?_; rw [HO.out]; rintro x w1 ⟨rfl, rfl⟩) | (go_at_call 61; refine (sq_Rank _ _).mono ?_; rw [HR2.out]; rintro x w1 ⟨rfl, rfl⟩))
        go_quiet (first | (go_at_call 41; exact Calls.quiet_of_same ((men_Other _ _).mono fun e w2 h => ⟨by rw [h.1, HO.out], h.2.symm⟩)) | (go_at_call 50; exact Calls.quiet_of_same ((men_Make _ _ _).mono fun e w2 h => ⟨by rw [h.1, HM.out], h.2.symm⟩)))
        go_wp2
        go_ret2
        exact ⟨passRe E.out, (HA.out.step (Drawn_below _ _)).below⟩
    · have E := Lib.hid (pass_off0 b n (.inr (by omega)))
      have r8 : (((n / 8 : Nat) : Int) != 5) = true := by simp; omega
      clear h8
      generalize n / 8 = kr at *
      go_enter Try.func27, Try.ntmps27
      go_wp2_with fail
      go_quiet (first
        | (go_at_call 60; exact Calls.quiet_of_same ((pos_ahead0 0 (by decide) _).mono fun e w' h => ⟨h.1, h.2.symm⟩))
        | (go_at_call 59; exact Calls.quiet_of_same ((sq_Step _ _ _ _).mono fun e w' h => ⟨h.1, h.2.symm⟩)))
      obtain ⟨wq, hwq⟩ : ∃ v, v = (w.alloc (posO b 0 c n)).drewN nq := ⟨_, rfl⟩
      rw [← hwq]
      have HA := Lib.hid (show Lies w (posO b 0 c n) wq by rw [hwq]; exact HA.out.step (Drawn_below _ _))
      clear hwq
      obtain ⟨hc1, hc2, hc3⟩ := lies_pos HB.out HA.out
      go_wp2_with fail
      go_quiet (first
        | (go_at_call 60; exact Calls.quiet_of_same ((pos_ahead0 0 (by decide) _).mono fun e w' h => ⟨h.1, h.2.symm⟩))
        | (go_at_call 59; exact Calls.quiet_of_same ((sq_Step _ _ _ _).mono fun e w' h => ⟨h.1, h.2.symm⟩)))
      obtain ⟨wr, hwr⟩ : ∃ v, v = wq.drewN nq := ⟨_, rfl⟩
      rw [← hwr]
      have HA := Lib.hid (show Lies w (posO b 0 c n) wr by rw [hwr]; exact HA.out.step (Drawn_below _ _))
      clear hwr
      obtain ⟨hc1, hc2, hc3⟩ := lies_pos HB.out HA.out
      go_wp2_with (first | (go_at_call 41; refine (men_Other _ _).mono ?_; rw [HO.out]; rintro x w1 ⟨rfl, rfl⟩) | (go_at_call 61; refine (sq_Rank _ _).mono ?_; rw [HR.out]; rintro x w1 ⟨rfl, rfl⟩))
      go_ret2
      exact ⟨passRe E.out, HA.out.below⟩

theorem pass_off1 (b : List Int) (e : Int) (h : sqR e = false ∨ ¬ e / 8 = 2) : passI b 1 e = -1 := by
  unfold passI
  rcases h with h | h
  · unfold sqR at h
    simp at h
    rw [if_pos (by omega)]
  · by_cases g : e < 0 ∨ 63 < e
    · rw [if_pos g]
    · rw [if_neg g, if_neg (by omega), if_neg (by omega)]
set_option maxHeartbeats 1600000 in
set_option maxRecDepth 100000 in
theorem pos_Passed1 (b : List Int) (hb : BOk b) (c e : Int) (w : World) : Calls Try.prog 27 #[.agg (posC b 1 c e)] w fun x w' => x = .returned (.tuple #[.int .i64 (passS b 1 e), .bool (passB b 1 e)]) ∧ Below w.heap.size w w' := by
  have HA := Lib.hid (Lies.start w (posO b 1 c e))
  have HB := Lib.hid hb
  obtain ⟨hc1, hc2, hc3⟩ := lies_pos HB.out HA.out
  have HO := Lib.hid (show mOther 1 = 0 by decide)
  have HM := Lib.hid (show mMake 1 0 = 1 by decide)
  clear hb
  cases q : sqR e
  · have E := Lib.hid (pass_off1 b e (.inl q))
    have HR := Lib.hid (show (if sqR e then e / 8 else -1) = -1 by rw [q]; rfl)
    go_enter Try.func27, Try.ntmps27
    go_wp2_with fail
    go_quiet (first
      | (go_at_call 60; exact Calls.quiet_of_same ((pos_ahead1 _).mono fun e w' h => ⟨h.1, h.2.symm⟩))
      | (go_at_call 59; exact Calls.quiet_of_same ((sq_Step _ _ _ _).mono fun e w' h => ⟨h.1, h.2.symm⟩)))
    obtain ⟨wq, hwq⟩ : ∃ v, v = (w.alloc (posO b 1 c e)).drewN nq := ⟨_, rfl⟩
    rw [← hwq]
    have HA := Lib.hid (show Lies w (posO b 1 c e) wq by rw [hwq]; exact HA.out.step (Drawn_below _ _))
    clear hwq
    obtain ⟨hc1, hc2, hc3⟩ := lies_pos HB.out HA.out
    go_wp2_with fail
    go_quiet (first
      | (go_at_call 60; exact Calls.quiet_of_same ((pos_ahead1 _).mono fun e w' h => ⟨h.1, h.2.symm⟩))
      | (go_at_call 59; exact Calls.quiet_of_same ((sq_Step _ _ _ _).mono fun e w' h => ⟨h.1, h.2.symm⟩)))
    obtain ⟨wr, hwr⟩ : ∃ v, v = wq.drewN nq := ⟨_, rfl⟩
    rw [← hwr]
    have HA := Lib.hid (show Lies w (posO b 1 c e) wr by rw [hwr]; exact HA.out.step (Drawn_below _ _))
    clear hwr
    obtain ⟨hc1, hc2, hc3⟩ := lies_pos HB.out HA.out
    go_wp2_with (first | (go_at_call 41; refine (men_Other _ _).mono ?_; rw [HO.out]; rintro x w1 ⟨rfl, rfl⟩) | (go_at_call 61; refine (sq_Rank _ _).mono ?_; rw [HR.out]; rintro x w1 ⟨rfl, rfl⟩))
    go_ret2
    exact ⟨passRe E.out, HA.out.below⟩
  · obtain ⟨n, rfl, hn⟩ := sqR_nat q
    have HR := Lib.hid (show (if sqR (n : Int) then (n : Int) / 8 else -1) = ((n / 8 : Nat) : Int) by rw [q]; simp)
    by_cases h8 : n / 8 = 2
    · have H8 := Lib.hid h8
      have HR2 := Lib.hid (show (if sqR (n : Int) then (n : Int) / 8 else -1) = 2 by rw [HR.out, h8]; rfl)
      have HP := Lib.hid (passI_nat b 1 n hn)
      have HS1 := Lib.hid (show stepSq (n : Int) 0 1 = some ((n + 8 : Nat) : Int) by unfold stepSq; rw [if_pos (by rw [q]; simp)]; unfold atSq; rw [if_pos (by unfold onB; simp; omega)]; simp; omega)
      have HS2 := Lib.hid (show stepSq (n : Int) 0 (-1) = some ((n - 8 : Nat) : Int) by unfold stepSq; rw [if_pos (by rw [q]; simp)]; unfold atSq; rw [if_pos (by unfold onB; simp; omega)]; simp; omega)
      have HSQ := Lib.hid (show ∀ W, Lies w (posO b 1 c n) W → W.cell? ⟨w.heap.size, n, none⟩ = some (.int .i8 (bd b (n : Int))) ∧ W.cell? ⟨w.heap.size, n + 8, none⟩ = some (.int .i8 (bd b ((n + 8 : Nat) : Int))) ∧ W.cell? ⟨w.heap.size, n - 8, none⟩ = some (.int .i8 (bd b ((n - 8 : Nat) : Int))) from fun W hW => ⟨lies_sq HB.out hW n hn, lies_sq HB.out hW (n + 8) (by omega), lies_sq HB.out hW (n - 8) (by omega)⟩)
      obtain ⟨z1, z2⟩ := bd_bounds b HB.out ((n - 8 : Nat) : Int)
      obtain ⟨z3, z4⟩ := bd_bounds b HB.out ((n + 8 : Nat) : Int)
      have hn1 : 8 ≤ n := by omega
      have hn2 : n + 8 < 64 := by omega
      clear h8
      generalize hx : bd b (n : Int) = x at *
      generalize hy : bd b ((n - 8 : Nat) : Int) = y at *
      generalize hz : bd b ((n + 8 : Nat) : Int) = z at *
      generalize hp : n + 8 = np at *
      generalize hm : n - 8 = nm at *
      have hm2 : nm < 64 := by omega
      clear hx hy hz hp hm
      by_cases k1 : x = 0
      · by_cases k2 : y = 0
        · by_cases k3 : z = 1
          · have P := Lib.hid (show passI b 1 n = ((np : Nat) : Int) by rw [HP.out]; simp [k1, k2, k3, H8.out])
            have k1 : (x != 0) = false := by simpa using k1
            have k2 : (y != 0) = false := by simpa using k2
            have k3 : (z != 1) = false := by simpa using k3
            have E := P
            go_enter Try.func27, Try.ntmps27
            go_wp2_with fail
            go_quiet (first
              | (go_at_call 60; exact Calls.quiet_of_same ((pos_ahead1 _).mono fun e w' h => ⟨h.1, h.2.symm⟩))
              | (go_at_call 59; exact Calls.quiet_of_same ((sq_StepS _ _ _ _ HS2.out _).mono fun e w' h => ⟨h.1, h.2.symm⟩)))
            obtain ⟨wq, hwq⟩ : ∃ v, v = (w.alloc (posO b 1 c n)).drewN nq := ⟨_, rfl⟩
            rw [← hwq]
            have HA := Lib.hid (show Lies w (posO b 1 c n) wq by rw [hwq]; exact HA.out.step (Drawn_below _ _))
            clear hwq
            obtain ⟨hc1, hc2, hc3⟩ := lies_pos HB.out HA.out
            obtain ⟨hs1, hs2, hs3⟩ := HSQ.out _ HA.out
            go_wp2_with fail
            go_quiet (first
              | (go_at_call 60; exact Calls.quiet_of_same ((pos_ahead1 _).mono fun e w' h => ⟨h.1, h.2.symm⟩))
              | (go_at_call 59; exact Calls.quiet_of_same ((sq_StepS _ _ _ _ HS1.out _).mono fun e w' h => ⟨h.1, h.2.symm⟩)))
            obtain ⟨wr, hwr⟩ : ∃ v, v = wq.drewN nq := ⟨_, rfl⟩
            rw [← hwr]
            have HA := Lib.hid (show Lies w (posO b 1 c n) wr by rw [hwr]; exact HA.out.step (Drawn_below _ _))
            clear hwr
            obtain ⟨hc1, hc2, hc3⟩ := lies_pos HB.out HA.out
            obtain ⟨hs1, hs2, hs3⟩ := HSQ.out _ HA.out
            go_wp2_with (first | (go_at_call 41; refine (men_Other _ _).mono ?_; rw [HO.out]; rintro x w1 ⟨rfl, rfl⟩) | (go_at_call 61; refine (sq_Rank _ _).mono ?_; rw [HR2.out]; rintro x w1 ⟨rfl, rfl⟩))
            go_quiet (first | (go_at_call 41; exact Calls.quiet_of_same ((men_Other _ _).mono fun e w2 h => ⟨by rw [h.1, HO.out], h.2.symm⟩)) | (go_at_call 50; exact Calls.quiet_of_same ((men_Make _ _ _).mono fun e w2 h => ⟨by rw [h.1, HM.out], h.2.symm⟩)))
            go_wp2
            go_ret2
            exact ⟨passYes E.out, (HA.out.step (Drawn_below _ _)).below⟩
          · have E0 := Lib.hid (show passI b 1 n = -1 by rw [HP.out]; simp [k3])
            have k1 : (x != 0) = false := by simpa using k1
            have k2 : (y != 0) = false := by simpa using k2
            have k3 : (z != 1) = true := by simpa using k3
            have E := E0
            go_enter Try.func27, Try.ntmps27
            go_wp2_with fail
            go_quiet (first
              | (go_at_call 60; exact Calls.quiet_of_same ((pos_ahead1 _).mono fun e w' h => ⟨h.1, h.2.symm⟩))
              | (go_at_call 59; exact Calls.quiet_of_same ((sq_StepS _ _ _ _ HS2.out _).mono fun e w' h => ⟨h.1, h.2.symm⟩)))
            obtain ⟨wq, hwq⟩ : ∃ v, v = (w.alloc (posO b 1 c n)).drewN nq := ⟨_, rfl⟩
            rw [← hwq]
            have HA := Lib.hid (show Lies w (posO b 1 c n) wq by rw [hwq]; exact HA.out.step (Drawn_below _ _))
            clear hwq
            obtain ⟨hc1, hc2, hc3⟩ := lies_pos HB.out HA.out
            obtain ⟨hs1, hs2, hs3⟩ := HSQ.out _ HA.out
            go_wp2_with fail
            go_quiet (first
              | (go_at_call 60; exact Calls.quiet_of_same ((pos_ahead1 _).mono fun e w' h => ⟨h.1, h.2.symm⟩))
              | (go_at_call 59; exact Calls.quiet_of_same ((sq_StepS _ _ _ _ HS1.out _).mono fun e w' h => ⟨h.1, h.2.symm⟩)))
            obtain ⟨wr, hwr⟩ : ∃ v, v = wq.drewN nq := ⟨_, rfl⟩
            rw [← hwr]
            have HA := Lib.hid (show Lies w (posO b 1 c n) wr by rw [hwr]; exact HA.out.step (Drawn_below _ _))
            clear hwr
            obtain ⟨hc1, hc2, hc3⟩ := lies_pos HB.out HA.out
            obtain ⟨hs1, hs2, hs3⟩ := HSQ.out _ HA.out
            go_wp2_with (first | (go_at_call 41; refine (men_Other _ _).mono ?_; rw [HO.out]; rintro x w1 ⟨rfl, rfl⟩) | (go_at_call 61; refine (sq_Rank _ _).mono ?_; rw [HR2.out]; rintro x w1 ⟨rfl, rfl⟩))
            go_quiet (first | (go_at_call 41; exact Calls.quiet_of_same ((men_Other _ _).mono fun e w2 h => ⟨by rw [h.1, HO.out], h.2.symm⟩)) | (go_at_call 50; exact Calls.quiet_of_same ((men_Make _ _ _).mono fun e w2 h => ⟨by rw [h.1, HM.out], h.2.symm⟩)))
            go_wp2
            go_ret2
            exact ⟨passRe E.out, (HA.out.step (Drawn_below _ _)).below⟩
        · have E0 := Lib.hid (show passI b 1 n = -1 by rw [HP.out]; simp [k2])
          have k1 : (x != 0) = false := by simpa using k1
          have k2 : (y != 0) = true := by simpa using k2
          have E := E0
          go_enter Try.func27, Try.ntmps27
          go_wp2_with fail
          go_quiet (first
            | (go_at_call 60; exact Calls.quiet_of_same ((pos_ahead1 _).mono fun e w' h => ⟨h.1, h.2.symm⟩))
            | (go_at_call 59; exact Calls.quiet_of_same ((sq_StepS _ _ _ _ HS2.out _).mono fun e w' h => ⟨h.1, h.2.symm⟩)))
          obtain ⟨wq, hwq⟩ : ∃ v, v = (w.alloc (posO b 1 c n)).drewN nq := ⟨_, rfl⟩
          rw [← hwq]
          have HA := Lib.hid (show Lies w (posO b 1 c n) wq by rw [hwq]; exact HA.out.step (Drawn_below _ _))
          clear hwq
          obtain ⟨hc1, hc2, hc3⟩ := lies_pos HB.out HA.out
          obtain ⟨hs1, hs2, hs3⟩ := HSQ.out _ HA.out
          go_wp2_with fail
          go_quiet (first
            | (go_at_call 60; exact Calls.quiet_of_same ((pos_ahead1 _).mono fun e w' h => ⟨h.1, h.2.symm⟩))
            | (go_at_call 59; exact Calls.quiet_of_same ((sq_StepS _ _ _ _ HS1.out _).mono fun e w' h => ⟨h.1, h.2.symm⟩)))
          obtain ⟨wr, hwr⟩ : ∃ v, v = wq.drewN nq := ⟨_, rfl⟩
          rw [← hwr]
          have HA := Lib.hid (show Lies w (posO b 1 c n) wr by rw [hwr]; exact HA.out.step (Drawn_below _ _))
          clear hwr
          obtain ⟨hc1, hc2, hc3⟩ := lies_pos HB.out HA.out
          obtain ⟨hs1, hs2, hs3⟩ := HSQ.out _ HA.out
          go_wp2_with (first | (go_at_call 41; refine (men_Other _ _).mono ?_; rw [HO.out]; rintro x w1 ⟨rfl, rfl⟩) | (go_at_call 61; refine (sq_Rank _ _).mono ?_; rw [HR2.out]; rintro x w1 ⟨rfl, rfl⟩))
          go_quiet (first | (go_at_call 41; exact Calls.quiet_of_same ((men_Other _ _).mono fun e w2 h => ⟨by rw [h.1, HO.out], h.2.symm⟩)) | (go_at_call 50; exact Calls.quiet_of_same ((men_Make _ _ _).mono fun e w2 h => ⟨by rw [h.1, HM.out], h.2.symm⟩)))
          go_wp2
          go_ret2
          exact ⟨passRe E.out, (HA.out.step (Drawn_below _ _)).below⟩
      · have E0 := Lib.hid (show passI b 1 n = -1 by rw [HP.out]; simp [k1])
        have k1 : (x != 0) = true := by simpa using k1
        have E := E0
        go_enter Try.func27, Try.ntmps27
        go_wp2_with fail
        go_quiet (first
          | (go_at_call 60; exact Calls.quiet_of_same ((pos_ahead1 _).mono fun e w' h => ⟨h.1, h.2.symm⟩))
          | (go_at_call 59; exact Calls.quiet_of_same ((sq_StepS _ _ _ _ HS2.out _).mono fun e w' h => ⟨h.1, h.2.symm⟩)))
        obtain ⟨wq, hwq⟩ : ∃ v, v = (w.alloc (posO b 1 c n)).drewN nq := ⟨_, rfl⟩
        rw [← hwq]
        have HA := Lib.hid (show Lies w (posO b 1 c n) wq by rw [hwq]; exact HA.out.step (Drawn_below _ _))
        clear hwq
        obtain ⟨hc1, hc2, hc3⟩ := lies_pos HB.out HA.out
        obtain ⟨hs1, hs2, hs3⟩ := HSQ.out _ HA.out
        go_wp2_with fail
        go_quiet (first
          | (go_at_call 60; exact Calls.quiet_of_same ((pos_ahead1 _).mono fun e w' h => ⟨h.1, h.2.symm⟩))
          | (go_at_call 59; exact Calls.quiet_of_same ((sq_StepS _ _ _ _ HS1.out _).mono fun e w' h => ⟨h.1, h.2.symm⟩)))
        obtain ⟨wr, hwr⟩ : ∃ v, v = wq.drewN nq := ⟨_, rfl⟩
        rw [← hwr]
        have HA := Lib.hid (show Lies w (posO b 1 c n) wr by rw [hwr]; exact HA.out.step (Drawn_below _ _))
        clear hwr
        obtain ⟨hc1, hc2, hc3⟩ := lies_pos HB.out HA.out
        obtain ⟨hs1, hs2, hs3⟩ := HSQ.out _ HA.out
        go_wp2_with (first | (go_at_call 41; refine (men_Other _ _).mono ?_; rw [HO.out]; rintro x w1 ⟨rfl, rfl⟩) | (go_at_call 61; refine (sq_Rank _ _).mono ?_; rw [HR2.out]; rintro x w1 ⟨rfl, rfl⟩))
        go_quiet (first | (go_at_call 41; exact Calls.quiet_of_same ((men_Other _ _).mono fun e w2 h => ⟨by rw [h.1, HO.out], h.2.symm⟩)) | (go_at_call 50; exact Calls.quiet_of_same ((men_Make _ _ _).mono fun e w2 h => ⟨by rw [h.1, HM.out], h.2.symm⟩)))
        go_wp2
        go_ret2
        exact ⟨passRe E.out, (HA.out.step (Drawn_below _ _)).below⟩
    · have E := Lib.hid (pass_off1 b n (.inr (by omega)))
      have r8 : (((n / 8 : Nat) : Int) != 2) = true := by simp; omega
      clear h8
      generalize n / 8 = kr at *
      go_enter Try.func27, Try.ntmps27
      go_wp2_with fail
      go_quiet (first
        | (go_at_call 60; exact Calls.quiet_of_same ((pos_ahead1 _).mono fun e w' h => ⟨h.1, h.2.symm⟩))
        | (go_at_call 59; exact Calls.quiet_of_same ((sq_Step _ _ _ _).mono fun e w' h => ⟨h.1, h.2.symm⟩)))
      obtain ⟨wq, hwq⟩ : ∃ v, v = (w.alloc (posO b 1 c n)).drewN nq := ⟨_, rfl⟩
      rw [← hwq]
      have HA := Lib.hid (show Lies w (posO b 1 c n) wq by rw [hwq]; exact HA.out.step (Drawn_below _ _))
      clear hwq
      obtain ⟨hc1, hc2, hc3⟩ := lies_pos HB.out HA.out
      go_wp2_with fail
      go_quiet (first
        | (go_at_call 60; exact Calls.quiet_of_same ((pos_ahead1 _).mono fun e w' h => ⟨h.1, h.2.symm⟩))
        | (go_at_call 59; exact Calls.quiet_of_same ((sq_Step _ _ _ _).mono fun e w' h => ⟨h.1, h.2.symm⟩)))
      obtain ⟨wr, hwr⟩ : ∃ v, v = wq.drewN nq := ⟨_, rfl⟩
      rw [← hwr]
      have HA := Lib.hid (show Lies w (posO b 1 c n) wr by rw [hwr]; exact HA.out.step (Drawn_below _ _))
      clear hwr
      obtain ⟨hc1, hc2, hc3⟩ := lies_pos HB.out HA.out
      go_wp2_with (first | (go_at_call 41; refine (men_Other _ _).mono ?_; rw [HO.out]; rintro x w1 ⟨rfl, rfl⟩) | (go_at_call 61; refine (sq_Rank _ _).mono ?_; rw [HR.out]; rintro x w1 ⟨rfl, rfl⟩))
      go_ret2
      exact ⟨passRe E.out, HA.out.below⟩

theorem pos_Passed (b : List Int) (hb : BOk b) (t c e : Int) (w : World) : Calls Try.prog 27 #[.agg (posC b t c e)] w fun x w' => x = .returned (.tuple #[.int .i64 (passS b t e), .bool (passB b t e)]) ∧ Below w.heap.size w w' := by
  by_cases h0 : t = 0
  · subst h0; exact pos_Passed0 b hb c e w
  · by_cases h1 : t = 1
    · subst h1; exact pos_Passed1 b hb c e w
    · exact pos_PassedN b hb t c e h0 h1 w
end Go.Proofs.Ytibaembmdcdbkaa
