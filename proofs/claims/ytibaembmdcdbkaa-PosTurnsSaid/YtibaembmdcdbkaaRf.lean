import Derived.Test.YtibaembmdcdbkaaSp
namespace Go.Proofs.Ytibaembmdcdbkaa
open Go.RowKit Alf

/-! the references' steps and rays -/
theorem r_FileN (m : Int) (h : sqR m = true) (w : World) : Calls Try.prog 73 #[.int .i64 m] w fun e w' => e = .returned (.int .i64 (m % 8)) ∧ w = w' :=
  (r_File m w).mono fun e w' ⟨h1, h2⟩ => ⟨by rw [h1, if_pos h], h2⟩
theorem r_RankN (m : Int) (h : sqR m = true) (w : World) : Calls Try.prog 62 #[.int .i64 m] w fun e w' => e = .returned (.int .i64 (m / 8)) ∧ w = w' :=
  (r_Rank m w).mono fun e w' ⟨h1, h2⟩ => ⟨by rw [h1, if_pos h], h2⟩
def rStep (s df dr : Int) : Int := match stepSq s df dr with
  | some t => t
  | none => -1
theorem sqR_of {k : Int} (h0 : 0 ≤ k) (h : k < 64) : sqR k = true := by unfold sqR; simp; omega
theorem stepSq_is {s df dr k : Int} (hs : 0 ≤ s ∧ s < 64) (hk : 0 ≤ k ∧ k < 64) (e1 : k % 8 - s % 8 = df) (e2 : k / 8 - s / 8 = dr) : stepSq s df dr = some k := by
  unfold stepSq
  rw [if_pos (by rw [sqR_of hs.1 hs.2]; simp; omega)]
  unfold atSq onB
  rw [if_pos (by simp; omega)]
  congr 1
  omega
theorem stepSq_inv {s df dr k : Int} (h : stepSq s df dr = some k) : (0 ≤ s ∧ s < 64) ∧ (0 ≤ k ∧ k < 64) ∧ k % 8 - s % 8 = df ∧ k / 8 - s / 8 = dr := by
  unfold stepSq at h
  split at h
  · rename_i g
    unfold sqR at g
    simp at g
    unfold atSq onB at h
    split at h
    · rename_i g2
      simp at g2 h
      omega
    · cases h
  · cases h

set_option maxHeartbeats 400000 in
set_option maxRecDepth 100000 in
theorem r_Step (s df dr : Int) (w : World) : Calls Try.prog 115 #[.int .i64 s, .int .i64 df, .int .i64 dr] w fun e w' => e = .returned (.int .i64 (rStep s df dr)) ∧ w = w' := by
  cases q : sqR s
  · have E := Lib.hid (show rStep s df dr = -1 by unfold rStep stepSq; rw [q]; simp)
    go_enter Try.func115, Try.ntmps115
    go_wp2_with (go_at_call 87; refine (r_Right _ _).mono ?_; rintro e w' ⟨rfl, rfl⟩)
    go_ret
    exact ⟨re_int E.out.symm, rfl⟩
  · have h0 : 0 ≤ s ∧ s < 64 := by unfold sqR at q; simpa using q
    have g1 := h0.1
    have g2 := h0.2
    have HS := Lib.hid h0
    clear h0
    go_enter Try.func115, Try.ntmps115
    go_wp2_with (go_at_call 87; refine (r_Right _ _).mono ?_; rintro e w' ⟨rfl, rfl⟩)
    go_loop [7] (fun i => ∃ k : Nat, k ≤ 64 ∧ i = .int .i64 k ∧ ∀ j : Nat, j < k → stepSq s df dr ≠ some (j : Int)) (fun i => 64 - (intOf i).toNat)
    case atStart => exact ⟨0, by omega, rfl, fun j h => by omega⟩
    case round =>
      obtain ⟨k, h64, rfl, hno⟩ := hrel
      have H := Lib.hid hno
      clear hno
      by_cases q0 : k < 64
      · have q3 : sqR (k : Int) = true := sqR_of (by omega) (by omega)
        have q4 : sqR s = true := q
        by_cases e1 : (k : Int) % 8 - s % 8 = df
        · have b1 : (((k : Int) % 8 - s % 8) == df) = true := by simpa using e1
          by_cases e2 : (k : Int) / 8 - s / 8 = dr
          · have b2 : (((k : Int) / 8 - s / 8) == dr) = true := by simpa using e2
            have E := Lib.hid (show rStep s df dr = k by unfold rStep; rw [stepSq_is HS.out ⟨by omega, by omega⟩ e1 e2])
            clear e1 e2
            go_wp2_with (first | (go_at_call 73; refine (r_FileN _ (by assumption) _).mono ?_; rintro e w' ⟨rfl, rfl⟩) | (go_at_call 62; refine (r_RankN _ (by assumption) _).mono ?_; rintro e w' ⟨rfl, rfl⟩))
            go_ret
            exact ⟨re_int E.out.symm, rfl⟩
          · have b2 : (((k : Int) / 8 - s / 8) == dr) = false := by simpa using e2
            have E := Lib.hid (show stepSq s df dr ≠ some (k : Int) from fun h => e2 (stepSq_inv h).2.2.2)
            clear e1 e2
            go_wp2_with (first | (go_at_call 73; refine (r_FileN _ (by assumption) _).mono ?_; rintro e w' ⟨rfl, rfl⟩) | (go_at_call 62; refine (r_RankN _ (by assumption) _).mono ?_; rintro e w' ⟨rfl, rfl⟩))
            go_round
            case rel => exact ⟨k + 1, by omega, by go_num, fun j h => by
              by_cases e : j = k
              · subst e; exact E.out
              · exact H.out j (by omega)⟩
            case measure => simp [intOf]; omega
        · have b1 : (((k : Int) % 8 - s % 8) == df) = false := by simpa using e1
          have E := Lib.hid (show stepSq s df dr ≠ some (k : Int) from fun h => e1 (stepSq_inv h).2.2.1)
          clear e1
          go_wp2_with (first | (go_at_call 73; refine (r_FileN _ (by assumption) _).mono ?_; rintro e w' ⟨rfl, rfl⟩) | (go_at_call 62; refine (r_RankN _ (by assumption) _).mono ?_; rintro e w' ⟨rfl, rfl⟩))
          go_round
          case rel => exact ⟨k + 1, by omega, by go_num, fun j h => by
            by_cases e : j = k
            · subst e; exact E.out
            · exact H.out j (by omega)⟩
          case measure => simp [intOf]; omega
      · obtain rfl : k = 64 := by omega
        have E := Lib.hid (show rStep s df dr = -1 by
          unfold rStep
          split
          · rename_i t ht
            obtain ⟨_, h2, _⟩ := stepSq_inv ht
            have := H.out t.toNat (by omega)
            rw [Int.toNat_of_nonneg h2.1] at this
            exact absurd ht this
          · rfl)
        go_wp2
        go_ret
        exact ⟨re_int E.out.symm, rfl⟩

theorem r_Slides (m : Int) (w : World) : Calls Try.prog 105 #[.int .i64 m] w fun e w' => e = .returned (.bool (slidesR m)) ∧ w = w' := by
  have kb := mKind_bd m
  go_enter Try.func105, Try.ntmps105
  go_wp2_with (go_at_call 81; refine (r_Kind _ _).mono ?_; rintro e w' ⟨rfl, rfl⟩)
  all_goals go_ret
  all_goals exact ⟨re_bool (by unfold slidesR; simp [*]), rfl⟩

theorem allD_ne : ∀ d ∈ allD, ¬ (d.1 = 0 ∧ d.2 = 0) := by decide
theorem walkL_succ (n : Nat) (s df dr : Int) (h : ¬ (df = 0 ∧ dr = 0)) : walkL (n + 1) s df dr = match stepSq s df dr with
    | none => []
    | some t => t :: walkL n t df dr := by
  simp only [walkL]
  cases stepSq s df dr with
  | none => rfl
  | some t => simp only; rw [if_neg h]
/-- what is left of a ray -/
def RayLeft (L done : List Int) (t df dr : Int) : Prop := (t = -1 ∧ L = done) ∨ (0 ≤ t ∧ t < 64 ∧ ∃ n, done.length + 1 + n = 64 ∧ L = done ++ t :: walkL n t df dr)
theorem rayLeft_start (s df dr : Int) (h : ¬ (df = 0 ∧ dr = 0)) : RayLeft (walkL 64 s df dr) [] (rStep s df dr) df dr := by
  unfold RayLeft rStep
  rw [walkL_succ 63 s df dr h]
  cases q : stepSq s df dr with
  | none => exact .inl ⟨rfl, rfl⟩
  | some t =>
    obtain ⟨_, h2, _⟩ := stepSq_inv q
    exact .inr ⟨h2.1, h2.2, 63, by simp, rfl⟩
theorem rayLeft_next {L done : List Int} {t df dr : Int} (h : ¬ (df = 0 ∧ dr = 0)) (hL : L.length ≤ 7) (h0 : 0 ≤ t) (k : RayLeft L done t df dr) : RayLeft L (done ++ [t]) (rStep t df dr) df dr := by
  rcases k with ⟨e, _⟩ | ⟨_, _, n, hn, e⟩
  · omega
  · have hl := congrArg List.length e
    simp at hl
    obtain ⟨n, rfl⟩ : ∃ m, n = m + 1 := ⟨n - 1, by omega⟩
    unfold RayLeft rStep
    rw [walkL_succ n t df dr h] at e
    cases q : stepSq t df dr with
    | none => rw [q] at e; exact .inl ⟨rfl, by simpa using e⟩
    | some u =>
      rw [q] at e
      obtain ⟨_, h2, _⟩ := stepSq_inv q
      exact .inr ⟨h2.1, h2.2, n, by simp; omega, by simpa using e⟩
theorem rayLeft_len {L done : List Int} {t df dr : Int} (k : RayLeft L done t df dr) : done.length ≤ L.length := by
  rcases k with ⟨_, e⟩ | ⟨_, _, n, _, e⟩ <;> rw [e] <;> simp
theorem rayLeft_end {L done : List Int} {t df dr : Int} (k : RayLeft L done t df dr) (h : t < 0) : L = done := by
  rcases k with ⟨_, e⟩ | ⟨h0, _⟩
  · exact e
  · omega

set_option maxHeartbeats 400000 in
set_option maxRecDepth 100000 in
theorem r_Ray (s df dr : Int) (hd : (df, dr) ∈ allD) (hs : s ∈ squares) (w : World) : Calls Try.prog 104 #[.int .i64 s, .int .i64 df, .int .i64 dr] w (Told w.heap.size w (walkL 64 s df dr)) := by
  have hne := allD_ne (df, dr) hd
  have h7 := walk_len (df, dr) hd s hs
  simp only at hne h7
  have HL := Lib.hid (rayLeft_start s df dr hne)
  have HN := Lib.hid hne
  generalize walkL 64 s df dr = L at *
  have b1 : (df == 0) = false ∨ (df == 0) = true ∧ (dr == 0) = false := by
    cases h : df == 0
    · exact .inl rfl
    · refine .inr ⟨rfl, ?_⟩
      have h1 : df = 0 := by simpa using h
      have h2 : ¬ dr = 0 := fun e => hne ⟨h1, e⟩
      simpa using h2
  clear hne hd hs
  have body : (df == 0) = false ∨ (df == 0) = true ∧ (dr == 0) = false → Calls Try.prog 104 #[.int .i64 s, .int .i64 df, .int .i64 dr] w (Told w.heap.size w L) := by
    intro b1
    rcases b1 with b1 | ⟨b1, b2⟩
    all_goals
      go_enter Try.func104, Try.ntmps104
      go_wp2_with (go_at_call 115; refine (r_Step _ _ _ _).mono ?_; rintro e w' ⟨rfl, rfl⟩)
      go_loopg [7, 8] 64 (fun m v tv wr => ∃ (done : List Int) (t : Int) (A : Option Addr) (cap : Nat), done.length + m = 64 ∧ v = .slice A done.length cap ∧ tv = .int .i64 t ∧ Own w.heap.size (.slice A done.length cap) done wr ∧ Below w.heap.size w wr ∧ RayLeft L done t df dr)
      case atStart => exact ⟨[], _, none, 0, by simp, rfl, rfl, Own.none _ _, Below.refl _ _, HL.out⟩
      case round =>
        obtain ⟨done, t, A, cap, hm, rfl, rfl, hown, hbe, hr⟩ := hrel
        have hdl := rayLeft_len hr
        have HM := Lib.hid hm
        have HR := Lib.hid hr
        have hsz := hbe.size
        clear hm hr
        by_cases h0 : 0 ≤ t
        · have h0' : decide (0 ≤ t) = true := by simpa using h0
          go_wp2_with (first | (go_at_call 115; refine (r_Step _ _ _ _).mono ?_; rintro e w' ⟨rfl, rfl⟩) | (at_builtin; refine append1 rfl _ _ rfl w.heap.size (.slice A done.length cap) done rfl wr hown t rfl rfl (by omega) (by omega) ?_; intro A' cap' w1 hown1 hg1 hn1))
          go_roundg (gk - 1)
          case measure => have := HM.out; omega
          case rel => exact ⟨done ++ [t], _, A', cap', by have := HM.out; simp; omega, by simp, rfl, by simpa using hown1, hbe.grown hg1 hsz (fun k hk => (hown.lt k hk).1), rayLeft_next HN.out h7 h0 HR.out⟩
        · have h0' : decide (0 ≤ t) = false := by simpa using h0
          have E := Lib.hid (rayLeft_end HR.out (by omega))
          go_wp2
          go_ret
          rw [E.out]
          exact ⟨A, cap, rfl, hown, hbe⟩
  exact body b1
end Go.Proofs.Ytibaembmdcdbkaa
