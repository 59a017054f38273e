import Derived.Test.YtibaembmdcdbkaaRx
namespace Go.Proofs.Ytibaembmdcdbkaa
open Go.RowKit Alf

/-! the reference's answer is the program's -/
theorem check_eq (b : List Int) (side : Int) (h0 : 0 ≤ side) (h1 : side ≤ 1) : pCheck b side = rCheck b side := by
  have hs : side = 0 ∨ side = 1 := by omega
  unfold pCheck rCheck pKing rKing
  rcases hs with rfl | rfl
  · rw [show mMake 6 0 = 6 by decide, pStruck_eq, pBy_eq]; rfl
  · rw [show mMake 6 1 = -6 by decide, pStruck_eq, pBy_eq]; rfl
theorem found (b : List Int) (hb : BOk b) (m : Int) (h : b.count m = 1) : ∃ k : Nat, k < 64 ∧ findI b m = k ∧ bd b k = m := by
  have hm : m ∈ b := List.count_pos_iff.1 (by omega)
  rw [← board_map b hb] at hm
  obtain ⟨s, hs, e⟩ := List.mem_map.1 hm
  unfold findI
  cases q : squares.find? (fun s => bd b s == m) with
  | none =>
    rw [List.find?_eq_none] at q
    exact absurd (by simpa using e) (q s hs)
  | some s' =>
    have h1 := List.find?_some q
    have h2 := (mem_squares s').1 (List.mem_of_find?_eq_some q)
    refine ⟨s'.toNat, by omega, by simp only; omega, ?_⟩
    rw [Int.toNat_of_nonneg (by omega)]
    simpa using h1
theorem touch_eq (b : List Int) (hb : BOk b) (h : bWrong b = 0) : touchB b = (farI (rKing b 0) (rKing b 1) == 1) := by
  have hc : b.count 6 = 1 ∧ b.count (-6) = 1 := by
    apply Classical.byContradiction
    intro hn
    unfold bWrong at h
    by_cases r : bRight b = false
    · rw [if_pos r] at h; omega
    · rw [if_neg r, if_pos (by omega)] at h; omega
  obtain ⟨k1, l1, f1, e1⟩ := found b hb 6 hc.1
  obtain ⟨k2, l2, f2, e2⟩ := found b hb (-6) hc.2
  have hne : k1 ≠ k2 := fun e => by rw [e, e2] at e1; omega
  unfold touchB
  have p0 : pKing b 0 = k1 := by unfold pKing; rw [if_neg (by decide)]; exact f1
  have p1 : pKing b 1 = k2 := by unfold pKing; rw [if_neg (by decide)]; exact f2
  have r0 : rKing b 0 = k1 := by unfold rKing; rw [if_pos rfl]; exact f1
  have r1 : rKing b 1 = k2 := by unfold rKing; rw [if_neg (by decide), if_pos rfl]; exact f2
  rw [p0, p1, r0, r1]
  have hf : 1 ≤ farI k1 k2 := by
    unfold farI
    rw [if_pos (by unfold sqR; simp; omega)]
    unfold gapI
    omega
  rw [Bool.eq_iff_iff]
  simp
  omega

theorem to_posW2 {b : List Int} {t c e v : Int} {w : World} (h : Calls Try.prog 26 #[.agg (posC b t c e)] w fun x w' => x = .returned (.int .i64 v) ∧ Below w.heap.size w w') (hv : posW b t c e = v) :
    Calls Try.prog 26 #[.agg (posC b t c e)] w fun x w' => x = .returned (.int .i64 (posW b t c e)) ∧ Below w.heap.size w w' := by
  rw [hv]; exact h
theorem r8_Wrong (b : List Int) (hb : BOk b) (t c e : Int) (w : World) : Calls Try.prog 26 #[.agg (posC b t c e)] w fun x w' => x = .returned (.int .i64 (posW b t c e)) ∧ Below w.heap.size w w' := by
  by_cases h0 : bWrong b = 0
  · by_cases h1 : t < 0
    · exact to_posW2 (v_t0 b hb t c e h0 (by simpa using h1) w) (by unfold posW; rw [if_neg (by simp [h0]), if_pos (by omega)])
    · have g1 : decide (t < 0) = false := by simpa using h1
      by_cases h2 : 1 < t
      · exact to_posW2 (v_t1 b hb t c e h0 g1 (by simpa using h2) w) (by unfold posW; rw [if_neg (by simp [h0]), if_pos (by omega)])
      · have g2 : decide (1 < t) = false := by simpa using h2
        by_cases h3 : c < 0
        · exact to_posW2 (v_c0 b hb t c e h0 g1 g2 (by simpa using h3) w) (by unfold posW; rw [if_neg (by simp [h0]), if_pos (by omega)])
        · have g3 : decide (c < 0) = false := by simpa using h3
          by_cases h4 : 15 < c
          · exact to_posW2 (v_c1 b hb t c e h0 g1 g2 g3 (by simpa using h4) w) (by unfold posW; rw [if_neg (by simp [h0]), if_pos (by omega)])
          · have g4 : decide (15 < c) = false := by simpa using h4
            by_cases h5 : e < -1
            · exact to_posW2 (v_e0 b hb t c e h0 g1 g2 g3 g4 (by simpa using h5) w) (by unfold posW; rw [if_neg (by simp [h0]), if_pos (by omega)])
            · have g5 : decide (e < -1) = false := by simpa using h5
              by_cases h6 : 63 < e
              · exact to_posW2 (v_e1 b hb t c e h0 g1 g2 g3 g4 g5 (by simpa using h6) w) (by unfold posW; rw [if_neg (by simp [h0]), if_pos (by omega)])
              · have g6 : decide (63 < e) = false := by simpa using h6
                have hn : posW b t c e = if touchB b = true ∨ pCheck b (1 - t) = true then 9 else if castB b c = false then 10 else if 0 ≤ e ∧ passB b t e = false then 11 else 0 := by
                  unfold posW
                  rw [if_neg (by simp [h0]), if_neg (by omega)]
                rw [touch_eq b hb h0, check_eq b (1 - t) (by omega) (by omega)] at hn
                cases k1 : (farI (rKing b 0) (rKing b 1) == 1)
                · cases k2 : rCheck b (1 - t)
                  · refine to_posW2 (v_main b hb t c e h0 g1 g2 g3 g4 g5 g6 k1 k2 _ rfl w) ?_
                    rw [hn, k1, k2]
                    simp only [Bool.false_eq_true, or_self, if_false]
                    unfold passB
                    by_cases h7 : passI b t e < 0
                    · rw [decide_eq_false (by omega)]; simp [h7]
                    · rw [decide_eq_true (by omega)]; simp [h7]
                  · exact to_posW2 (v_check b hb t c e h0 g1 g2 g3 g4 g5 g6 k1 k2 w) (by rw [hn, k1, k2]; rfl)
                · exact to_posW2 (v_touch b hb t c e h0 g1 g2 g3 g4 g5 g6 k1 w) (by rw [hn, k1]; rfl)
  · exact to_posW2 (v_board b hb t c e _ rfl (by simpa using h0) w) (by unfold posW; rw [if_pos h0])
end Go.Proofs.Ytibaembmdcdbkaa
