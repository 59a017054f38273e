import Derived.Test.YtibaembmdcdbkaaPw
namespace Go.Proofs.Ytibaembmdcdbkaa
open Go.RowKit Alf

/-! pos.Wrong, whole -/
def posW (b : List Int) (t c e : Int) : Int :=
  if ¬ bWrong b = 0 then bWrong b else if ¬ (t = 0 ∨ t = 1) ∨ c < 0 ∨ 15 < c ∨ e < -1 ∨ 64 ≤ e then 5 else if touchB b = true ∨ pCheck b (1 - t) = true then 9 else if castB b c = false then 10
  else if 0 ≤ e ∧ passB b t e = false then 11 else 0
theorem to_posW {b : List Int} {t c e v : Int} {w : World} (h : Calls Try.prog 25 #[.agg (posC b t c e)] w fun x w' => x = .returned (.int .i64 v) ∧ Below w.heap.size w w') (hv : posW b t c e = v) :
    Calls Try.prog 25 #[.agg (posC b t c e)] w fun x w' => x = .returned (.int .i64 (posW b t c e)) ∧ Below w.heap.size w w' := by
  rw [hv]; exact h
theorem pos_Wrong (b : List Int) (hb : BOk b) (t c e : Int) (w : World) : Calls Try.prog 25 #[.agg (posC b t c e)] w fun x w' => x = .returned (.int .i64 (posW b t c e)) ∧ Below w.heap.size w w' := by
  by_cases h0 : bWrong b = 0
  · by_cases h1 : t = 0 ∨ t = 1
    · by_cases h2 : c < 0
      · exact to_posW (w_c0 b hb t c e h0 h1 (by simpa using h2) w) (by unfold posW; rw [if_neg (by simp [h0]), if_pos (.inr (.inl h2))])
      · have g2 : decide (c < 0) = false := by simpa using h2
        by_cases h3 : 15 < c
        · exact to_posW (w_c1 b hb t c e h0 h1 g2 (by simpa using h3) w) (by unfold posW; rw [if_neg (by simp [h0]), if_pos (.inr (.inr (.inl h3)))])
        · have g3 : decide (15 < c) = false := by simpa using h3
          by_cases h4 : e < -1
          · exact to_posW (w_e0 b hb t c e h0 h1 g2 g3 (by simpa using h4) w) (by unfold posW; rw [if_neg (by simp [h0]), if_pos (.inr (.inr (.inr (.inl h4))))])
          · have g4 : decide (e < -1) = false := by simpa using h4
            by_cases h5 : 64 ≤ e
            · exact to_posW (w_e1 b hb t c e h0 h1 g2 g3 g4 (by simpa using h5) w) (by unfold posW; rw [if_neg (by simp [h0]), if_pos (.inr (.inr (.inr (.inr h5))))])
            · have g5 : decide (64 ≤ e) = false := by simpa using h5
              have hn : posW b t c e = if touchB b = true ∨ pCheck b (1 - t) = true then 9 else if castB b c = false then 10 else if 0 ≤ e ∧ passB b t e = false then 11 else 0 := by
                unfold posW
                rw [if_neg (by simp [h0]), if_neg (by omega)]
              cases k1 : touchB b
              · cases k2 : pCheck b (1 - t)
                · cases k3 : castB b c
                  · exact to_posW (w_castle b hb t c e h0 h1 g2 g3 g4 g5 k1 k2 k3 w) (by rw [hn, k1, k2, k3]; rfl)
                  · by_cases h6 : 0 ≤ e
                    · cases k4 : passB b t e
                      · exact to_posW (w_passant b hb t c e h0 h1 g2 g3 g4 g5 k1 k2 k3 (by simpa using h6) k4 w) (by rw [hn, k1, k2, k3, k4]; simp [h6])
                      · exact to_posW (w_ok1 b hb t c e h0 h1 g2 g3 g4 g5 k1 k2 k3 (by simpa using h6) k4 w) (by rw [hn, k1, k2, k3, k4]; simp)
                    · exact to_posW (w_ok2 b hb t c e h0 h1 g2 g3 g4 g5 k1 k2 k3 (by simpa using h6) w) (by rw [hn, k1, k2, k3]; simp [h6])
                · exact to_posW (w_check b hb t c e h0 h1 g2 g3 g4 g5 k1 k2 w) (by rw [hn, k1, k2]; rfl)
              · exact to_posW (w_touch b hb t c e h0 h1 g2 g3 g4 g5 k1 w) (by rw [hn, k1]; rfl)
    · exact to_posW (w_turn b hb t c e h0 h1 w) (by unfold posW; rw [if_neg (by simp [h0]), if_pos (.inl h1)])
  · exact to_posW (w_board b hb t c e _ rfl (by simpa using h0) w) (by unfold posW; rw [if_pos h0])
end Go.Proofs.Ytibaembmdcdbkaa
