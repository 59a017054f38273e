import Derived.Test.YtibaembmdcdbkaaRm
import Derived.Test.YtibaembmdcdbkaaRc
namespace Go.Proofs.Ytibaembmdcdbkaa
open Go.RowKit Alf

theorem lies_cell {w0 w' : World} {b : List Int} (hb : BOk b) (h : Lies w0 (.cells (boardC b) 24) w') (k : Nat) (hk : k < 64) : w'.cell? ⟨w0.heap.size, k, none⟩ = some (.int .i8 (bd b k)) := by
  rw [cell_of_row w' _ k _ _ _ h.obj]
  exact boardC_get b k (by rw [hb.1]; exact hk)

set_option maxHeartbeats 800000 in
set_option maxRecDepth 100000 in
theorem r3_Wrong (b : List Int) (hb : BOk b) (w : World) : Calls Try.prog 33 #[.agg (boardC b)] w fun e w' => e = .returned (.int .i64 (bWrong b)) ∧ Below w.heap.size w w' := by
  have HZ := Lib.hid (board_info b hb)
  have HA := Lib.hid (Lies.start w (.cells (boardC b) 24))
  have HB := Lib.hid hb
  have HE := Lib.hid (show bWrong b = if bRight b = false then 5 else if ¬ b.count 6 = 1 ∨ ¬ b.count (-6) = 1 then 6 else if rimB b = true then 7 else if 16 < many b 0 0 ∨ 16 < many b 0 1 then 8 else 0 from rfl)
  have HW6 := Lib.hid (where_len b hb 6)
  have HW7 := Lib.hid (where_len b hb (-6))
  have HR := Lib.hid (rim_eq b)
  clear hb
  cases r : bRight b
  · have E := Lib.hid (show bWrong b = 5 by rw [HE.out, r]; rfl)
    go_enter Try.func33, Try.ntmps33
    go_wp2_with (first
      | (refine load_row rfl 24 _ rfl _ rfl 24 _ (0, 0) _ HA.out.obj Try.underlying24 rfl HZ.out ?_)
      | (go_at_call 43; refine (r3_Right b HB.out _).mono ?_; rw [r]; rintro e w1 ⟨rfl, hb1⟩; have HA := Lib.hid (HA.out.step hb1))
      | (go_at_call 67; refine (r3_Where b HB.out _ _).mono ?_; rintro e w1 ⟨A, cap, rfl, hL, hb1⟩; (first | rw [HW6.out] | rw [HW7.out]); have HA := Lib.hid (HA.out.step hb1))
      | (have h0 := hmany; go_at_call 68; refine (r3_Many1 b HB.out _).mono ?_; rintro e w1 ⟨rfl, hb1⟩; have HA := Lib.hid (HA.out.step hb1))
      | (go_at_call 68; refine (r3_Many0 b HB.out _).mono ?_; rintro e w1 ⟨rfl, hb1⟩; have HA := Lib.hid (HA.out.step hb1); have hmany := Lib.hid trivial))
    go_ret
    exact ⟨re_int E.out.symm, HA.out.below⟩
  · by_cases c0 : b.count 6 = 1
    · have f0 : (((b.count 6 : Nat) : Int) != 1) = false := by rw [c0]; rfl
      have C0 := Lib.hid c0
      clear c0
      by_cases c1 : b.count (-6) = 1
      · have f1 : (((b.count (-6) : Nat) : Int) != 1) = false := by rw [c1]; rfl
        have C1 := Lib.hid c1
        clear c1
        have HE2 := Lib.hid (show bWrong b = if rimB b = true then 7 else if 16 < many b 0 0 ∨ 16 < many b 0 1 then 8 else 0 by rw [HE.out, r, if_neg (by simp), if_neg (by simp [C0.out, C1.out])])
        generalize b.count 6 = n6 at *
        generalize b.count (-6) = n7 at *
        go_enter Try.func33, Try.ntmps33
        go_wp2_with (first
          | (refine load_row rfl 24 _ rfl _ rfl 24 _ (0, 0) _ HA.out.obj Try.underlying24 rfl HZ.out ?_)
          | (go_at_call 43; refine (r3_Right b HB.out _).mono ?_; rw [r]; rintro e w1 ⟨rfl, hb1⟩; have HA := Lib.hid (HA.out.step hb1))
          | (go_at_call 67; refine (r3_Where b HB.out _ _).mono ?_; rintro e w1 ⟨A, cap, rfl, hL, hb1⟩; (first | rw [HW6.out] | rw [HW7.out]); have HA := Lib.hid (HA.out.step hb1))
          | (have h0 := hmany; go_at_call 68; refine (r3_Many1 b HB.out _).mono ?_; rintro e w1 ⟨rfl, hb1⟩; have HA := Lib.hid (HA.out.step hb1))
          | (go_at_call 68; refine (r3_Many0 b HB.out _).mono ?_; rintro e w1 ⟨rfl, hb1⟩; have HA := Lib.hid (HA.out.step hb1); have hmany := Lib.hid trivial))
        go_loop [3] (fun kv => ∃ k : Nat, k ≤ 8 ∧ kv = .int .i64 k ∧ ∀ j : Nat, j < k → rimF b j = false) (fun kv => 8 - (intOf kv).toNat)
        case atStart => exact ⟨0, by omega, rfl, fun j h => by omega⟩
        case round =>
          obtain ⟨k, h8, rfl, hno⟩ := hrel
          have HN := Lib.hid hno
          clear hno
          by_cases q : k < 8
          · have q1 : decide ((k : Int) < 8) = true := by simp; omega
            have hc1 := lies_cell HB.out HA.out k (by omega)
            have hc2 := lies_cell HB.out HA.out (56 + k) (by omega)
            have HT := Lib.hid (show rimF b k = ((((bd b k == 1) || (bd b k == -1)) || (bd b ((56 + k : Nat) : Int) == 1)) || (bd b ((56 + k : Nat) : Int) == -1)) from rfl)
            generalize hx : bd b k = x at *
            generalize hy : bd b ((56 + k : Nat) : Int) = y at *
            clear hx hy
            cases t : rimF b k
            · have HS := Lib.hid (show ∀ j : Nat, j < k + 1 → rimF b j = false from fun j hj => by
                by_cases e : j = k
                · subst e; exact t
                · exact HN.out j (by omega))
              rw [HT.out] at t
              rw [Bool.or_eq_false_iff, Bool.or_eq_false_iff, Bool.or_eq_false_iff] at t
              obtain ⟨⟨⟨t1, t2⟩, t3⟩, t4⟩ := t
              go_wp2
              go_round
              case rel => exact ⟨k + 1, by omega, by go_num, HS.out⟩
              case measure => simp [intOf]; omega
            · have E := Lib.hid (show bWrong b = 7 by
                rw [HE2.out, if_pos]
                rw [HR.out, List.any_eq_true]
                exact ⟨k, List.mem_range.2 q, t⟩)
              rw [HT.out] at t
              cases t1 : (x == 1)
              · cases t2 : (x == -1)
                · cases t3 : (y == 1)
                  · rw [t1, t2, t3, Bool.false_or, Bool.false_or, Bool.false_or] at t
                    go_wp2
                    go_ret
                    exact ⟨re_int E.out.symm, HA.out.below⟩
                  · clear t
                    go_wp2
                    go_ret
                    exact ⟨re_int E.out.symm, HA.out.below⟩
                · clear t
                  go_wp2
                  go_ret
                  exact ⟨re_int E.out.symm, HA.out.below⟩
              · clear t
                go_wp2
                go_ret
                exact ⟨re_int E.out.symm, HA.out.below⟩
          · obtain rfl : k = 8 := by omega
            have HRim := Lib.hid (show rimB b = false by
              rw [HR.out, List.any_eq_false]
              intro s hs
              rw [HN.out s (List.mem_range.1 hs)]; simp)
            by_cases d0 : 16 < many b 0 0
            · have g0 : decide ((16 : Int) < ((many b 0 0 : Nat) : Int)) = true := by simp; omega
              have E := Lib.hid (show bWrong b = 8 by rw [HE2.out, HRim.out, if_neg (by simp), if_pos (.inl d0)])
              go_wp2_with (first
                | (refine load_row rfl 24 _ rfl _ rfl 24 _ (0, 0) _ HA.out.obj Try.underlying24 rfl HZ.out ?_)
                | (go_at_call 43; refine (r3_Right b HB.out _).mono ?_; rw [r]; rintro e w1 ⟨rfl, hb1⟩; have HA := Lib.hid (HA.out.step hb1))
                | (go_at_call 67; refine (r3_Where b HB.out _ _).mono ?_; rintro e w1 ⟨A, cap, rfl, hL, hb1⟩; (first | rw [HW6.out] | rw [HW7.out]); have HA := Lib.hid (HA.out.step hb1))
                | (have h0 := hmany; go_at_call 68; refine (r3_Many1 b HB.out _).mono ?_; rintro e w1 ⟨rfl, hb1⟩; have HA := Lib.hid (HA.out.step hb1))
                | (go_at_call 68; refine (r3_Many0 b HB.out _).mono ?_; rintro e w1 ⟨rfl, hb1⟩; have HA := Lib.hid (HA.out.step hb1); have hmany := Lib.hid trivial))
              go_ret
              exact ⟨re_int E.out.symm, HA.out.below⟩
            · have g0 : decide ((16 : Int) < ((many b 0 0 : Nat) : Int)) = false := by simp; omega
              by_cases d1 : 16 < many b 0 1
              · have g1 : decide ((16 : Int) < ((many b 0 1 : Nat) : Int)) = true := by simp; omega
                have E := Lib.hid (show bWrong b = 8 by rw [HE2.out, HRim.out, if_neg (by simp), if_pos (.inr d1)])
                go_wp2_with (first
                  | (refine load_row rfl 24 _ rfl _ rfl 24 _ (0, 0) _ HA.out.obj Try.underlying24 rfl HZ.out ?_)
                  | (go_at_call 43; refine (r3_Right b HB.out _).mono ?_; rw [r]; rintro e w1 ⟨rfl, hb1⟩; have HA := Lib.hid (HA.out.step hb1))
                  | (go_at_call 67; refine (r3_Where b HB.out _ _).mono ?_; rintro e w1 ⟨A, cap, rfl, hL, hb1⟩; (first | rw [HW6.out] | rw [HW7.out]); have HA := Lib.hid (HA.out.step hb1))
                  | (have h0 := hmany; go_at_call 68; refine (r3_Many1 b HB.out _).mono ?_; rintro e w1 ⟨rfl, hb1⟩; have HA := Lib.hid (HA.out.step hb1))
                  | (go_at_call 68; refine (r3_Many0 b HB.out _).mono ?_; rintro e w1 ⟨rfl, hb1⟩; have HA := Lib.hid (HA.out.step hb1); have hmany := Lib.hid trivial))
                go_ret
                exact ⟨re_int E.out.symm, HA.out.below⟩
              · have g1 : decide ((16 : Int) < ((many b 0 1 : Nat) : Int)) = false := by simp; omega
                have E := Lib.hid (show bWrong b = 0 by rw [HE2.out, HRim.out, if_neg (by simp), if_neg (by simp; omega)])
                go_wp2_with (first
                  | (refine load_row rfl 24 _ rfl _ rfl 24 _ (0, 0) _ HA.out.obj Try.underlying24 rfl HZ.out ?_)
                  | (go_at_call 43; refine (r3_Right b HB.out _).mono ?_; rw [r]; rintro e w1 ⟨rfl, hb1⟩; have HA := Lib.hid (HA.out.step hb1))
                  | (go_at_call 67; refine (r3_Where b HB.out _ _).mono ?_; rintro e w1 ⟨A, cap, rfl, hL, hb1⟩; (first | rw [HW6.out] | rw [HW7.out]); have HA := Lib.hid (HA.out.step hb1))
                  | (have h0 := hmany; go_at_call 68; refine (r3_Many1 b HB.out _).mono ?_; rintro e w1 ⟨rfl, hb1⟩; have HA := Lib.hid (HA.out.step hb1))
                  | (go_at_call 68; refine (r3_Many0 b HB.out _).mono ?_; rintro e w1 ⟨rfl, hb1⟩; have HA := Lib.hid (HA.out.step hb1); have hmany := Lib.hid trivial))
                go_ret
                exact ⟨re_int E.out.symm, HA.out.below⟩
      · have f1 : (((b.count (-6) : Nat) : Int) != 1) = true := by simp; omega
        have E := Lib.hid (show bWrong b = 6 by rw [HE.out, r, if_neg (by simp), if_pos (.inr c1)])
        go_enter Try.func33, Try.ntmps33
        go_wp2_with (first
          | (refine load_row rfl 24 _ rfl _ rfl 24 _ (0, 0) _ HA.out.obj Try.underlying24 rfl HZ.out ?_)
          | (go_at_call 43; refine (r3_Right b HB.out _).mono ?_; rw [r]; rintro e w1 ⟨rfl, hb1⟩; have HA := Lib.hid (HA.out.step hb1))
          | (go_at_call 67; refine (r3_Where b HB.out _ _).mono ?_; rintro e w1 ⟨A, cap, rfl, hL, hb1⟩; (first | rw [HW6.out] | rw [HW7.out]); have HA := Lib.hid (HA.out.step hb1))
          | (have h0 := hmany; go_at_call 68; refine (r3_Many1 b HB.out _).mono ?_; rintro e w1 ⟨rfl, hb1⟩; have HA := Lib.hid (HA.out.step hb1))
          | (go_at_call 68; refine (r3_Many0 b HB.out _).mono ?_; rintro e w1 ⟨rfl, hb1⟩; have HA := Lib.hid (HA.out.step hb1); have hmany := Lib.hid trivial))
        go_ret
        exact ⟨re_int E.out.symm, HA.out.below⟩
    · have f0 : (((b.count 6 : Nat) : Int) != 1) = true := by simp; omega
      have E := Lib.hid (show bWrong b = 6 by rw [HE.out, r, if_neg (by simp), if_pos (.inl c0)])
      go_enter Try.func33, Try.ntmps33
      go_wp2_with (first
        | (refine load_row rfl 24 _ rfl _ rfl 24 _ (0, 0) _ HA.out.obj Try.underlying24 rfl HZ.out ?_)
        | (go_at_call 43; refine (r3_Right b HB.out _).mono ?_; rw [r]; rintro e w1 ⟨rfl, hb1⟩; have HA := Lib.hid (HA.out.step hb1))
        | (go_at_call 67; refine (r3_Where b HB.out _ _).mono ?_; rintro e w1 ⟨A, cap, rfl, hL, hb1⟩; (first | rw [HW6.out] | rw [HW7.out]); have HA := Lib.hid (HA.out.step hb1))
        | (have h0 := hmany; go_at_call 68; refine (r3_Many1 b HB.out _).mono ?_; rintro e w1 ⟨rfl, hb1⟩; have HA := Lib.hid (HA.out.step hb1))
        | (go_at_call 68; refine (r3_Many0 b HB.out _).mono ?_; rintro e w1 ⟨rfl, hb1⟩; have HA := Lib.hid (HA.out.step hb1); have hmany := Lib.hid trivial))
      go_ret
      exact ⟨re_int E.out.symm, HA.out.below⟩
end Go.Proofs.Ytibaembmdcdbkaa
