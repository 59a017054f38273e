import Derived.Test.YtibaembmdcdbkaaPh
namespace Go.Proofs.Ytibaembmdcdbkaa
open Go.RowKit Alf

/-! alfilref08.Backed -/
set_option maxHeartbeats 1600000 in
set_option maxRecDepth 100000 in
theorem r8_Backed (b : List Int) (hb : BOk b) (right : Int) (w : World) : Calls Try.prog 30 #[.agg (boardC b), .int .i64 right] w fun x w' => x = .returned (.bool (backedB b right)) ∧ Below w.heap.size w w' := by
  have hw := below_box w (.cells (boardC b) 24)
  by_cases r1 : right = 1
  · subst r1
    have hk := board_cell b hb 4 (by omega) w
    have hr := board_cell b hb 7 (by omega) w
    have E0 := Lib.hid (show backedB b 1 = ((bd b ((4 : Nat) : Int) == 6) && (bd b ((7 : Nat) : Int) == 4)) from rfl)
    generalize hx : bd b ((4 : Nat) : Int) = x at *
    generalize hy : bd b ((7 : Nat) : Int) = y at *
    clear hx hy
    cases k1 : (x == 6)
    · have E := Lib.hid (show backedB b 1 = false by rw [E0.out, k1]; rfl)
      go_enter Try.func30, Try.ntmps30
      go_wp2
      go_ret
      exact ⟨re_bool E.out.symm, hw⟩
    · cases k2 : (y == 4)
      · have E := Lib.hid (show backedB b 1 = false by rw [E0.out, k1, k2]; rfl)
        go_enter Try.func30, Try.ntmps30
        go_wp2
        go_ret
        exact ⟨re_bool E.out.symm, hw⟩
      · have E := Lib.hid (show backedB b 1 = true by rw [E0.out, k1, k2]; rfl)
        go_enter Try.func30, Try.ntmps30
        go_wp2
        go_ret
        exact ⟨re_bool E.out.symm, hw⟩
  · by_cases r2 : right = 2
    · subst r2
      have hk := board_cell b hb 4 (by omega) w
      have hr := board_cell b hb 0 (by omega) w
      have E0 := Lib.hid (show backedB b 2 = ((bd b ((4 : Nat) : Int) == 6) && (bd b ((0 : Nat) : Int) == 4)) from rfl)
      generalize hx : bd b ((4 : Nat) : Int) = x at *
      generalize hy : bd b ((0 : Nat) : Int) = y at *
      clear hx hy
      cases k1 : (x == 6)
      · have E := Lib.hid (show backedB b 2 = false by rw [E0.out, k1]; rfl)
        go_enter Try.func30, Try.ntmps30
        go_wp2
        go_ret
        exact ⟨re_bool E.out.symm, hw⟩
      · cases k2 : (y == 4)
        · have E := Lib.hid (show backedB b 2 = false by rw [E0.out, k1, k2]; rfl)
          go_enter Try.func30, Try.ntmps30
          go_wp2
          go_ret
          exact ⟨re_bool E.out.symm, hw⟩
        · have E := Lib.hid (show backedB b 2 = true by rw [E0.out, k1, k2]; rfl)
          go_enter Try.func30, Try.ntmps30
          go_wp2
          go_ret
          exact ⟨re_bool E.out.symm, hw⟩
    · by_cases r3 : right = 4
      · subst r3
        have hk := board_cell b hb 60 (by omega) w
        have hr := board_cell b hb 63 (by omega) w
        have E0 := Lib.hid (show backedB b 4 = ((bd b ((60 : Nat) : Int) == -6) && (bd b ((63 : Nat) : Int) == -4)) from rfl)
        generalize hx : bd b ((60 : Nat) : Int) = x at *
        generalize hy : bd b ((63 : Nat) : Int) = y at *
        clear hx hy
        cases k1 : (x == -6)
        · have E := Lib.hid (show backedB b 4 = false by rw [E0.out, k1]; rfl)
          go_enter Try.func30, Try.ntmps30
          go_wp2
          go_ret
          exact ⟨re_bool E.out.symm, hw⟩
        · cases k2 : (y == -4)
          · have E := Lib.hid (show backedB b 4 = false by rw [E0.out, k1, k2]; rfl)
            go_enter Try.func30, Try.ntmps30
            go_wp2
            go_ret
            exact ⟨re_bool E.out.symm, hw⟩
          · have E := Lib.hid (show backedB b 4 = true by rw [E0.out, k1, k2]; rfl)
            go_enter Try.func30, Try.ntmps30
            go_wp2
            go_ret
            exact ⟨re_bool E.out.symm, hw⟩
      · by_cases r4 : right = 8
        · subst r4
          have hk := board_cell b hb 60 (by omega) w
          have hr := board_cell b hb 56 (by omega) w
          have E0 := Lib.hid (show backedB b 8 = ((bd b ((60 : Nat) : Int) == -6) && (bd b ((56 : Nat) : Int) == -4)) from rfl)
          generalize hx : bd b ((60 : Nat) : Int) = x at *
          generalize hy : bd b ((56 : Nat) : Int) = y at *
          clear hx hy
          cases k1 : (x == -6)
          · have E := Lib.hid (show backedB b 8 = false by rw [E0.out, k1]; rfl)
            go_enter Try.func30, Try.ntmps30
            go_wp2
            go_ret
            exact ⟨re_bool E.out.symm, hw⟩
          · cases k2 : (y == -4)
            · have E := Lib.hid (show backedB b 8 = false by rw [E0.out, k1, k2]; rfl)
              go_enter Try.func30, Try.ntmps30
              go_wp2
              go_ret
              exact ⟨re_bool E.out.symm, hw⟩
            · have E := Lib.hid (show backedB b 8 = true by rw [E0.out, k1, k2]; rfl)
              go_enter Try.func30, Try.ntmps30
              go_wp2
              go_ret
              exact ⟨re_bool E.out.symm, hw⟩
        · have E := Lib.hid (show backedB b right = false by
            unfold backedB
            rw [find_none right (fun j h' hj => by
              match j, hj with
              | 0, hj => obtain rfl : h' = ⟨1, 0, 4, 7⟩ := by simpa [homesL] using hj.symm
                         exact fun e => r1 e.symm
              | 1, hj => obtain rfl : h' = ⟨2, 0, 4, 0⟩ := by simpa [homesL] using hj.symm
                         exact fun e => r2 e.symm
              | 2, hj => obtain rfl : h' = ⟨4, 1, 60, 63⟩ := by simpa [homesL] using hj.symm
                         exact fun e => r3 e.symm
              | 3, hj => obtain rfl : h' = ⟨8, 1, 60, 56⟩ := by simpa [homesL] using hj.symm
                         exact fun e => r4 e.symm
              | j + 4, hj => simp [homesL] at hj)])
          have q1 : (right == 1) = false := by simpa using r1
          have q2 : (right == 2) = false := by simpa using r2
          have q3 : (right == 4) = false := by simpa using r3
          have q4 : (right == 8) = false := by simpa using r4
          clear r1 r2 r3 r4
          go_enter Try.func30, Try.ntmps30
          go_wp2
          go_ret
          exact ⟨re_bool E.out.symm, hw⟩
end Go.Proofs.Ytibaembmdcdbkaa
