import Derived.Test.YtibaembmdcdbkaaPm
import Derived.Test.YtibaembmdcdbkaaEq
namespace Go.Proofs.Ytibaembmdcdbkaa
open Go.RowKit Alf

/-! board.Man, Many, rim, Wrong -/
def manAt (b : List Int) (s : Int) : Int := if sqR s then bd b s else 0
set_option maxRecDepth 100000 in
theorem board_Man (b : List Int) (hb : BOk b) (s : Int) (w : World) : Calls Try.prog 64 #[.agg (boardC b), .int .i64 s] w fun e w' => e = .returned (.int .i64 (manAt b s)) ∧ Below w.heap.size w w' := by
  have hw := below_box w (.cells (boardC b) 24)
  cases q : sqR s
  · have E := Lib.hid (show manAt b s = 0 by unfold manAt; rw [q]; rfl)
    go_enter Try.func64, Try.ntmps64
    go_wp2_with (go_at_call 74; refine (sq_Right _ _).mono ?_; rintro e w' ⟨rfl, rfl⟩)
    go_ret
    exact ⟨re_int E.out.symm, hw⟩
  · obtain ⟨k, rfl, hk⟩ : ∃ k : Nat, s = k ∧ k < 64 := by
      unfold sqR at q
      simp at q
      exact ⟨s.toNat, by omega, by omega⟩
    have E := Lib.hid (show manAt b k = bd b k by unfold manAt; rw [q]; rfl)
    have hc := board_cell b hb k hk w
    obtain ⟨hb1, hb2⟩ := bd_bounds b hb k
    go_enter Try.func64, Try.ntmps64
    go_wp2_with (go_at_call 74; refine (sq_Right _ _).mono ?_; rintro e w' ⟨rfl, rfl⟩)
    go_ret
    exact ⟨re_int E.out.symm, hw⟩

set_option maxHeartbeats 400000 in
set_option maxRecDepth 100000 in
theorem board_Many (b : List Int) (hb : BOk b) (kind side : Int) (w : World) : Calls Try.prog 84 #[.agg (boardC b), .int .i64 kind, .int .i64 side] w fun e w' => e = .returned (.int .i64 (many b kind side : Nat)) ∧ Below w.heap.size w w' := by
  have HZ := Lib.hid (board_info b hb)
  have HG := Lib.hid (heap_alloc_last w (.cells (boardC b) 24))
  have hw := Lib.hid (below_box w (.cells (boardC b) 24))
  go_enter Try.func84, Try.ntmps84
  go_wp2_with (refine load_row rfl 24 _ rfl _ rfl 24 _ (0, 0) _ HG.out Try.underlying24 rfl HZ.out ?_)
  go_loop [7, 12] (fun nv kv => ∃ k : Nat, k ≤ 64 ∧ kv = .int .i64 k ∧ nv = .int .i64 ((b.take k).countP (manyP kind side) : Nat)) (fun _ kv => 64 - (intOf kv).toNat)
  case atStart => exact ⟨0, by omega, rfl, rfl⟩
  case round =>
    obtain ⟨k, h64, rfl, rfl⟩ := hrel
    by_cases q : k < 64
    · have q1 : decide ((k : Int) < 64) = true := by simp; omega
      have hi := board_index b hb k q
      obtain ⟨c1, c2⟩ := bd_bounds b hb k
      have HS := Lib.hid (take_succ_count b (manyP kind side) k (bd b k) (bd_mem b k (by rw [hb.1]; exact q)))
      have hle := count_le b (manyP kind side) k
      generalize (b.take k).countP (manyP kind side) = n at *
      by_cases r : manyP kind side (bd b k) = true
      · have HT := Lib.hid (show (b.take (k + 1)).countP (manyP kind side) = n + 1 by rw [HS.out, if_pos r])
        unfold manyP at r
        simp only [Bool.and_eq_true] at r
        obtain ⟨⟨r1, r2⟩, r3⟩ := r
        cases r4 : (kind == 0)
        · have r5 : (mKind (bd b k) == kind) = true := by rw [r4] at r3; simpa using r3
          clear r3
          go_wp2_with (first
            | (go_at_call 83; refine (men_Right _ _).mono ?_; rintro e w' ⟨rfl, rfl⟩)
            | (go_at_call 49; refine (men_Side _ _).mono ?_; rintro e w' ⟨rfl, rfl⟩)
            | (go_at_call 48; refine (men_Kind _ _).mono ?_; rintro e w' ⟨rfl, rfl⟩))
          go_round
          case rel => exact ⟨k + 1, by omega, by go_num, by rw [HT.out]; go_num⟩
          case measure => simp [intOf]; omega
        · clear r3
          go_wp2_with (first
            | (go_at_call 83; refine (men_Right _ _).mono ?_; rintro e w' ⟨rfl, rfl⟩)
            | (go_at_call 49; refine (men_Side _ _).mono ?_; rintro e w' ⟨rfl, rfl⟩)
            | (go_at_call 48; refine (men_Kind _ _).mono ?_; rintro e w' ⟨rfl, rfl⟩))
          go_round
          case rel => exact ⟨k + 1, by omega, by go_num, by rw [HT.out]; go_num⟩
          case measure => simp [intOf]; omega
      · have r' : manyP kind side (bd b k) = false := by simpa using r
        have HT := Lib.hid (show (b.take (k + 1)).countP (manyP kind side) = n by rw [HS.out, r']; rfl)
        clear r
        cases r1 : mRight (bd b k)
        · go_wp2_with (first
            | (go_at_call 83; refine (men_Right _ _).mono ?_; rintro e w' ⟨rfl, rfl⟩))
          go_round
          case rel => exact ⟨k + 1, by omega, by go_num, by rw [HT.out]⟩
          case measure => simp [intOf]; omega
        · cases r2 : (mSide (bd b k) == side)
          · go_wp2_with (first
              | (go_at_call 83; refine (men_Right _ _).mono ?_; rintro e w' ⟨rfl, rfl⟩)
              | (go_at_call 49; refine (men_Side _ _).mono ?_; rintro e w' ⟨rfl, rfl⟩))
            go_round
            case rel => exact ⟨k + 1, by omega, by go_num, by rw [HT.out]⟩
            case measure => simp [intOf]; omega
          · unfold manyP at r'
            rw [r1, r2, Bool.true_and, Bool.true_and] at r'
            rw [Bool.or_eq_false_iff] at r'
            obtain ⟨r4, r5⟩ := r'
            go_wp2_with (first
              | (go_at_call 83; refine (men_Right _ _).mono ?_; rintro e w' ⟨rfl, rfl⟩)
              | (go_at_call 49; refine (men_Side _ _).mono ?_; rintro e w' ⟨rfl, rfl⟩)
              | (go_at_call 48; refine (men_Kind _ _).mono ?_; rintro e w' ⟨rfl, rfl⟩))
            go_round
            case rel => exact ⟨k + 1, by omega, by go_num, by rw [HT.out]⟩
            case measure => simp [intOf]; omega
    · obtain rfl : k = 64 := by omega
      have E := Lib.hid (show (b.take 64).countP (manyP kind side) = many b kind side by unfold many; rw [List.take_of_length_le (by rw [hb.1]; omega)])
      rw [E.out]
      go_wp2
      go_ret
      exact ⟨rfl, hw.out⟩

set_option maxHeartbeats 400000 in
set_option maxRecDepth 100000 in
theorem board_rim (b : List Int) (hb : BOk b) (w : World) : Calls Try.prog 85 #[.agg (boardC b)] w fun e w' => e = .returned (.bool (rimB b)) ∧ Below w.heap.size w w' := by
  have HZ := Lib.hid (board_info b hb)
  have HG := Lib.hid (heap_alloc_last w (.cells (boardC b) 24))
  have hw := Lib.hid (below_box w (.cells (boardC b) 24))
  go_enter Try.func85, Try.ntmps85
  go_wp2_with (refine load_row rfl 24 _ rfl _ rfl 24 _ (0, 0) _ HG.out Try.underlying24 rfl HZ.out ?_)
  go_loop [7] (fun kv => ∃ k : Nat, k ≤ 64 ∧ kv = .int .i64 k ∧ ∀ j : Nat, j < k → rimP b j = false) (fun kv => 64 - (intOf kv).toNat)
  case atStart => exact ⟨0, by omega, rfl, fun j h => by omega⟩
  case round =>
    obtain ⟨k, h64, rfl, hno⟩ := hrel
    have HN := Lib.hid hno
    clear hno
    by_cases q : k < 64
    · have q1 : decide ((k : Int) < 64) = true := by simp; omega
      have hi := board_index b hb k q
      obtain ⟨c1, c2⟩ := bd_bounds b hb k
      have hr : sqR (k : Int) = true := by unfold sqR; simp; omega
      have HR := Lib.hid (show (if sqR (k : Int) then (k : Int) / 8 else -1) = ((k / 8 : Nat) : Int) by rw [hr]; simp)
      cases r : rimP b k
      · have HS := Lib.hid (show ∀ j : Nat, j < k + 1 → rimP b j = false from fun j hj => by
          by_cases e : j = k
          · subst e; exact r
          · exact HN.out j (by omega))
        cases r1 : (mKind (bd b k) == 1)
        · clear r hr
          go_wp2_with (first
            | (go_at_call 61; refine (sq_Rank _ _).mono ?_; rw [HR.out]; rintro e w' ⟨rfl, rfl⟩)
            | (go_at_call 48; refine (men_Kind _ _).mono ?_; rintro e w' ⟨rfl, rfl⟩))
          go_round
          case rel => exact ⟨k + 1, by omega, by go_num, HS.out⟩
          case measure => simp [intOf]; omega
        · unfold rimP at r
          rw [r1, Bool.true_and, Bool.or_eq_false_iff] at r
          obtain ⟨r2, r3⟩ := r
          simp only [decide_eq_false_iff_not] at r2 r3
          have s1 : (((k / 8 : Nat) : Int) == 0) = false := by simp; omega
          have s2 : (((k / 8 : Nat) : Int) == 7) = false := by simp; omega
          clear hr r2 r3
          generalize k / 8 = kr at *
          go_wp2_with (first
            | (go_at_call 61; refine (sq_Rank _ _).mono ?_; rw [HR.out]; rintro e w' ⟨rfl, rfl⟩)
            | (go_at_call 48; refine (men_Kind _ _).mono ?_; rintro e w' ⟨rfl, rfl⟩))
          go_round
          case rel => exact ⟨k + 1, by omega, by go_num, HS.out⟩
          case measure => simp [intOf]; omega
      · have E := Lib.hid (show rimB b = true by
          unfold rimB
          rw [List.any_eq_true]
          exact ⟨k, List.mem_range.2 q, r⟩)
        unfold rimP at r
        rw [Bool.and_eq_true] at r
        obtain ⟨r1, r2⟩ := r
        by_cases r3 : k < 8
        · have s1 : (((k / 8 : Nat) : Int) == 0) = true := by simp; omega
          clear hr r2
          generalize k / 8 = kr at *
          go_wp2_with (first
            | (go_at_call 61; refine (sq_Rank _ _).mono ?_; rw [HR.out]; rintro e w' ⟨rfl, rfl⟩)
            | (go_at_call 48; refine (men_Kind _ _).mono ?_; rintro e w' ⟨rfl, rfl⟩))
          go_ret
          exact ⟨re_bool E.out.symm, hw.out⟩
        · have r4 : 56 ≤ k := by
            rw [decide_eq_false r3, Bool.false_or] at r2
            simpa using r2
          have s1 : (((k / 8 : Nat) : Int) == 0) = false := by simp; omega
          have s2 : (((k / 8 : Nat) : Int) == 7) = true := by simp; omega
          clear hr r2
          generalize k / 8 = kr at *
          go_wp2_with (first
            | (go_at_call 61; refine (sq_Rank _ _).mono ?_; rw [HR.out]; rintro e w' ⟨rfl, rfl⟩)
            | (go_at_call 48; refine (men_Kind _ _).mono ?_; rintro e w' ⟨rfl, rfl⟩))
          go_ret
          exact ⟨re_bool E.out.symm, hw.out⟩
    · obtain rfl : k = 64 := by omega
      have E := Lib.hid (show rimB b = false by
        unfold rimB
        rw [List.any_eq_false]
        intro s hs
        rw [HN.out s (List.mem_range.1 hs)]; simp)
      go_wp2
      go_ret
      exact ⟨re_bool E.out.symm, hw.out⟩
end Go.Proofs.Ytibaembmdcdbkaa
