import Derived.Test.YtibaembmdcdbkaaProg
import Derived.Test.YtibaembmdcdbkaaMen
import Derived.WalkKit
import Derived.WalkSpells
import Derived.WalkLawsBesides
import Derived.BigQuiet
import Derived.Lib.Hide
namespace Go.Proofs.Ytibaembmdcdbkaa
open Go.RowKit Alf

theorem re_int {k : IntKind} {a b : Int} (h : a = b) : Ending.returned (.int k a) = .returned (.int k b) := by rw [h]
theorem re_bool {a b : Bool} (h : a = b) : Ending.returned (.bool a) = .returned (.bool b) := by rw [h]
theorem re_int_bool {k : IntKind} {a b : Int} {c d : Bool} (h : a = b) (h' : c = d) : Ending.returned (.tuple #[.int k a, .bool c]) = .returned (.tuple #[.int k b, .bool d]) := by rw [h, h']

theorem men_Right (m : Int) (w : World) : Calls Try.prog 83 #[.int .i64 m] w fun e w' => e = .returned (.bool (mRight m)) ∧ w = w' := by
  go_enter Try.func83, Try.ntmps83
  go_wp2
  all_goals go_ret
  all_goals exact ⟨re_bool (by unfold mRight; rw [Bool.eq_iff_iff]; simp [*] <;> omega), rfl⟩

theorem sq_Right (m : Int) (w : World) : Calls Try.prog 74 #[.int .i64 m] w fun e w' => e = .returned (.bool (sqR m)) ∧ w = w' := by
  go_enter Try.func74, Try.ntmps74
  go_wp2
  all_goals go_ret
  all_goals exact ⟨re_bool (by unfold sqR; rw [Bool.eq_iff_iff]; simp [*] <;> omega), rfl⟩

theorem sq_on (m : Int) (w : World) : Calls Try.prog 108 #[.int .i64 m] w fun e w' => e = .returned (.bool (onB m)) ∧ w = w' := by
  go_enter Try.func108, Try.ntmps108
  go_wp2
  all_goals go_ret
  all_goals exact ⟨re_bool (by unfold onB; rw [Bool.eq_iff_iff]; simp [*] <;> omega), rfl⟩

theorem mRight_bd {m : Int} (h : mRight m = true) : -6 ≤ m ∧ m ≤ 6 ∧ m ≠ 0 := by
  unfold mRight at h; simp at h; omega
theorem mKind_bd (m : Int) : 0 ≤ mKind m ∧ mKind m ≤ 6 := by
  unfold mKind
  split
  · rename_i h; have := mRight_bd h; omega
  · omega
theorem men_Kind (m : Int) (w : World) : Calls Try.prog 48 #[.int .i64 m] w fun e w' => e = .returned (.int .i64 (mKind m)) ∧ w = w' := by
  cases q1 : mRight m
  · go_enter Try.func48, Try.ntmps48
    go_wp2_with (go_at_call 83; refine (men_Right _ _).mono ?_; rintro e w' ⟨rfl, rfl⟩)
    all_goals go_ret
    all_goals exact ⟨re_int (by unfold mKind; simp [q1]), rfl⟩
  · have hb := (mRight_bd q1).1
    have hb' := (mRight_bd q1).2.1
    go_enter Try.func48, Try.ntmps48
    go_wp2_with (go_at_call 83; refine (men_Right _ _).mono ?_; rintro e w' ⟨rfl, rfl⟩)
    all_goals go_ret
    all_goals exact ⟨re_int (by unfold mKind; rw [if_pos q1]; omega), rfl⟩
theorem men_Side (m : Int) (w : World) : Calls Try.prog 49 #[.int .i64 m] w fun e w' => e = .returned (.int .i64 (mSide m)) ∧ w = w' := by
  go_enter Try.func49, Try.ntmps49
  go_wp2_with (go_at_call 83; refine (men_Right _ _).mono ?_; rintro e w' ⟨rfl, rfl⟩)
  all_goals go_ret
  all_goals exact ⟨re_int (by unfold mSide; first | (simp_all; done) | (simp_all; omega)), rfl⟩
theorem men_Make (k s : Int) (w : World) : Calls Try.prog 50 #[.int .i64 k, .int .i64 s] w fun e w' => e = .returned (.int .i64 (mMake k s)) ∧ w = w' := by
  by_cases q1 : k < 1 ∨ 6 < k
  · go_enter Try.func50, Try.ntmps50
    go_wp2
    all_goals go_ret
    all_goals exact ⟨re_int (by unfold mMake; rw [if_pos (by omega)]), rfl⟩
  · have h1 : 1 ≤ k := by omega
    have h2 : k ≤ 6 := by omega
    by_cases q2 : s = 0
    · subst q2
      have E := Lib.hid (show mMake k 0 = k by unfold mMake; rw [if_neg q1, if_pos rfl])
      clear q1
      go_enter Try.func50, Try.ntmps50
      go_wp2
      go_ret
      exact ⟨re_int E.out.symm, rfl⟩
    · by_cases q3 : s = 1
      · subst q3
        have E := Lib.hid (show mMake k 1 = -k by unfold mMake; rw [if_neg q1, if_neg (by omega), if_pos rfl])
        clear q1
        go_enter Try.func50, Try.ntmps50
        go_wp2
        go_ret
        exact ⟨re_int E.out.symm, rfl⟩
      · have E := Lib.hid (show mMake k s = 0 by unfold mMake; rw [if_neg q1, if_neg q2, if_neg q3])
        have b1 : (s == 0) = false := by simpa using q2
        have b2 : (s == 1) = false := by simpa using q3
        clear q1 q2 q3
        go_enter Try.func50, Try.ntmps50
        go_wp2
        go_ret
        exact ⟨re_int E.out.symm, rfl⟩
theorem men_Other (s : Int) (w : World) : Calls Try.prog 41 #[.int .i64 s] w fun e w' => e = .returned (.int .i64 (mOther s)) ∧ w = w' := by
  by_cases q0 : s = 0
  · subst q0
    go_enter Try.func41, Try.ntmps41
    go_wp2
    go_ret
    exact ⟨rfl, rfl⟩
  · by_cases q1 : s = 1
    · subst q1
      go_enter Try.func41, Try.ntmps41
      go_wp2
      go_ret
      exact ⟨rfl, rfl⟩
    · have E := Lib.hid (show mOther s = -1 by unfold mOther; rw [if_neg (by omega)])
      have b1 : (s != 0) = true := by simpa using q0
      have b2 : (s != 1) = true := by simpa using q1
      clear q0 q1
      go_enter Try.func41, Try.ntmps41
      go_wp2
      go_ret
      exact ⟨re_int E.out.symm, rfl⟩
theorem sq_File (s : Int) (w : World) : Calls Try.prog 107 #[.int .i64 s] w fun e w' => e = .returned (.int .i64 (if sqR s then s % 8 else -1)) ∧ w = w' := by
  cases h : sqR s
  · go_enter Try.func107, Try.ntmps107
    go_wp2_with (go_at_call 74; refine (sq_Right _ _).mono ?_; rintro e w' ⟨rfl, rfl⟩)
    all_goals go_ret
    all_goals exact ⟨re_int (by simp), rfl⟩
  · have h0 : 0 ≤ s ∧ s < 64 := by unfold sqR at h; simpa using h
    have h1 := h0.1
    have h2 := h0.2
    clear h0
    go_enter Try.func107, Try.ntmps107
    go_wp2_with (go_at_call 74; refine (sq_Right _ _).mono ?_; rintro e w' ⟨rfl, rfl⟩)
    all_goals go_ret
    all_goals exact ⟨re_int (by simp), rfl⟩
theorem sq_Rank (s : Int) (w : World) : Calls Try.prog 61 #[.int .i64 s] w fun e w' => e = .returned (.int .i64 (if sqR s then s / 8 else -1)) ∧ w = w' := by
  cases h : sqR s
  · go_enter Try.func61, Try.ntmps61
    go_wp2_with (go_at_call 74; refine (sq_Right _ _).mono ?_; rintro e w' ⟨rfl, rfl⟩)
    all_goals go_ret
    all_goals exact ⟨re_int (by simp), rfl⟩
  · have h0 : 0 ≤ s ∧ s < 64 := by unfold sqR at h; simpa using h
    have h1 := h0.1
    have h2 := h0.2
    clear h0
    go_enter Try.func61, Try.ntmps61
    go_wp2_with (go_at_call 74; refine (sq_Right _ _).mono ?_; rintro e w' ⟨rfl, rfl⟩)
    all_goals go_ret
    all_goals exact ⟨re_int (by simp), rfl⟩
def oI : Option Int → Int
  | some x => x
  | none => 0
def oB : Option Int → Bool
  | some _ => true
  | none => false
theorem sq_At (f r : Int) (w : World) : Calls Try.prog 88 #[.int .i64 f, .int .i64 r] w fun e w' => e = .returned (.tuple #[.int .i64 (oI (atSq f r)), .bool (oB (atSq f r))]) ∧ w = w' := by
  have t1 : ∀ x, onB x = true → 0 ≤ x ∧ x < 8 := fun x h => by unfold onB at h; simpa using h
  cases h : onB f
  · clear t1
    go_enter Try.func88, Try.ntmps88
    go_wp2_with (go_at_call 108; refine (sq_on _ _).mono ?_; rintro e w' ⟨rfl, rfl⟩)
    all_goals go_ret2
    all_goals exact ⟨re_int_bool (by simp [atSq, h, oI]) (by simp [atSq, h, oB]), rfl⟩
  · cases h' : onB r
    · clear t1
      go_enter Try.func88, Try.ntmps88
      go_wp2_with (go_at_call 108; refine (sq_on _ _).mono ?_; rintro e w' ⟨rfl, rfl⟩)
      all_goals go_ret2
      all_goals exact ⟨re_int_bool (by simp [atSq, h', oI]) (by simp [atSq, h', oB]), rfl⟩
    · have := t1 f h
      have h3 := this.1
      have h4 := this.2
      have := t1 r h'
      have h5 := this.1
      have h6 := this.2
      clear t1 this
      go_enter Try.func88, Try.ntmps88
      go_wp2_with (go_at_call 108; refine (sq_on _ _).mono ?_; rintro e w' ⟨rfl, rfl⟩)
      all_goals go_ret2
      all_goals exact ⟨re_int_bool (by simp [atSq, h, h', oI]) (by simp [atSq, h, h', oB]), rfl⟩
theorem sq_Step (s df dr : Int) (w : World) : Calls Try.prog 59 #[.int .i64 s, .int .i64 df, .int .i64 dr] w fun e w' => e = .returned (.tuple #[.int .i64 (oI (stepSq s df dr)), .bool (oB (stepSq s df dr))]) ∧ w = w' := by
  by_cases h : 0 ≤ s ∧ s < 64 ∧ -8 < df ∧ df < 8 ∧ -8 < dr ∧ dr < 8
  · have g : sqR s = true := by unfold sqR; simp; omega
    have h1 := h.1
    have h2 := h.2.1
    have h3 := h.2.2.1
    have h4 := h.2.2.2.1
    have h5 := h.2.2.2.2.1
    have h6 := h.2.2.2.2.2
    have E0 : stepSq s df dr = atSq (s % 8 + df) (s / 8 + dr) := by unfold stepSq; rw [if_pos (by simp [g]; omega)]
    have E := Lib.hid E0
    clear E0
    clear h
    go_enter Try.func59, Try.ntmps59
    go_wp2_with (first | (go_at_call 74; refine (sq_Right _ _).mono ?_; rintro e w' ⟨rfl, rfl⟩) | (go_at_call 88; refine (sq_At _ _ _).mono ?_; rintro e w' ⟨rfl, rfl⟩))
    all_goals go_ret2
    all_goals exact ⟨re_int_bool (by rw [E.out]) (by rw [E.out]), rfl⟩
  · have E0 : stepSq s df dr = none := by
      unfold stepSq; rw [if_neg]; unfold sqR; simp; omega
    have E := Lib.hid E0
    clear E0
    go_enter Try.func59, Try.ntmps59
    go_wp2_with (first | (go_at_call 74; refine (sq_Right _ _).mono ?_; rintro e w' ⟨rfl, rfl⟩) | (go_at_call 88; refine (sq_At _ _ _).mono ?_; rintro e w' ⟨rfl, rfl⟩))
    all_goals first
      | (go_ret2; exact ⟨re_int_bool (by rw [E.out]; rfl) (by rw [E.out]; rfl), rfl⟩)
      | (exfalso; rename_i g _ _ _ _; unfold sqR at g; simp at g; omega)

/-! the references' small ones -/
theorem r_Right (m : Int) (w : World) : Calls Try.prog 87 #[.int .i64 m] w fun e w' => e = .returned (.bool (sqR m)) ∧ w = w' := by
  go_enter Try.func87, Try.ntmps87
  go_wp2
  all_goals go_ret
  all_goals exact ⟨re_bool (by unfold sqR; rw [Bool.eq_iff_iff]; simp [*] <;> omega), rfl⟩
theorem r_Kind (m : Int) (w : World) : Calls Try.prog 81 #[.int .i64 m] w fun e w' => e = .returned (.int .i64 (mKind m)) ∧ w = w' := by
  go_enter Try.func81, Try.ntmps81
  go_wp2
  go_loop [3] (fun i => ∃ k : Nat, 1 ≤ k ∧ k ≤ 7 ∧ i = .int .i64 k ∧ ∀ j : Nat, 1 ≤ j → j < k → m ≠ j ∧ m ≠ -j) (fun i => 7 - (intOf i).toNat)
  case atStart => exact ⟨1, by omega, by omega, rfl, fun j h1 h2 => by omega⟩
  case round =>
    obtain ⟨k, h1, h7, rfl, hno⟩ := hrel
    have H := Lib.hid hno
    clear hno
    by_cases q : k < 7
    · by_cases q1 : m = k
      · subst q1
        have E := Lib.hid (show mKind (k : Int) = k by unfold mKind mRight; rw [if_pos (by simp; omega)]; omega)
        go_wp2
        go_ret
        exact ⟨re_int E.out.symm, rfl⟩
      · by_cases q2 : m = -k
        · subst q2
          have E := Lib.hid (show mKind (-(k : Int)) = k by unfold mKind mRight; rw [if_pos (by simp; omega)]; omega)
          have b1 : ((-(k : Int)) == (k : Int)) = false := by simp; omega
          clear q1
          go_wp2
          go_ret
          exact ⟨re_int E.out.symm, rfl⟩
        · have b1 : (m == (k : Int)) = false := by simpa using q1
          have b2 : (m == -(k : Int)) = false := by simpa using q2
          have Q1 := Lib.hid q1
          have Q2 := Lib.hid q2
          clear q1 q2
          go_wp2
          go_round
          case rel => exact ⟨k + 1, by omega, by omega, by go_num, fun j h1 h2 => by
            by_cases e : j = k
            · subst e; exact ⟨Q1.out, Q2.out⟩
            · exact H.out j h1 (by omega)⟩
          case measure => simp [intOf]; omega
    · obtain rfl : k = 7 := by omega
      have E := Lib.hid (show mKind m = 0 by
        unfold mKind
        split
        · rename_i g
          have := mRight_bd g
          have h := H.out m.natAbs (by omega) (by omega)
          omega
        · rfl)
      go_wp2
      go_ret
      exact ⟨re_int E.out.symm, rfl⟩
theorem r_File (m : Int) (w : World) : Calls Try.prog 73 #[.int .i64 m] w fun e w' => e = .returned (.int .i64 (if sqR m then m % 8 else -1)) ∧ w = w' := by
  cases q : sqR m
  · go_enter Try.func73, Try.ntmps73
    go_wp2_with (go_at_call 87; refine (r_Right _ _).mono ?_; rintro e w' ⟨rfl, rfl⟩)
    go_ret
    exact ⟨rfl, rfl⟩
  · have h0 : 0 ≤ m ∧ m < 64 := by unfold sqR at q; simpa using q
    have g1 := h0.1
    have g2 := h0.2
    clear h0
    go_enter Try.func73, Try.ntmps73
    go_wp2_with (go_at_call 87; refine (r_Right _ _).mono ?_; rintro e w' ⟨rfl, rfl⟩)
    go_loop [0] (fun i => ∃ k : Int, 0 ≤ k ∧ k < 64 ∧ i = .int .i64 k ∧ k % 8 = m % 8) (fun i => (intOf i).toNat)
    case atStart => exact ⟨m, g1, g2, rfl, rfl⟩
    case round =>
      obtain ⟨k, k1, k2, rfl, ke⟩ := hrel
      have E := Lib.hid ke
      clear ke
      go_wp2
      · go_round
        case rel => exact ⟨k - 8, by omega, by omega, rfl, by have := E.out; omega⟩
        case measure => simp [intOf]; omega
      · go_ret
        exact ⟨re_int (by have := E.out; omega), rfl⟩
theorem r_Rank (m : Int) (w : World) : Calls Try.prog 62 #[.int .i64 m] w fun e w' => e = .returned (.int .i64 (if sqR m then m / 8 else -1)) ∧ w = w' := by
  cases q : sqR m
  · go_enter Try.func62, Try.ntmps62
    go_wp2_with (go_at_call 87; refine (r_Right _ _).mono ?_; rintro e w' ⟨rfl, rfl⟩)
    go_ret
    exact ⟨rfl, rfl⟩
  · have h0 : 0 ≤ m ∧ m < 64 := by unfold sqR at q; simpa using q
    have g1 := h0.1
    have g2 := h0.2
    clear h0
    go_enter Try.func62, Try.ntmps62
    go_wp2_with (go_at_call 87; refine (r_Right _ _).mono ?_; rintro e w' ⟨rfl, rfl⟩)
    go_loop [0, 3] (fun i n => ∃ (k : Int) (c : Nat), 0 ≤ k ∧ k < 64 ∧ c ≤ 8 ∧ i = .int .i64 k ∧ n = .int .i64 c ∧ k + 8 * c = m) (fun i _ => (intOf i).toNat)
    case atStart => exact ⟨m, 0, g1, g2, by omega, rfl, rfl, by omega⟩
    case round =>
      obtain ⟨k, c, k1, k2, kc, rfl, rfl, ke⟩ := hrel
      have E := Lib.hid ke
      clear ke
      go_wp2
      · go_round
        case rel => exact ⟨k - 8, c + 1, by omega, by omega, by have := E.out; omega, rfl, by go_num, by have := E.out; omega⟩
        case measure => simp [intOf]; omega
      · go_ret
        exact ⟨re_int (by have := E.out; omega), rfl⟩
theorem r_Side (m : Int) (w : World) : Calls Try.prog 44 #[.int .i64 m] w fun e w' => e = .returned (.int .i64 (mSide m)) ∧ w = w' := by
  cases q : mRight m
  · have E := Lib.hid (show mSide m = -1 by unfold mSide; simp [q])
    have e0 : mKind m = 0 := by unfold mKind; simp [q]
    go_enter Try.func44, Try.ntmps44
    go_wp2_with (go_at_call 81; refine (r_Kind _ _).mono ?_; rintro e w' ⟨rfl, rfl⟩)
    go_ret
    exact ⟨re_int E.out.symm, rfl⟩
  · have hb := mRight_bd q
    have b0 : (mKind m == 0) = false := by unfold mKind; rw [if_pos q]; simp; omega
    by_cases q1 : 0 < m
    · have E := Lib.hid (show mSide m = 0 by unfold mSide; simp [q, q1])
      go_enter Try.func44, Try.ntmps44
      go_wp2_with (go_at_call 81; refine (r_Kind _ _).mono ?_; rintro e w' ⟨rfl, rfl⟩)
      go_ret
      exact ⟨re_int E.out.symm, rfl⟩
    · have E := Lib.hid (show mSide m = 1 by unfold mSide; simp [q, q1])
      have q2 : m < 0 := by omega
      clear hb q1
      go_enter Try.func44, Try.ntmps44
      go_wp2_with (go_at_call 81; refine (r_Kind _ _).mono ?_; rintro e w' ⟨rfl, rfl⟩)
      go_ret
      exact ⟨re_int E.out.symm, rfl⟩
end Go.Proofs.Ytibaembmdcdbkaa
