import Derived.Test.YtibaembmdcdbkaaMen
namespace Go.Proofs.Ytibaembmdcdbkaa.Alf

theorem squares_lt : squares.Pairwise (· < ·) := by decide +kernel
theorem squares_nodup : squares.Nodup := squares_lt.imp (fun h e => by omega)

theorem sort_filter (l : List Int) (hn : l.Nodup) (hs : ∀ x ∈ l, x ∈ squares) : sortI l = squares.filter (fun x => decide (x ∈ l)) := by
  unfold sortI
  refine List.Perm.eq_of_pairwise (le := fun a b => decide (a ≤ b) = true) (fun a b _ _ h1 h2 => ?_) (List.pairwise_mergeSort ?_ ?_ _) ?_ ?_
  · simp at h1 h2; omega
  · intro a b c h1 h2; simp at *; omega
  · intro a b; simp; omega
  · exact (squares_lt.imp (fun h => by simp; omega)).sublist List.filter_sublist
  · refine (List.mergeSort_perm _ _).trans ?_
    rw [List.perm_ext_iff_of_nodup hn (squares_nodup.sublist List.filter_sublist)]
    intro a
    simp only [List.mem_filter, decide_eq_true_eq]
    exact ⟨fun h => ⟨hs a h, h⟩, fun h => h.2⟩

theorem rays_nodup : ∀ m ∈ (List.range 13).map (fun n => Int.ofNat n - 6), mRight m = true → ∀ s ∈ squares, ((stepsD m).flatMap fun d => walkL (stepsN m) s d.1 d.2).Nodup := by decide +kernel

theorem thru_sub (go : Int → Bool) (l : List Int) : (thru go l).Sublist l := by
  induction l with
  | nil => exact List.Sublist.refl _
  | cons x r ih =>
    simp only [thru]
    split
    · exact ih.cons_cons x
    · exact (List.nil_sublist r).cons_cons x

theorem flatMap_sub {α β : Type} (f g : α → List β) (h : ∀ a, (f a).Sublist (g a)) (l : List α) : (l.flatMap f).Sublist (l.flatMap g) := by
  induction l with
  | nil => exact List.Sublist.refl _
  | cons a l ih => simp only [List.flatMap_cons]; exact (h a).append ih

theorem along_nodup (go : Int → Bool) (m s : Int) (hm : mRight m = true) (hs : s ∈ squares) : (alongL go m s).Nodup :=
  (rays_nodup m (men_mem m hm) hm s hs).sublist (flatMap_sub _ _ (fun _ => thru_sub _ _) _)

theorem along_sq (go : Int → Bool) (m s : Int) (hs : s ∈ squares) (t : Int) (ht : t ∈ alongL go m s) : t ∈ squares := by
  unfold alongL at ht
  obtain ⟨d, hd, h⟩ := List.mem_flatMap.1 ht
  have h' := (thru_sub go _).subset h
  rw [walkL_take _ 64 _ _ _ (by rcases stepsN_or m with e | e <;> omega)] at h'
  exact walk_sq d (stepsD_all m d hd) s hs t (List.mem_of_mem_take h')

theorem sqR_mem (s : Int) : sqR s = true ↔ s ∈ squares := by
  rw [mem_squares]; unfold sqR; simp

theorem bd_right (b : List Int) (s : Int) (h : bRight b = true) (h0 : bd b s ≠ 0) : mRight (bd b s) = true := by
  unfold bRight at h
  rw [List.all_eq_true] at h
  unfold bd at *
  rw [List.getD_eq_getElem?_getD] at *
  cases he : b[s.toNat]? with
  | none => rw [he] at h0; simp at h0
  | some x =>
    rw [he] at h0
    have := h x (List.mem_of_getElem? he)
    simp only [Option.getD_some] at *
    simpa [h0] using this

theorem rHits_along (b : List Int) (s t : Int) (hm : mRight (bd b s) = true) : rHits b s t = true ↔ t ∈ alongL (emp b) (bd b s) s := by
  rw [rHits_iff, mem_along]; simp [hm]

/-- what a man strikes is what the document says -/
theorem pStrikes_eq (b : List Int) (s : Int) : pStrikes b s = rStrikes b s := by
  unfold pStrikes rStrikes
  by_cases h : sees b s = true
  · simp only [h, Bool.true_and, if_true]
    have h' : s ∈ squares ∧ bRight b = true := by
      unfold sees at h; rw [Bool.and_eq_true] at h; exact ⟨(sqR_mem s).1 h.1, h.2⟩
    by_cases h0 : bd b s = 0
    · simp only [h0, beq_self_eq_true, Bool.not_true, Bool.false_eq_true, if_false]
      symm
      rw [List.filter_eq_nil_iff]
      intro t _ ht
      have := (rHits_iff b s t).1 ht
      rw [h0] at this
      simp [mRight] at this
    · have hm := bd_right b s h'.2 h0
      have e0 : (!(bd b s == 0)) = true := by simp [h0]
      rw [if_pos e0]
      unfold strikesL
      rw [sort_filter _ (along_nodup _ _ _ hm h'.1) (fun t => along_sq _ _ _ h'.1 t)]
      refine List.filter_congr fun t _ => ?_
      rw [Bool.eq_iff_iff, decide_eq_true_iff, rHits_along b s t hm]
  · simp [h]

/-! by whom a square is struck -/
theorem mMake_side (k side : Int) (hk : 1 ≤ k ∧ k ≤ 6) (hs : side = 0 ∨ side = 1) : mRight (mMake k side) = true ∧ mSide (mMake k side) = side ∧ mKind (mMake k side) = k := by
  unfold mMake mSide mKind
  rw [if_neg (by omega)]
  rcases hs with rfl | rfl
  · rw [if_pos rfl]
    have : mRight k = true := by unfold mRight; simp; omega
    simp only [this, if_true, true_and]
    refine ⟨by rw [if_pos (by omega)], by omega⟩
  · rw [if_neg (by omega), if_pos rfl]
    have : mRight (-k) = true := by unfold mRight; simp; omega
    simp only [this, if_true, true_and]
    refine ⟨by rw [if_neg (by omega)], by omega⟩

theorem mMake_of (m : Int) (h : mRight m = true) : mMake (mKind m) (mSide m) = m ∧ 1 ≤ mKind m ∧ mKind m ≤ 6 ∧ (mSide m = 0 ∨ mSide m = 1) := by
  have : -6 ≤ m ∧ m ≤ 6 ∧ m ≠ 0 := by unfold mRight at h; simp at h; omega
  unfold mMake mKind mSide
  simp only [h, if_true]
  by_cases hp : 0 < m
  · simp only [if_pos hp]
    refine ⟨?_, by omega, by omega, .inl trivial⟩
    rw [if_neg (by omega)]; simp; omega
  · simp only [if_neg hp]
    refine ⟨?_, by omega, by omega, .inr trivial⟩
    rw [if_neg (by omega)]; simp; omega

theorem mem_fromAll (b : List Int) (s side t : Int) (hs : s ∈ squares) (hside : side = 0 ∨ side = 1) :
    t ∈ fromAll b s side ↔ t ∈ squares ∧ mSide (bd b t) = side ∧ rHits b t s = true := by
  unfold fromAll
  rw [List.mem_flatMap]
  constructor
  · rintro ⟨k, hk, ht⟩
    have hk' : 1 ≤ k ∧ k ≤ 6 := by simp at hk; omega
    obtain ⟨m1, m2, m3⟩ := mMake_side k side hk' hside
    unfold fromK at ht
    rw [List.mem_filter] at ht
    obtain ⟨ht, hm⟩ := ht
    have hm' : bd b t = mMake k side := by simpa using hm
    have hneg : mRight (-(mMake k side)) = true := by rw [mRight_neg]; exact m1
    obtain ⟨q1, q2⟩ := hit_sym b _ s t hneg hs ((mem_along b _ s t).1 ht)
    rw [Int.neg_neg] at q2
    refine ⟨q1, by rw [hm']; exact m2, (rHits_iff b t s).2 ⟨by rw [hm']; exact m1, by rw [hm']; exact q2⟩⟩
  · rintro ⟨ht, h1, h2⟩
    obtain ⟨hr, hh⟩ := (rHits_iff b t s).1 h2
    obtain ⟨k1, k2, k3, k4⟩ := mMake_of _ hr
    refine ⟨mKind (bd b t), by simp; omega, ?_⟩
    unfold fromK
    rw [List.mem_filter]
    rw [h1] at k1
    rw [k1]
    exact ⟨(mem_along b _ s t).2 (hit_sym b _ t s hr ht hh).2, by simp⟩

theorem fromAll_nodup (b : List Int) (s side : Int) (hs : s ∈ squares) (hside : side = 0 ∨ side = 1) : (fromAll b s side).Nodup := by
  have one : ∀ k ∈ [1, 2, 3, 4, 5, 6], (fromK b s side k).Nodup := fun k hk => by
    have hk' : 1 ≤ k ∧ k ≤ 6 := by simp at hk; omega
    unfold fromK
    exact (along_nodup _ _ _ (by rw [mRight_neg]; exact (mMake_side k side hk' hside).1) hs).sublist List.filter_sublist
  have dis : ∀ j ∈ [1, 2, 3, 4, 5, 6], ∀ k ∈ [1, 2, 3, 4, 5, 6], j ≠ k → ∀ x ∈ fromK b s side j, ∀ y ∈ fromK b s side k, x ≠ y := by
    intro j hj k hk hne x hx y hy e
    subst e
    unfold fromK at hx hy
    simp only [List.mem_filter, beq_iff_eq] at hx hy
    have e1 := (mMake_side j side (by simp at hj; omega) hside).2.2
    have e2 := (mMake_side k side (by simp at hk; omega) hside).2.2
    rw [← hx.2] at e1
    rw [← hy.2] at e2
    omega
  unfold fromAll List.Nodup
  rw [List.pairwise_flatMap]
  refine ⟨one, ?_⟩
  have : ([1, 2, 3, 4, 5, 6] : List Int).Pairwise (· ≠ ·) := by decide
  exact this.imp_of_mem (fun {a b'} ha hb hne => dis a ha b' hb hne)

theorem mOther_ok (side : Int) : decide (0 ≤ mOther side) = true ↔ side = 0 ∨ side = 1 := by
  unfold mOther
  rw [decide_eq_true_iff]
  split <;> omega

theorem fromAll_sq (b : List Int) (s side : Int) (hs : s ∈ squares) : ∀ x ∈ fromAll b s side, x ∈ squares := by
  intro x hx
  unfold fromAll at hx
  obtain ⟨k, _, h⟩ := List.mem_flatMap.1 hx
  unfold fromK at h
  exact along_sq _ _ _ hs x (List.mem_filter.1 h).1

theorem nodup_len (l : List Int) (hn : l.Nodup) (hs : ∀ x ∈ l, x ∈ squares) : l.length ≤ 64 := by
  have h := congrArg List.length (sort_filter l hn hs)
  unfold sortI at h
  rw [List.length_mergeSort] at h
  rw [h]
  exact Nat.le_trans (List.length_filter_le _ _) (by decide)

theorem pBy_eq (b : List Int) (s side : Int) : pBy b s side = rBy b s side := by
  unfold pBy rBy
  by_cases h : sees b s = true
  · simp only [h, Bool.true_and, if_true]
    have h' : s ∈ squares ∧ bRight b = true := by
      unfold sees at h; rw [Bool.and_eq_true] at h; exact ⟨(sqR_mem s).1 h.1, h.2⟩
    by_cases hside : side = 0 ∨ side = 1
    · rw [if_pos ((mOther_ok side).2 hside)]
      unfold fromL
      have hn := fromAll_nodup b s side h'.1 hside
      have hq := fromAll_sq b s side h'.1
      rw [List.take_of_length_le (nodup_len _ hn hq), sort_filter _ hn hq]
      refine List.filter_congr fun t ht => ?_
      rw [Bool.eq_iff_iff, decide_eq_true_iff, mem_fromAll b s side t h'.1 hside]
      simp [ht]
    · rw [if_neg (fun e => hside ((mOther_ok side).1 e))]
      symm
      rw [List.filter_eq_nil_iff]
      intro t _ ht
      rw [Bool.and_eq_true] at ht
      have hr := ((rHits_iff b t s).1 ht.2).1
      have := (mMake_of _ hr).2.2.2
      have e : mSide (bd b t) = side := by simpa using ht.1
      rw [e] at this
      exact hside this
  · simp [h]

theorem pStruck_eq (b : List Int) (s side : Int) : pStruck b s side = decide (0 < (pBy b s side).length) := by
  unfold pStruck pBy
  by_cases h : (sees b s && decide (0 ≤ mOther side)) = true
  · rw [if_pos h, h, Bool.true_and]
    unfold fromL sortI
    rw [List.length_mergeSort]
    cases fromAll b s side <;> simp
  · rw [if_neg h]
    have h' : (sees b s && decide (0 ≤ mOther side)) = false := by simpa using h
    rw [h']; simp

/-- a man strikes just the squares that tell so of it -/
theorem both (b : List Int) (s t : Int) (ht : t ∈ squares) : (s ∈ pBy b t 0 ++ pBy b t 1) ↔ t ∈ pStrikes b s := by
  rw [pStrikes_eq, pBy_eq, pBy_eq, List.mem_append]
  unfold rBy rStrikes
  have hst : sees b t = bRight b := by unfold sees; rw [(sqR_mem t).2 ht, Bool.true_and]
  by_cases hb : bRight b = true
  · rw [hst, hb, if_pos rfl, if_pos rfl]
    simp only [List.mem_filter, Bool.and_eq_true, beq_iff_eq]
    by_cases hs : s ∈ squares
    · have : sees b s = true := by unfold sees; rw [(sqR_mem s).2 hs, hb]; rfl
      rw [if_pos this, List.mem_filter]
      constructor
      · rintro (⟨_, _, h⟩ | ⟨_, _, h⟩) <;> exact ⟨ht, h⟩
      · rintro ⟨_, h⟩
        rcases (mMake_of _ ((rHits_iff b s t).1 h).1).2.2.2 with e | e
        · exact .inl ⟨hs, e, h⟩
        · exact .inr ⟨hs, e, h⟩
    · have : ¬ sees b s = true := by unfold sees; rw [Bool.and_eq_true, sqR_mem]; exact fun e => hs e.1
      rw [if_neg this]
      simp [hs]
  · have hb' : bRight b = false := by simpa using hb
    have : ¬ sees b s = true := by unfold sees; rw [hb']; simp
    rw [hst, hb', if_neg (by simp), if_neg (by simp), if_neg this]
    simp
end Go.Proofs.Ytibaembmdcdbkaa.Alf
