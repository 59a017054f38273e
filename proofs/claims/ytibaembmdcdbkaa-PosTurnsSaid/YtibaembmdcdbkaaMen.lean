import Derived.Test.YtibaembmdcdbkaaGeo
namespace Go.Proofs.Ytibaembmdcdbkaa.Alf

def mRight (m : Int) : Bool := (!(m == 0) && decide (-6 ≤ m)) && decide (m ≤ 6)
def mKind (m : Int) : Int := if mRight m then max m (-m) else 0
def mSide (m : Int) : Int := if mRight m then (if 0 < m then 0 else 1) else -1
def mMake (kind side : Int) : Int := if kind < 1 ∨ 6 < kind then 0 else if side = 0 then kind else if side = 1 then -kind else 0
def mOther (side : Int) : Int := if side = 0 ∨ side = 1 then 1 - side else -1

def stepsD (man : Int) : List (Int × Int) :=
  if mKind man = 1 then (let a := if mSide man = 1 then -1 else 1; [(1, a), (-1, a)])
  else if mKind man = 2 then jumpD
  else if mKind man = 3 then slantD
  else if mKind man = 4 then straightD
  else straightD ++ slantD
def stepsN (man : Int) : Nat := if mKind man = 1 ∨ mKind man = 2 ∨ mKind man = 6 then 1 else 64

/-- the squares up to the first on which it does not go on, that one too -/
def thru (go : Int → Bool) : List Int → List Int
  | [] => []
  | x :: r => x :: if go x then thru go r else []

def alongL (go : Int → Bool) (man s : Int) : List Int :=
  (stepsD man).flatMap fun d => thru go (walkL (stepsN man) s d.1 d.2)

def bd (b : List Int) (s : Int) : Int := b.getD s.toNat 0
def bRight (b : List Int) : Bool := b.all fun m => m == 0 || mRight m
def sortI (l : List Int) : List Int := l.mergeSort (fun x y => decide (x ≤ y))
def emp (b : List Int) (t : Int) : Bool := bd b t == 0

def strikesL (b : List Int) (s : Int) : List Int := sortI (alongL (emp b) (bd b s) s)
def sees (b : List Int) (s : Int) : Bool := sqR s && bRight b
def pStrikes (b : List Int) (s : Int) : List Int := if sees b s && !(bd b s == 0) then strikesL b s else []
/-- of a kind: what is gathered -/
def fromK (b : List Int) (s side kind : Int) : List Int :=
  (alongL (emp b) (-(mMake kind side)) s).filter fun t => bd b t == mMake kind side
def fromAll (b : List Int) (s side : Int) : List Int := [1, 2, 3, 4, 5, 6].flatMap (fromK b s side)
def fromL (b : List Int) (s side : Int) (most : Nat) : List Int := sortI ((fromAll b s side).take most)
def pBy (b : List Int) (s side : Int) : List Int := if sees b s && decide (0 ≤ mOther side) then fromL b s side 64 else []
def pStruck (b : List Int) (s side : Int) : Bool := sees b s && decide (0 ≤ mOther side) && !(fromAll b s side).isEmpty

/-! the document's answer -/
def hitRay (b : List Int) (t : Int) : List Int → Bool
  | [] => false
  | x :: r => if x == t then true else if bd b x == 0 then hitRay b t r else false
def refD (man : Int) : List (Int × Int) := if mRight man then stepsD man else []
def slidesR (man : Int) : Bool := mKind man == 3 || mKind man == 4 || mKind man == 5
def refRay (man s : Int) (d : Int × Int) : List Int :=
  let l := walkL 64 s d.1 d.2
  if 1 < l.length ∧ slidesR man = false then l.take 1 else l
def refOf (man s : Int) : List (List Int) := ((refD man).map (refRay man s)).filter fun l => decide (0 < l.length)
def rHits (b : List Int) (s t : Int) : Bool := (refOf (bd b s) s).any (hitRay b t)
def rStrikes (b : List Int) (s : Int) : List Int := if sees b s then squares.filter (rHits b s) else []
def rBy (b : List Int) (s side : Int) : List Int :=
  if sees b s then squares.filter (fun f => mSide (bd b f) == side && rHits b f s) else []

theorem walkL_take (n m : Nat) (s df dr : Int) (h : n ≤ m) : walkL n s df dr = (walkL m s df dr).take n := by
  induction n generalizing m s with
  | zero => simp [walkL]
  | succ n ih =>
    obtain ⟨m, rfl⟩ : ∃ k, m = k + 1 := ⟨m - 1, by omega⟩
    simp only [walkL]
    split
    · simp
    · split
      · simp
      · simp [ih m _ (by omega)]

theorem mem_thru (b : List Int) (t : Int) (l : List Int) : t ∈ thru (emp b) l ↔ hitRay b t l = true := by
  induction l with
  | nil => simp [thru, hitRay]
  | cons x r ih =>
    simp only [thru, hitRay, List.mem_cons]
    by_cases h : x = t
    · subst h; simp
    · have h' : ¬ t = x := fun e => h e.symm
      by_cases e : bd b x = 0
      · simp [h, h', e, emp, ih]
      · simp [h, h', e, emp]

/-- struck along a ray: at place k, all ahead empty -/
theorem hitRay_iff (b : List Int) (t : Int) (l : List Int) : hitRay b t l = true ↔ ∃ k, l[k]? = some t ∧ ∀ x ∈ l.take k, bd b x = 0 := by
  induction l with
  | nil => simp [hitRay]
  | cons x r ih =>
    simp only [hitRay]
    by_cases h : x = t
    · subst h
      simp only [beq_self_eq_true, if_true, true_iff]
      exact ⟨0, by simp, by simp⟩
    · simp only [beq_iff_eq, if_neg h]
      by_cases e : bd b x = 0
      · rw [if_pos e, ih]
        constructor
        · rintro ⟨k, hk, hx⟩
          exact ⟨k + 1, by simpa using hk, by simpa [e] using hx⟩
        · rintro ⟨k, hk, hx⟩
          cases k with
          | zero => simp at hk; exact absurd hk h
          | succ k => exact ⟨k, by simpa using hk, fun y hy => hx y (by simp [hy])⟩
      · rw [if_neg e]
        simp only [Bool.false_eq_true, false_iff]
        rintro ⟨k, hk, hx⟩
        cases k with
        | zero => simp at hk; exact absurd hk h
        | succ k => exact e (hx x (by simp))

theorem slides_n (man : Int) (h : mRight man = true) : slidesR man = true ↔ stepsN man = 64 := by
  have : -6 ≤ man ∧ man ≤ 6 := by unfold mRight at h; simp at h; omega
  have key : ∀ m ∈ (List.range 13).map (fun n => Int.ofNat n - 6), mRight m = true → (slidesR m = true ↔ stepsN m = 64) := by decide
  exact key man (by simp only [List.mem_map, List.mem_range]; exact ⟨(man + 6).toNat, by omega, by simp only [Int.ofNat_eq_natCast]; omega⟩) h
theorem stepsN_or (man : Int) : stepsN man = 1 ∨ stepsN man = 64 := by unfold stepsN; split <;> simp
theorem stepsD_all (man : Int) : ∀ d ∈ stepsD man, d ∈ allD := by
  intro d hd
  unfold stepsD at hd
  unfold allD
  split at hd
  · simp only at hd
    split at hd <;> simp at hd <;> rcases hd with rfl | rfl <;> decide
  · split at hd
    · simp [hd]
    · split at hd
      · simp [hd]
      · split at hd
        · simp [hd]
        · simp only [List.mem_append] at hd ⊢; exact .inl hd

theorem refRay_eq (man s : Int) (h : mRight man = true) (d : Int × Int) : refRay man s d = walkL (stepsN man) s d.1 d.2 := by
  unfold refRay
  have hs := slides_n man h
  rcases stepsN_or man with e | e
  · have hf : slidesR man = false := by
      cases hh : slidesR man with
      | false => rfl
      | true => rw [hh] at hs; simp [e] at hs
    simp only [hf, e, and_true]
    rw [walkL_take 1 64 s _ _ (by omega)]
    split
    · rfl
    · rw [List.take_of_length_le (by omega)]
  · have hf : slidesR man = true := hs.2 e
    simp [hf, e]

theorem rHits_iff (b : List Int) (s t : Int) : rHits b s t = true ↔ mRight (bd b s) = true ∧ ∃ d ∈ stepsD (bd b s), hitRay b t (walkL (stepsN (bd b s)) s d.1 d.2) = true := by
  unfold rHits refOf refD
  by_cases h : mRight (bd b s) = true
  · simp only [h, if_true, List.any_eq_true, List.mem_filter, List.mem_map, true_and]
    constructor
    · rintro ⟨l, ⟨⟨d, hd, rfl⟩, _⟩, hl⟩
      exact ⟨d, hd, by rw [← refRay_eq _ _ h]; exact hl⟩
    · rintro ⟨d, hd, hl⟩
      refine ⟨_, ⟨⟨d, hd, rfl⟩, ?_⟩, by rw [refRay_eq _ _ h]; exact hl⟩
      rw [refRay_eq _ _ h, decide_eq_true_iff]
      cases hw : walkL (stepsN (bd b s)) s d.1 d.2 with
      | nil => rw [hw] at hl; simp [hitRay] at hl
      | cons => simp
  · simp [h]

theorem mem_along (b : List Int) (man s t : Int) : t ∈ alongL (emp b) man s ↔ ∃ d ∈ stepsD man, hitRay b t (walkL (stepsN man) s d.1 d.2) = true := by
  unfold alongL
  simp only [List.mem_flatMap, mem_thru]

theorem stepsD_neg : ∀ m ∈ (List.range 13).map (fun n => Int.ofNat n - 6), mRight m = true → stepsN (-m) = stepsN m ∧ ∀ d ∈ stepsD m, (-d.1, -d.2) ∈ stepsD (-m) := by decide

theorem men_mem (m : Int) (h : mRight m = true) : m ∈ (List.range 13).map (fun n => Int.ofNat n - 6) := by
  have : -6 ≤ m ∧ m ≤ 6 := by unfold mRight at h; simp at h; omega
  simp only [List.mem_map, List.mem_range]; exact ⟨(m + 6).toNat, by omega, by simp only [Int.ofNat_eq_natCast]; omega⟩
theorem mRight_neg (m : Int) : mRight (-m) = mRight m := by
  unfold mRight; rw [Bool.eq_iff_iff]; simp; omega

/-- who strikes is struck, by a man of the other side -/
theorem hit_sym (b : List Int) (m s t : Int) (hm : mRight m = true) (hs : s ∈ squares)
    (h : ∃ d ∈ stepsD m, hitRay b t (walkL (stepsN m) s d.1 d.2) = true) : t ∈ squares ∧ ∃ d ∈ stepsD (-m), hitRay b s (walkL (stepsN (-m)) t d.1 d.2) = true := by
  obtain ⟨d, hd, hh⟩ := h
  obtain ⟨hn, hneg⟩ := stepsD_neg m (men_mem m hm) hm
  obtain ⟨k, hk, hx⟩ := (hitRay_iff b t _).1 hh
  have hle : stepsN m ≤ 64 := by rcases stepsN_or m with e | e <;> omega
  rw [walkL_take _ 64 s _ _ hle, List.getElem?_take] at hk
  have hkn : k < stepsN m := by
    apply Classical.byContradiction
    intro hc
    rw [if_neg hc] at hk
    cases hk
  rw [if_pos hkn] at hk
  have hkl : k < (walkL 64 s d.1 d.2).length := (List.getElem?_eq_some_iff.1 hk).1
  have hgd : (walkL 64 s d.1 d.2).getD k 0 = t := by rw [List.getD_eq_getElem?_getD, hk]; rfl
  obtain ⟨r1, r2⟩ := rev_table d (stepsD_all m d hd) s hs k hkl
  rw [hgd] at r1 r2
  refine ⟨walk_sq d (stepsD_all m d hd) s hs t (List.mem_of_getElem? hk), (-d.1, -d.2), hneg d hd, (hitRay_iff b s _).2 ⟨k, ?_, ?_⟩⟩
  · rw [hn, walkL_take _ 64 _ _ _ hle, List.getElem?_take, if_pos hkn]; exact r1
  · rw [hn, walkL_take _ 64 _ _ _ hle, List.take_take, Nat.min_eq_left (by omega), r2]
    intro x hx'
    refine hx x ?_
    rw [walkL_take _ 64 _ _ _ hle, List.take_take, Nat.min_eq_left (by omega)]
    simpa using hx'
end Go.Proofs.Ytibaembmdcdbkaa.Alf
