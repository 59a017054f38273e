import Derived.Test.YtibaembmdcdbkaaBd
import Derived.Test.YtibaembmdcdbkaaKg
namespace Go.Proofs.Ytibaembmdcdbkaa
open Go.RowKit Alf

/-! how many men; what is wrong with a board: plain -/
def manyP (kind side x : Int) : Bool := (mRight x && mSide x == side) && (kind == 0 || mKind x == kind)
def many (b : List Int) (kind side : Int) : Nat := b.countP (manyP kind side)
def rimP (b : List Int) (s : Nat) : Bool := mKind (bd b s) == 1 && (decide (s < 8) || decide (56 ≤ s))
def rimB (b : List Int) : Bool := (List.range 64).any (rimP b)
def bWrong (b : List Int) : Int :=
  if bRight b = false then 5 else if ¬ b.count 6 = 1 ∨ ¬ b.count (-6) = 1 then 6 else if rimB b = true then 7 else if 16 < many b 0 0 ∨ 16 < many b 0 1 then 8 else 0

theorem manyP_king (s : Int) (hs : s = 0 ∨ s = 1) (x : Int) : manyP 6 s x = (x == (if s = 0 then 6 else -6)) := by
  unfold manyP mKind mSide
  by_cases h : mRight x = true
  · have hb := mRight_bd h
    have key : ∀ m ∈ (List.range 13).map (fun n => Int.ofNat n - 6), ∀ s ∈ [(0 : Int), 1], mRight m = true → ((mRight m && (if mRight m then (if 0 < m then (0 : Int) else 1) else -1) == s) && ((6 : Int) == 0 || (if mRight m then max m (-m) else 0) == 6)) = (m == (if s = 0 then 6 else -6)) := by decide
    exact key x (men_mem x h) s (by rcases hs with rfl | rfl <;> simp) h
  · have h' : mRight x = false := by simpa using h
    rw [h']
    have : ¬ x = (if s = 0 then 6 else -6) := fun e => by
      rcases hs with rfl | rfl
      · rw [if_pos rfl] at e; subst e; exact h (by decide)
      · rw [if_neg (by decide)] at e; subst e; exact h (by decide)
    simp [this]
theorem many_king0 (b : List Int) : many b 6 0 = b.count 6 := by
  unfold many List.count
  congr 1
  funext x
  rw [manyP_king 0 (.inl rfl)]; rfl
theorem many_king1 (b : List Int) : many b 6 1 = b.count (-6) := by
  unfold many List.count
  congr 1
  funext x
  rw [manyP_king 1 (.inr rfl)]; rfl
/-- all men of a side, kind by kind -/
def sumK (b : List Int) (sg : Int) : Nat → Nat
  | 0 => 0
  | k + 1 => sumK b sg k + b.count (sg * ((k : Int) + 1))
theorem sumK_many0 (b : List Int) : sumK b 1 6 = many b 0 0 := by
  unfold many
  induction b with
  | nil => rfl
  | cons x b ih =>
    have e : sumK (x :: b) 1 6 = sumK b 1 6 + (if manyP 0 0 x then 1 else 0) := by
      simp only [sumK, List.count_cons]
      unfold manyP mSide
      by_cases h : mRight x = true
      · have key : ∀ m ∈ (List.range 13).map (fun n => Int.ofNat n - 6), mRight m = true → (if m == 1 * (((0 : Nat) : Int) + 1) then 1 else 0) + (if m == 1 * (((1 : Nat) : Int) + 1) then 1 else 0) + (if m == 1 * (((2 : Nat) : Int) + 1) then 1 else 0) + (if m == 1 * (((3 : Nat) : Int) + 1) then 1 else 0) + (if m == 1 * (((4 : Nat) : Int) + 1) then 1 else 0) + (if m == 1 * (((5 : Nat) : Int) + 1) then 1 else 0) =
            (if ((mRight m && (if mRight m then (if 0 < m then (0 : Int) else 1) else -1) == 0) && ((0 : Int) == 0 || mKind m == 0)) then (1 : Nat) else 0) := by decide
        have := key x (men_mem x h) h
        omega
      · have h' : mRight x = false := by simpa using h
        have hx : ∀ y : Int, mRight y = true → (x == y) = false := fun y hy => by
          cases q : x == y
          · rfl
          · have : x = y := by simpa using q
            subst this; rw [hy] at h'; cases h'
        rw [h', hx _ (by decide), hx _ (by decide), hx _ (by decide), hx _ (by decide), hx _ (by decide), hx _ (by decide)]
        simp
    rw [e, ih, List.countP_cons]
theorem sumK_many1 (b : List Int) : sumK b (-1) 6 = many b 0 1 := by
  unfold many
  induction b with
  | nil => rfl
  | cons x b ih =>
    have e : sumK (x :: b) (-1) 6 = sumK b (-1) 6 + (if manyP 0 1 x then 1 else 0) := by
      simp only [sumK, List.count_cons]
      unfold manyP mSide
      by_cases h : mRight x = true
      · have key : ∀ m ∈ (List.range 13).map (fun n => Int.ofNat n - 6), mRight m = true → (if m == -1 * (((0 : Nat) : Int) + 1) then 1 else 0) + (if m == -1 * (((1 : Nat) : Int) + 1) then 1 else 0) + (if m == -1 * (((2 : Nat) : Int) + 1) then 1 else 0) + (if m == -1 * (((3 : Nat) : Int) + 1) then 1 else 0) + (if m == -1 * (((4 : Nat) : Int) + 1) then 1 else 0) + (if m == -1 * (((5 : Nat) : Int) + 1) then 1 else 0) =
            (if ((mRight m && (if mRight m then (if 0 < m then (0 : Int) else 1) else -1) == 1) && ((0 : Int) == 0 || mKind m == 0)) then (1 : Nat) else 0) := by decide
        have := key x (men_mem x h) h
        omega
      · have h' : mRight x = false := by simpa using h
        have hx : ∀ y : Int, mRight y = true → (x == y) = false := fun y hy => by
          cases q : x == y
          · rfl
          · have : x = y := by simpa using q
            subst this; rw [hy] at h'; cases h'
        rw [h', hx _ (by decide), hx _ (by decide), hx _ (by decide), hx _ (by decide), hx _ (by decide), hx _ (by decide)]
        simp
    rw [e, ih, List.countP_cons]

/-- a board is its squares' men, in order -/
theorem board_map (b : List Int) (hb : BOk b) : squares.map (bd b) = b := by
  apply List.ext_getElem?
  intro i
  rw [List.getElem?_map]
  by_cases h : i < 64
  · rw [squares_get i h]
    have := bd_mem b i (by rw [hb.1]; exact h)
    rw [this]; rfl
  · rw [List.getElem?_eq_none (by simp [squares]; omega), List.getElem?_eq_none (by rw [hb.1]; omega)]; rfl
theorem where_len (b : List Int) (hb : BOk b) (m : Int) : (squares.filter fun s => bd b s == m).length = b.count m := by
  rw [← List.countP_eq_length_filter]
  have := List.countP_map (p := (· == m)) (f := bd b) (l := squares)
  rw [board_map b hb] at this
  rw [List.count, this]; rfl
theorem take_succ_count (b : List Int) (p : Int → Bool) (k : Nat) (x : Int) (h : b[k]? = some x) : (b.take (k + 1)).countP p = (b.take k).countP p + if p x then 1 else 0 := by
  rw [List.take_add_one, h, List.countP_append]
  simp [List.countP_cons]
theorem count_le (b : List Int) (p : Int → Bool) (k : Nat) : (b.take k).countP p ≤ k := Nat.le_trans List.countP_le_length (by simp; omega)

/-- the rim, by files -/
def rimF (b : List Int) (f : Nat) : Bool := (((bd b f == 1) || (bd b f == -1)) || (bd b ((56 + f : Nat) : Int) == 1)) || (bd b ((56 + f : Nat) : Int) == -1)
theorem mKind_one (x : Int) : (mKind x == 1) = (x == 1 || x == -1) := by
  unfold mKind
  by_cases h : mRight x = true
  · have hb := mRight_bd h
    have key : ∀ m ∈ (List.range 13).map (fun n => Int.ofNat n - 6), mRight m = true → ((if mRight m then max m (-m) else 0) == 1) = (m == 1 || m == -1) := by decide
    exact key x (men_mem x h) h
  · have h' : mRight x = false := by simpa using h
    rw [h']
    have h1 : ¬ x = 1 := fun e => by subst e; exact h (by decide)
    have h2 : ¬ x = -1 := fun e => by subst e; exact h (by decide)
    simp [h1, h2]
theorem rim_eq (b : List Int) : rimB b = (List.range 8).any (rimF b) := by
  rw [Bool.eq_iff_iff]
  unfold rimB
  simp only [List.any_eq_true, List.mem_range]
  constructor
  · rintro ⟨s, hs, h⟩
    unfold rimP at h
    rw [mKind_one] at h
    simp only [Bool.and_eq_true, Bool.or_eq_true, decide_eq_true_eq] at h
    rcases h.2 with h8 | h56
    · exact ⟨s, h8, by unfold rimF; rcases h.1 with q | q <;> simp [q]⟩
    · refine ⟨s - 56, by omega, ?_⟩
      unfold rimF
      rw [show 56 + (s - 56) = s by omega]
      rcases h.1 with q | q <;> simp [q]
  · rintro ⟨f, hf, h⟩
    unfold rimF at h
    simp only [Bool.or_eq_true] at h
    rcases h with ((h | h) | h) | h
    · exact ⟨f, by omega, by unfold rimP; rw [mKind_one, h, decide_eq_true hf]; rfl⟩
    · exact ⟨f, by omega, by unfold rimP; rw [mKind_one, h, decide_eq_true hf]; simp⟩
    · exact ⟨56 + f, by omega, by unfold rimP; rw [mKind_one, h, decide_eq_true (show 56 ≤ 56 + f by omega)]; simp⟩
    · exact ⟨56 + f, by omega, by unfold rimP; rw [mKind_one, h, decide_eq_true (show 56 ≤ 56 + f by omega)]; simp⟩
end Go.Proofs.Ytibaembmdcdbkaa
