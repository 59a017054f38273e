namespace Go.Proofs.Ytibaembmdcdbkaa.Alf

def sqR (s : Int) : Bool := decide (0 ≤ s) && decide (s < 64)
def onB (n : Int) : Bool := decide (0 ≤ n) && decide (n < 8)
def atSq (f r : Int) : Option Int := if onB f && onB r then some (8 * r + f) else none
def stepSq (s df dr : Int) : Option Int :=
  if sqR s && (decide (-8 < df) && decide (df < 8)) && (decide (-8 < dr) && decide (dr < 8)) then atSq (s % 8 + df) (s / 8 + dr) else none
def walkL : Nat → Int → Int → Int → List Int
  | 0, _, _, _ => []
  | n + 1, s, df, dr => match stepSq s df dr with
    | none => []
    | some t => if df = 0 ∧ dr = 0 then [] else t :: walkL n t df dr

def straightD : List (Int × Int) := [(0, 1), (1, 0), (0, -1), (-1, 0)]
def slantD : List (Int × Int) := [(1, 1), (1, -1), (-1, -1), (-1, 1)]
def jumpD : List (Int × Int) := [(1, 2), (2, 1), (2, -1), (1, -2), (-1, -2), (-2, -1), (-2, 1), (-1, 2)]
def allD : List (Int × Int) := straightD ++ slantD ++ jumpD
def squares : List Int := (List.range 64).map Int.ofNat

theorem mem_squares (s : Int) : s ∈ squares ↔ 0 ≤ s ∧ s < 64 := by
  unfold squares
  simp only [List.mem_map, List.mem_range]
  constructor
  · rintro ⟨n, h, rfl⟩; simp only [Int.ofNat_eq_natCast]; omega
  · intro ⟨h0, h1⟩; exact ⟨s.toNat, by omega, by simp only [Int.ofNat_eq_natCast]; omega⟩

/-- the reverse of a ray -/
theorem rev_table : ∀ d ∈ allD, ∀ s ∈ squares, ∀ k < (walkL 64 s d.1 d.2).length,
    (walkL 64 ((walkL 64 s d.1 d.2).getD k 0) (-d.1) (-d.2))[k]? = some s ∧
    (walkL 64 ((walkL 64 s d.1 d.2).getD k 0) (-d.1) (-d.2)).take k = ((walkL 64 s d.1 d.2).take k).reverse := by
  decide +kernel

theorem walk_sq : ∀ d ∈ allD, ∀ s ∈ squares, ∀ t ∈ walkL 64 s d.1 d.2, t ∈ squares := by decide +kernel
theorem walk_len : ∀ d ∈ allD, ∀ s ∈ squares, (walkL 64 s d.1 d.2).length ≤ 7 := by decide +kernel

end Go.Proofs.Ytibaembmdcdbkaa.Alf
