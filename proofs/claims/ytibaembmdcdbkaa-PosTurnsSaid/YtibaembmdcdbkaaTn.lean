import Derived.Test.YtibaembmdcdbkaaTu
import Derived.Test.YtibaembmdcdbkaaRy
namespace Go.Proofs.Ytibaembmdcdbkaa
open Go.RowKit Alf

/-! a right position that is turned is right: plain -/
theorem neg8_in (x : Int) (h : -127 ≤ x ∧ x ≤ 127) : neg8 x = -x := by
  unfold neg8 IntKind.wrap
  simp [IntKind.bits, IntKind.signed]
  omega
theorem neg8_neg8 (x : Int) (h : -128 ≤ x ∧ x ≤ 127) : neg8 (neg8 x) = x := by
  by_cases q : x = -128
  · subst q; decide
  · rw [neg8_in x (by omega), neg8_in (-x) (by omega)]; omega
theorem bd_nat (b : List Int) (k : Nat) (x : Int) (h : b[k]? = some x) : bd b k = x := by
  unfold bd
  rw [List.getD_eq_getElem?_getD, Int.toNat_natCast, h]
  rfl
theorem turn_get (b : List Int) (k : Nat) (hk : k < 64) : bd (turnB b) k = neg8 (bd b (flip k)) := by
  obtain ⟨f, h1, h2, h3⟩ := flip_nat k hk
  refine bd_nat _ k _ ?_
  unfold turnB turnK
  rw [List.getElem?_map, squares_get k hk]
  simp only [Option.map_some, turnP]
  rw [if_pos (by rw [h1]; omega)]
theorem flip_flip (k : Nat) (hk : k < 64) : flip (flip (k : Int)) = k := by
  obtain ⟨f, h1, h2, h3⟩ := flip_nat k hk
  obtain ⟨g, h4, h5, h6⟩ := flip_nat f h2
  rw [h1, h4]
  omega
theorem turnB_ok (b : List Int) (hb : BOk b) : BOk (turnB b) := turnK_ok b hb 64
theorem turn_turn (b : List Int) (hb : BOk b) : turnB (turnB b) = b := by
  apply List.ext_getElem?
  intro k
  by_cases hk : k < 64
  · obtain ⟨f, h1, h2, h3⟩ := flip_nat k hk
    rw [bd_mem (turnB (turnB b)) k (by rw [(turnB_ok _ (turnB_ok b hb)).1]; exact hk), bd_mem b k (by rw [hb.1]; exact hk), turn_get _ k hk, h1, turn_get b f h2, ← h1, flip_flip k hk, neg8_neg8 _ (bd_bounds b hb k)]
  · rw [List.getElem?_eq_none (by rw [(turnB_ok _ (turnB_ok b hb)).1]; omega), List.getElem?_eq_none (by rw [hb.1]; omega)]
theorem turnB_map (b : List Int) : turnB b = (squares.map flip).map (fun s => neg8 (bd b s)) := by
  unfold turnB turnK
  rw [List.map_map]
  apply List.map_congr_left
  intro s hs
  obtain ⟨h0, h1⟩ := (mem_squares s).1 hs
  obtain ⟨k, rfl⟩ := Int.eq_ofNat_of_zero_le h0
  obtain ⟨f, h2, h3, h4⟩ := flip_nat k (by omega)
  simp only [turnP, Function.comp]
  rw [if_pos (by rw [h2]; omega)]
theorem flips_perm : (squares.map flip).Perm squares := by decide +kernel
theorem turn_perm (b : List Int) (hb : BOk b) : (turnB b).Perm (b.map neg8) := by
  rw [turnB_map]
  refine (flips_perm.map _).trans ?_
  have : squares.map (fun s => neg8 (bd b s)) = b.map neg8 := by
    rw [show (fun s => neg8 (bd b s)) = neg8 ∘ bd b from rfl, ← List.map_map, board_map b hb]
  rw [this]
theorem men_small (m : Int) (h : m = 0 ∨ mRight m = true) : -6 ≤ m ∧ m ≤ 6 := by
  rcases h with h | h
  · omega
  · unfold mRight at h; simp at h; omega
theorem right_mem (b : List Int) (hr : bRight b = true) (x : Int) (hx : x ∈ b) : -6 ≤ x ∧ x ≤ 6 := by
  unfold bRight at hr
  rw [List.all_eq_true] at hr
  have := hr x hx
  exact men_small x (by simpa using this)
theorem turn_permR (b : List Int) (hb : BOk b) (hr : bRight b = true) : (turnB b).Perm (b.map fun x => -x) := by
  have h := turn_perm b hb
  have e : b.map neg8 = b.map fun x => -x := List.map_congr_left fun x hx => neg8_in x (by have := right_mem b hr x hx; omega)
  rwa [e] at h
theorem turn_getR (b : List Int) (hr : bRight b = true) (k : Nat) (hk : k < 64) : bd (turnB b) k = -bd b (flip k) := by
  rw [turn_get b k hk]
  refine neg8_in _ ?_
  by_cases h0 : bd b (flip k) = 0
  · omega
  · have := men_small _ (.inr (bd_right b _ hr h0)); omega
theorem turn_right (b : List Int) (hb : BOk b) (hr : bRight b = true) : bRight (turnB b) = true := by
  unfold bRight
  rw [List.all_eq_true]
  intro x hx
  have hm := (turn_permR b hb hr).mem_iff.1 hx
  obtain ⟨y, hy, rfl⟩ := List.mem_map.1 hm
  unfold bRight at hr
  rw [List.all_eq_true] at hr
  have := hr y hy
  rw [mRight_neg]
  simpa using this
theorem turn_countP (b : List Int) (hb : BOk b) (hr : bRight b = true) (p q : Int → Bool) (h : ∀ x, -6 ≤ x → x ≤ 6 → p (-x) = q x) : (turnB b).countP p = b.countP q := by
  rw [(turn_permR b hb hr).countP_eq, List.countP_map]
  exact List.countP_congr fun x hx => by have := right_mem b hr x hx; rw [Function.comp, h x this.1 this.2]
theorem turn_count (b : List Int) (hb : BOk b) (hr : bRight b = true) (m : Int) : (turnB b).count m = b.count (-m) := by
  rw [List.count_eq_countP, List.count_eq_countP]
  exact turn_countP b hb hr _ _ fun x _ _ => by rw [Bool.eq_iff_iff]; simp; omega
theorem manyP_neg (side : Int) (hs : side = 0 ∨ side = 1) (x : Int) (h0 : -6 ≤ x) (h1 : x ≤ 6) : manyP 0 side (-x) = manyP 0 (1 - side) x := by
  have key : ∀ n ∈ (List.range 13).map (fun n => Int.ofNat n - 6), manyP 0 0 (-n) = manyP 0 1 n ∧ manyP 0 1 (-n) = manyP 0 0 n := by decide
  have hm : x ∈ (List.range 13).map (fun n => Int.ofNat n - 6) := by
    simp only [List.mem_map, List.mem_range]; exact ⟨(x + 6).toNat, by omega, by simp only [Int.ofNat_eq_natCast]; omega⟩
  rcases hs with rfl | rfl
  · exact (key x hm).1
  · exact (key x hm).2
theorem turn_many (b : List Int) (hb : BOk b) (hr : bRight b = true) (side : Int) (hs : side = 0 ∨ side = 1) : many (turnB b) 0 side = many b 0 (1 - side) :=
  turn_countP b hb hr _ _ fun x h0 h1 => manyP_neg side hs x h0 h1
theorem mKind_neg (m : Int) : mKind (-m) = mKind m := by
  unfold mKind
  rw [mRight_neg]
  split
  · omega
  · rfl
theorem rim_false (b : List Int) : rimB b = false ↔ ∀ k : Nat, k < 64 → rimP b k = false := by
  unfold rimB
  rw [List.any_eq_false]
  constructor
  · intro h k hk; have := h k (List.mem_range.2 hk); simpa using this
  · intro h k hk; rw [h k (List.mem_range.1 hk)]; simp
theorem turn_rim (b : List Int) (hr : bRight b = true) (h : rimB b = false) : rimB (turnB b) = false := by
  rw [rim_false] at h ⊢
  intro k hk
  obtain ⟨f, h1, h2, h3⟩ := flip_nat k hk
  have := h f h2
  unfold rimP at this ⊢
  rw [turn_getR b hr k hk, mKind_neg, h1]
  have e : (decide (k < 8) || decide (56 ≤ k)) = (decide (f < 8) || decide (56 ≤ f)) := by
    rw [Bool.eq_iff_iff]; simp; omega
  rw [e]
  exact this
theorem wrong_parts (b : List Int) (h : bWrong b = 0) : bRight b = true ∧ b.count 6 = 1 ∧ b.count (-6) = 1 ∧ rimB b = false ∧ many b 0 0 ≤ 16 ∧ many b 0 1 ≤ 16 := by
  unfold bWrong at h
  cases hr : bRight b
  · rw [if_pos hr] at h; omega
  · rw [if_neg (by simp [hr])] at h
    by_cases hc : ¬ b.count 6 = 1 ∨ ¬ b.count (-6) = 1
    · rw [if_pos hc] at h; omega
    · rw [if_neg hc] at h
      cases hm : rimB b
      · rw [if_neg (by simp [hm])] at h
        by_cases hx : 16 < many b 0 0 ∨ 16 < many b 0 1
        · rw [if_pos hx] at h; omega
        · exact ⟨rfl, by omega, by omega, rfl, by omega, by omega⟩
      · rw [if_pos hm] at h; omega
theorem turn_wrong (b : List Int) (hb : BOk b) (h : bWrong b = 0) : bWrong (turnB b) = 0 := by
  obtain ⟨hr, h1, h2, h3, h4, h5⟩ := wrong_parts b h
  unfold bWrong
  rw [if_neg (by rw [turn_right b hb hr]; simp), if_neg (by rw [turn_count b hb hr, turn_count b hb hr]; simp only [Int.neg_neg]; omega), if_neg (by rw [turn_rim b hr h3]; simp),
    if_neg (by rw [turn_many b hb hr 0 (.inl rfl), turn_many b hb hr 1 (.inr rfl)]; simp only [Int.sub_zero, Int.sub_self]; omega)]

/-! kings -/
theorem one_of (b : List Int) (hb : BOk b) (m : Int) (h : b.count m = 1) (j k : Nat) (hj : j < 64) (hk : k < 64) (ej : bd b j = m) (ek : bd b k = m) : j = k := by
  have hl := where_len b hb m
  rw [h] at hl
  obtain ⟨x, hx⟩ := List.length_eq_one_iff.1 hl
  have hmem : ∀ i : Nat, i < 64 → bd b i = m → (i : Int) = x := fun i hi e => by
    have : (i : Int) ∈ squares.filter fun s => bd b s == m := List.mem_filter.2 ⟨(mem_squares _).2 (by omega), by simpa using e⟩
    rw [hx] at this
    simpa using this
  have := (hmem j hj ej).trans (hmem k hk ek).symm
  omega
theorem king_at (b : List Int) (hb : BOk b) (h : bWrong b = 0) (t : Int) (ht : t = 0 ∨ t = 1) : ∃ k : Nat, k < 64 ∧ pKing b t = k ∧ bd b k = (if t = 0 then 6 else -6) ∧ ∀ j : Nat, j < 64 → bd b j = (if t = 0 then 6 else -6) → j = k := by
  obtain ⟨_, h1, h2, _⟩ := wrong_parts b h
  rcases ht with rfl | rfl
  · obtain ⟨k, hk, e1, e2⟩ := found b hb 6 h1
    exact ⟨k, hk, by unfold pKing; rw [if_neg (by decide)]; exact e1, e2, fun j hj ej => one_of b hb 6 h1 j k hj hk ej e2⟩
  · obtain ⟨k, hk, e1, e2⟩ := found b hb (-6) h2
    exact ⟨k, hk, by unfold pKing; rw [if_neg (by decide)]; exact e1, e2, fun j hj ej => one_of b hb (-6) h2 j k hj hk ej e2⟩
theorem turn_king (b : List Int) (hb : BOk b) (h : bWrong b = 0) (t : Int) (ht : t = 0 ∨ t = 1) : pKing (turnB b) t = flip (pKing b (1 - t)) := by
  obtain ⟨hr, _⟩ := wrong_parts b h
  obtain ⟨k, hk, e1, e2, _⟩ := king_at (turnB b) (turnB_ok b hb) (turn_wrong b hb h) t ht
  obtain ⟨j, hj, f1, _, f3⟩ := king_at b hb h (1 - t) (by omega)
  obtain ⟨f, g1, g2, g3⟩ := flip_nat k hk
  rw [turn_getR b hr k hk, g1] at e2
  have := f3 f g2 (by rcases ht with rfl | rfl <;> simp at e2 ⊢ <;> omega)
  subst this
  rw [e1, f1, ← g1, flip_flip k hk]
theorem far_flip (x y : Nat) (hx : x < 64) (hy : y < 64) : farI (flip x) (flip y) = farI y x := by
  obtain ⟨f, h1, h2, h3⟩ := flip_nat x hx
  obtain ⟨g, h4, h5, h6⟩ := flip_nat y hy
  rw [h1, h4]
  have hq : ∀ n : Nat, n < 64 → sqR (n : Int) = true := fun n hn => by unfold sqR; simp; omega
  unfold farI
  rw [hq f h2, hq g h5, hq x hx, hq y hy]
  unfold gapI
  simp only [Bool.and_self, if_true]
  have a1 : (f : Int) % 8 = (x : Int) % 8 := by omega
  have a2 : (g : Int) % 8 = (y : Int) % 8 := by omega
  have a3 : (f : Int) / 8 = 7 - (x : Int) / 8 := by omega
  have a4 : (g : Int) / 8 = 7 - (y : Int) / 8 := by omega
  rw [a1, a2, a3, a4]
  omega
theorem turn_touch (b : List Int) (hb : BOk b) (h : bWrong b = 0) : touchB (turnB b) = touchB b := by
  obtain ⟨k0, hk0, e0, _⟩ := king_at b hb h 0 (.inl rfl)
  obtain ⟨k1, hk1, e1, _⟩ := king_at b hb h 1 (.inr rfl)
  unfold touchB
  rw [turn_king b hb h 0 (.inl rfl), turn_king b hb h 1 (.inr rfl)]
  simp only [Int.sub_zero, Int.sub_self]
  rw [e0, e1, far_flip k1 k0 hk1 hk0]

/-! who strikes whom -/
theorem walk_flip : ∀ d ∈ allD, ∀ s ∈ squares, walkL 64 (flip s) d.1 (-d.2) = (walkL 64 s d.1 d.2).map flip := by decide +kernel
theorem steps_flip : ∀ m ∈ (List.range 13).map (fun n => Int.ofNat n - 6), mRight m = true → stepsN (-m) = stepsN m ∧ mSide (-m) = 1 - mSide m ∧ ∀ d ∈ stepsD m, (d.1, -d.2) ∈ stepsD (-m) := by decide
theorem flip_sq (s : Int) (hs : s ∈ squares) : flip s ∈ squares ∧ ∃ k : Nat, s = k ∧ k < 64 := by
  obtain ⟨h0, h1⟩ := (mem_squares s).1 hs
  obtain ⟨k, rfl⟩ := Int.eq_ofNat_of_zero_le h0
  obtain ⟨f, g1, g2, g3⟩ := flip_nat k (by omega)
  exact ⟨by rw [g1, mem_squares]; omega, k, rfl, by omega⟩
theorem hit_flip (b : List Int) (hr : bRight b = true) (t : Int) (ht : t ∈ squares) (l : List Int) (hl : ∀ x ∈ l, x ∈ squares) : hitRay (turnB b) (flip t) (l.map flip) = hitRay b t l := by
  induction l with
  | nil => rfl
  | cons x r ih =>
    obtain ⟨hfx, k, rfl, hk⟩ := flip_sq x (hl x (List.mem_cons_self ..))
    obtain ⟨_, j, rfl, hj⟩ := flip_sq t ht
    obtain ⟨f, h1, h2, h3⟩ := flip_nat k hk
    have e1 : (flip (k : Int) == flip (j : Int)) = ((k : Int) == (j : Int)) := by
      rw [Bool.eq_iff_iff]
      simp only [beq_iff_eq]
      constructor
      · intro h
        have := congrArg flip h
        rwa [flip_flip k hk, flip_flip j hj] at this
      · intro h; rw [h]
    have e2 : (bd (turnB b) (flip k) == 0) = (bd b k == 0) := by
      rw [h1, turn_getR b hr f h2, ← h1, flip_flip k hk, Bool.eq_iff_iff]
      simp only [beq_iff_eq]; omega
    simp only [List.map_cons, hitRay, e1, e2]
    rw [ih (fun y hy => hl y (List.mem_cons_of_mem _ hy))]
theorem turn_hits (b : List Int) (hr : bRight b = true) (f s : Int) (hf : f ∈ squares) (hs : s ∈ squares) (h : rHits b f s = true) : rHits (turnB b) (flip f) (flip s) = true := by
  obtain ⟨hm, d, hd, hh⟩ := (rHits_iff b f s).1 h
  obtain ⟨hff, k, rfl, hk⟩ := flip_sq f hf
  obtain ⟨g, h1, h2, h3⟩ := flip_nat k hk
  have e : bd (turnB b) (flip k) = -bd b k := by rw [h1, turn_getR b hr g h2, ← h1, flip_flip k hk]
  obtain ⟨hn, _, hst⟩ := steps_flip _ (men_mem _ hm) hm
  rw [rHits_iff, e, mRight_neg]
  refine ⟨hm, (d.1, -d.2), hst d hd, ?_⟩
  have hle : stepsN (bd b k) ≤ 64 := by rcases stepsN_or (bd b k) with e | e <;> omega
  have hda := stepsD_all _ d hd
  rw [hn, walkL_take _ 64 _ _ _ hle, walk_flip d hda k hf, ← List.map_take, hit_flip b hr s hs _ (fun x hx => walk_sq d hda k hf x (List.mem_of_mem_take hx)), ← walkL_take _ 64 _ _ _ hle]
  exact hh
theorem struck_iff (b : List Int) (s side : Int) (hs : sees b s = true) : pStruck b s side = true ↔ ∃ f ∈ squares, mSide (bd b f) = side ∧ rHits b f s = true := by
  rw [pStruck_eq, pBy_eq]
  unfold rBy
  rw [if_pos hs, decide_eq_true_iff, List.length_pos_iff_exists_mem]
  constructor
  · rintro ⟨f, hf⟩
    obtain ⟨h1, h2⟩ := List.mem_filter.1 hf
    rw [Bool.and_eq_true, beq_iff_eq] at h2
    exact ⟨f, h1, h2.1, h2.2⟩
  · rintro ⟨f, h1, h2, h3⟩
    exact ⟨f, List.mem_filter.2 ⟨h1, by rw [Bool.and_eq_true, beq_iff_eq]; exact ⟨h2, h3⟩⟩⟩
theorem turn_struck (b : List Int) (hb : BOk b) (hr : bRight b = true) (k : Nat) (hk : k < 64) (side : Int) (h : pStruck b k side = true) : pStruck (turnB b) (flip k) (1 - side) = true := by
  have hk' : (k : Int) ∈ squares := (mem_squares _).2 (by omega)
  have hs : sees b k = true := by unfold sees; rw [hr, (sqR_mem _).2 hk']; rfl
  have hs2 : sees (turnB b) (flip k) = true := by unfold sees; rw [turn_right b hb hr, (sqR_mem _).2 (flip_sq _ hk').1]; rfl
  obtain ⟨f, hf, h1, h2⟩ := (struck_iff b k side hs).1 h
  refine (struck_iff _ _ _ hs2).2 ⟨flip f, (flip_sq f hf).1, ?_, turn_hits b hr f k hf hk' h2⟩
  obtain ⟨hm, _⟩ := (rHits_iff b f k).1 h2
  obtain ⟨_, j, rfl, hj⟩ := flip_sq f hf
  obtain ⟨g, g1, g2, g3⟩ := flip_nat j hj
  rw [g1, turn_getR b hr g g2, ← g1, flip_flip j hj, (steps_flip _ (men_mem _ hm) hm).2.1, h1]
theorem turn_check (b : List Int) (hb : BOk b) (h : bWrong b = 0) (t : Int) (ht : t = 0 ∨ t = 1) (hc : pCheck b (1 - t) = false) : pCheck (turnB b) t = false := by
  cases q : pCheck (turnB b) t
  · rfl
  · exfalso
    obtain ⟨hr, _⟩ := wrong_parts b h
    obtain ⟨k, hk, e1, _⟩ := king_at b hb h (1 - t) (by omega)
    obtain ⟨f, g1, g2, g3⟩ := flip_nat k hk
    unfold pCheck at q hc
    rw [turn_king b hb h t ht, e1, g1, Bool.and_eq_true] at q
    have hst := turn_struck (turnB b) (turnB_ok b hb) (turn_right b hb hr) f g2 _ q.2
    rw [turn_turn b hb, ← g1, flip_flip k hk] at hst
    rw [e1] at hc
    have e3 : 1 - mOther t = mOther (1 - t) := by unfold mOther; rcases ht with rfl | rfl <;> simp
    rw [e3] at hst
    rw [hst] at hc
    simp at hc

/-! rights -/
def castT (c : Int) : Int := c / 4 + c % 4 * 4
theorem cast_has : ∀ c : Fin 16, hasR (castT ((c.val : Nat) : Int)) 1 = hasR ((c.val : Nat) : Int) 4 ∧ hasR (castT ((c.val : Nat) : Int)) 2 = hasR ((c.val : Nat) : Int) 8 ∧ hasR (castT ((c.val : Nat) : Int)) 4 = hasR ((c.val : Nat) : Int) 1 ∧ hasR (castT ((c.val : Nat) : Int)) 8 = hasR ((c.val : Nat) : Int) 2 := by decide +kernel
theorem castT_twice : ∀ c : Fin 16, castT (castT ((c.val : Nat) : Int)) = ((c.val : Nat) : Int) ∧ 0 ≤ castT ((c.val : Nat) : Int) ∧ castT ((c.val : Nat) : Int) ≤ 15 := by decide +kernel
theorem eq_neg (x m : Int) : (-x == m) = (x == -m) := by rw [Bool.eq_iff_iff]; simp; omega
theorem turn_backed (b : List Int) (hr : bRight b = true) : backedB (turnB b) 1 = backedB b 4 ∧ backedB (turnB b) 2 = backedB b 8 ∧ backedB (turnB b) 4 = backedB b 1 ∧ backedB (turnB b) 8 = backedB b 2 := by
  have g : ∀ k : Nat, k < 64 → ∀ j : Int, flip k = j → bd (turnB b) k = -bd b j := fun k hk j e => by rw [← e]; exact turn_getR b hr k hk
  have g0 := g 0 (by omega) 56 (by decide)
  have g4 := g 4 (by omega) 60 (by decide)
  have g7 := g 7 (by omega) 63 (by decide)
  have g56 := g 56 (by omega) 0 (by decide)
  have g60 := g 60 (by omega) 4 (by decide)
  have g63 := g 63 (by omega) 7 (by decide)
  have f1 : ∀ B : List Int, backedB B 1 = ((bd B ((4 : Nat) : Int) == 6) && (bd B ((7 : Nat) : Int) == 4)) := fun _ => rfl
  have f2 : ∀ B : List Int, backedB B 2 = ((bd B ((4 : Nat) : Int) == 6) && (bd B ((0 : Nat) : Int) == 4)) := fun _ => rfl
  have f4 : ∀ B : List Int, backedB B 4 = ((bd B ((60 : Nat) : Int) == -6) && (bd B ((63 : Nat) : Int) == -4)) := fun _ => rfl
  have f8 : ∀ B : List Int, backedB B 8 = ((bd B ((60 : Nat) : Int) == -6) && (bd B ((56 : Nat) : Int) == -4)) := fun _ => rfl
  refine ⟨?_, ?_, ?_, ?_⟩
  · rw [f1, f4, g4, g7, eq_neg, eq_neg]; rfl
  · rw [f2, f8, g4, g0, eq_neg, eq_neg]; rfl
  · rw [f4, f1, g60, g63, eq_neg, eq_neg]; rfl
  · rw [f8, f2, g60, g56, eq_neg, eq_neg]; rfl
theorem cast_four (b : List Int) (c : Int) : castB b c = (!(hasR c 1 && !(backedB b 1)) && (!(hasR c 2 && !(backedB b 2)) && (!(hasR c 4 && !(backedB b 4)) && (!(hasR c 8 && !(backedB b 8)) && true)))) := rfl
theorem turn_cast (b : List Int) (hr : bRight b = true) (c : Int) (c0 : 0 ≤ c) (c1 : c ≤ 15) : castB (turnB b) (castT c) = castB b c := by
  obtain ⟨n, rfl⟩ := Int.eq_ofNat_of_zero_le c0
  obtain ⟨h1, h2, h3, h4⟩ := cast_has ⟨n, by omega⟩
  obtain ⟨k1, k2, k3, k4⟩ := turn_backed b hr
  simp only at h1 h2 h3 h4
  rw [cast_four, cast_four, h1, h2, h3, h4, k1, k2, k3, k4]
  cases hasR n 1 <;> cases hasR n 2 <;> cases hasR n 4 <;> cases hasR n 8 <;> cases backedB b 1 <;> cases backedB b 2 <;> cases backedB b 4 <;> cases backedB b 8 <;> rfl

/-! a pawn that went two squares -/
theorem turn_pass (b : List Int) (hr : bRight b = true) (t : Int) (ht : t = 0 ∨ t = 1) (n : Nat) (hn : n < 64) (h : passB b t n = true) : passB (turnB b) (1 - t) (flip n) = true := by
  obtain ⟨f, h1, h2, h3⟩ := flip_nat n hn
  have hn2 := turn_getR b hr f h2
  rw [← h1, flip_flip n hn, h1] at hn2
  have g : ∀ k j : Nat, k < 64 → k = (7 - j / 8) * 8 + j % 8 → j < 64 → bd (turnB b) k = -bd b j := fun k j hk e hj => by
    obtain ⟨x, x1, x2, x3⟩ := flip_nat k hk
    rw [turn_getR b hr k hk, x1, show x = j by omega]
  unfold passB at h ⊢
  rw [decide_eq_true_iff] at h ⊢
  rw [passI_nat b t n hn] at h
  rw [h1, passI_nat _ (1 - t) f h2]
  rcases ht with rfl | rfl
  · rw [if_neg (fun e => by have := e.1; omega : ¬ (((1 : Int) - 0 = 0) ∧ _))]
    by_cases q : (0 : Int) = 0 ∧ n / 8 = 5 ∧ bd b n = 0 ∧ bd b ((n + 8 : Nat) : Int) = 0 ∧ bd b ((n - 8 : Nat) : Int) = -1
    · obtain ⟨_, q1, q2, q3, q4⟩ := q
      have a1 := g (f - 8) (n + 8) (by omega) (by omega) (by omega)
      have a2 := g (f + 8) (n - 8) (by omega) (by omega) (by omega)
      rw [if_pos ⟨by omega, by omega, by rw [hn2, q2]; rfl, by rw [a1, q3]; rfl, by rw [a2, q4]; rfl⟩]
      omega
    · rw [if_neg q, if_neg (fun e => by have := e.1; omega)] at h
      omega
  · rw [if_neg (fun e => by have := e.1; omega)] at h
    by_cases q : (1 : Int) = 1 ∧ n / 8 = 2 ∧ bd b n = 0 ∧ bd b ((n - 8 : Nat) : Int) = 0 ∧ bd b ((n + 8 : Nat) : Int) = 1
    · obtain ⟨_, q1, q2, q3, q4⟩ := q
      have a1 := g (f + 8) (n - 8) (by omega) (by omega) (by omega)
      have a2 := g (f - 8) (n + 8) (by omega) (by omega) (by omega)
      rw [if_pos ⟨by omega, by omega, by rw [hn2, q2]; rfl, by rw [a1, q3]; rfl, by rw [a2, q4]⟩]
      omega
    · rw [if_neg q] at h
      omega

/-! the whole -/
def epT (e : Int) : Int := if 0 ≤ e then flip e else -1
theorem posW_parts (b : List Int) (t c e : Int) (h : posW b t c e = 0) : bWrong b = 0 ∧ (t = 0 ∨ t = 1) ∧ 0 ≤ c ∧ c ≤ 15 ∧ -1 ≤ e ∧ e < 64 ∧ touchB b = false ∧ pCheck b (1 - t) = false ∧ castB b c = true ∧ (0 ≤ e → passB b t e = true) := by
  unfold posW at h
  by_cases h0 : bWrong b = 0
  · rw [if_neg (by simp [h0])] at h
    by_cases h1 : ¬ (t = 0 ∨ t = 1) ∨ c < 0 ∨ 15 < c ∨ e < -1 ∨ 64 ≤ e
    · rw [if_pos h1] at h; omega
    · rw [if_neg h1] at h
      by_cases h2 : touchB b = true ∨ pCheck b (1 - t) = true
      · rw [if_pos h2] at h; omega
      · rw [if_neg h2] at h
        by_cases h3 : castB b c = false
        · rw [if_pos h3] at h; omega
        · rw [if_neg h3] at h
          by_cases h4 : 0 ≤ e ∧ passB b t e = false
          · rw [if_pos h4] at h; omega
          · refine ⟨h0, by omega, by omega, by omega, by omega, by omega, ?_, ?_, ?_, ?_⟩
            · cases q : touchB b
              · rfl
              · exact absurd (.inl q) h2
            · cases q : pCheck b (1 - t)
              · rfl
              · exact absurd (.inr q) h2
            · cases q : castB b c
              · exact absurd q h3
              · rfl
            · intro he
              cases q : passB b t e
              · exact absurd ⟨he, q⟩ h4
              · rfl
  · rw [if_pos h0] at h; exact absurd h h0
theorem epT_in (e : Int) (h0 : -1 ≤ e) (h1 : e < 64) : -1 ≤ epT e ∧ epT e < 64 ∧ epT (epT e) = e ∧ (0 ≤ epT e → 0 ≤ e) := by
  unfold epT
  by_cases he : 0 ≤ e
  · obtain ⟨n, rfl⟩ := Int.eq_ofNat_of_zero_le he
    obtain ⟨f, g1, g2, g3⟩ := flip_nat n (by omega)
    rw [if_pos he, g1, if_pos (by omega), ← g1, flip_flip n (by omega), g1]
    omega
  · rw [if_neg he, if_neg (by omega)]; omega
theorem turn_posW (b : List Int) (hb : BOk b) (t c e : Int) (h : posW b t c e = 0) : posW (turnB b) (1 - t) (castT c) (epT e) = 0 := by
  obtain ⟨h0, h1, h2, h3, h4, h5, h6, h7, h8, h9⟩ := posW_parts b t c e h
  obtain ⟨hr, _⟩ := wrong_parts b h0
  obtain ⟨n, rfl⟩ := Int.eq_ofNat_of_zero_le h2
  obtain ⟨_, c1, c2⟩ := castT_twice ⟨n, by omega⟩
  simp only at c1 c2
  obtain ⟨e1, e2, e3, e4⟩ := epT_in e h4 h5
  have k : pCheck (turnB b) (1 - (1 - t)) = false := by rw [show 1 - (1 - t) = t by omega]; exact turn_check b hb h0 t h1 h7
  unfold posW
  rw [if_neg (by rw [turn_wrong b hb h0]; simp), if_neg (by omega), if_neg (by rw [turn_touch b hb h0, h6, k]; simp), if_neg (by rw [turn_cast b hr n h2 h3, h8]; simp), if_neg ?_]
  rintro ⟨q1, q2⟩
  have he := e4 q1
  obtain ⟨m, rfl⟩ := Int.eq_ofNat_of_zero_le he
  have := turn_pass b hr t h1 m (by omega) (h9 he)
  unfold epT at q2
  rw [if_pos he, this] at q2
  cases q2
end Go.Proofs.Ytibaembmdcdbkaa
