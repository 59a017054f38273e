import Derived.Test.YtibaembmdcdbkaaOw
namespace Go.Proofs.Ytibaembmdcdbkaa
open Go.RowKit Alf

/-! positions, built out of their parts -/
theorem fold_laid (off : Nat) : ∀ (l : List Value) (k : Nat) (cells : Array Value), (l.zipIdx k).foldl (fun cs (x : Value × Nat) => cs.setIfInBounds (off + x.2) x.1) cells = laid cells (off + k) l
  | [], _, _ => rfl
  | v :: r, k, cells => by
    rw [List.zipIdx_cons, List.foldl_cons, fold_laid off r (k + 1)]
    rfl
abbrev posPlaces : Array (Nat × Nat) := #[(0, 64), (64, 1), (65, 1), (66, 1)]
theorem built_pos (parts : List (Nat × Value)) : Try.prog.built 37 parts = Instr.fill (posPlaces[·]?) (posC zeroB 0 0 0) parts := by kernel_rfl
theorem fill_step (pl : Nat → Option (Nat × Nat)) (cells cs2 : Array Value) (i off size : Nat) (v : Value) (vs : Array Value) (hv : v.cells = vs) (rest : List (Nat × Value)) (hp : pl i = some (off, size)) (hs : vs.size = size) (hin : off + size ≤ cells.size)
    (hcs : ∀ j : Nat, cs2[j]? = if off ≤ j ∧ j < off + size then vs[j - off]? else cells[j]?) : Instr.fill pl cells ((i, v) :: rest) = Instr.fill pl cs2 rest := by
  rw [Instr.fill, hp]
  simp only [hv]
  rw [if_neg (by simp; omega)]
  congr 1
  have := fold_laid off vs.toList 0 cells
  rw [Nat.add_zero, laid_eq (by simp; omega) (fun j => by rw [hcs j]; simp [hs])] at this
  rw [← this]
  rw [← Array.foldl_toList, Array.toList_zipIdx]
theorem fill_at (b b' : List Int) (hb : BOk b) (hb' : BOk b') (t c e : Int) (rest : List (Nat × Value)) : Instr.fill (posPlaces[·]?) (posC b t c e) ((0, .agg (boardC b')) :: rest) = Instr.fill (posPlaces[·]?) (posC b' t c e) rest := by
  have hz : (boardC b').size = 64 := by rw [boardC_size, hb'.1]
  refine fill_step _ _ _ 0 0 64 _ (boardC b') rfl rest rfl hz (by rw [posC_size b hb]; omega) (fun j => ?_)
  rw [posC_mk b' hb', posC_mk b hb]
  by_cases q : j < 64
  · rw [if_pos q, if_pos (by omega), Nat.sub_zero]
  · rw [if_neg (by omega : ¬ (0 ≤ j ∧ j < 0 + 64))]; simp only [if_neg q]
theorem fill_turn (b : List Int) (hb : BOk b) (t c e n : Int) (rest : List (Nat × Value)) : Instr.fill (posPlaces[·]?) (posC b t c e) ((1, .int .i64 n) :: rest) = Instr.fill (posPlaces[·]?) (posC b n c e) rest := by
  refine fill_step _ _ _ 1 64 1 _ #[.int .i64 n] rfl rest rfl rfl (by rw [posC_size b hb]; omega) (fun j => ?_)
  rw [posC_mk b hb, posC_mk b hb]
  by_cases q : j < 64
  · rw [if_pos q, if_neg (by omega), if_pos q]
  · by_cases q1 : j = 64
    · subst q1; rfl
    · rw [if_neg (by omega : ¬ (64 ≤ j ∧ j < 64 + 1))]; simp only [if_neg q, if_neg q1]
theorem fill_castle (b : List Int) (hb : BOk b) (t c e n : Int) (rest : List (Nat × Value)) : Instr.fill (posPlaces[·]?) (posC b t c e) ((2, .int .i64 n) :: rest) = Instr.fill (posPlaces[·]?) (posC b t n e) rest := by
  refine fill_step _ _ _ 2 65 1 _ #[.int .i64 n] rfl rest rfl rfl (by rw [posC_size b hb]; omega) (fun j => ?_)
  rw [posC_mk b hb, posC_mk b hb]
  by_cases q : j < 64
  · rw [if_pos q, if_neg (by omega), if_pos q]
  · by_cases q1 : j = 64
    · subst q1; rfl
    · by_cases q2 : j = 65
      · subst q2; rfl
      · rw [if_neg (by omega : ¬ (65 ≤ j ∧ j < 65 + 1))]; simp only [if_neg q, if_neg q1, if_neg q2]
theorem fill_ep (b : List Int) (hb : BOk b) (t c e n : Int) (rest : List (Nat × Value)) : Instr.fill (posPlaces[·]?) (posC b t c e) ((3, .int .i64 n) :: rest) = Instr.fill (posPlaces[·]?) (posC b t c n) rest := by
  refine fill_step _ _ _ 3 66 1 _ #[.int .i64 n] rfl rest rfl rfl (by rw [posC_size b hb]; omega) (fun j => ?_)
  rw [posC_mk b hb, posC_mk b hb]
  by_cases q : j < 64
  · rw [if_pos q, if_neg (by omega), if_pos q]
  · by_cases q1 : j = 64
    · subst q1; rfl
    · by_cases q2 : j = 65
      · subst q2; rfl
      · by_cases q3 : j = 66
        · subst q3; rfl
        · rw [if_neg (by omega : ¬ (66 ≤ j ∧ j < 66 + 1))]; simp only [if_neg q, if_neg q1, if_neg q2, if_neg q3]
theorem built_none : Try.prog.built 37 [(3, .int .i64 (-1))] = some (posC zeroB 0 0 (-1)) := by
  rw [built_pos, fill_ep zeroB zeroB_ok]; rfl
theorem built_zero : Try.prog.built 37 [] = some (posC zeroB 0 0 0) := by
  rw [built_pos]; rfl
theorem built_of (b : List Int) (hb : BOk b) (t : Int) : Try.prog.built 37 [(0, .agg (boardC b)), (1, .int .i64 t), (3, .int .i64 (-1))] = some (posC b t 0 (-1)) := by
  rw [built_pos, fill_at zeroB b zeroB_ok hb, fill_turn b hb, fill_ep b hb]; rfl
theorem built_all (b : List Int) (hb : BOk b) (t c : Int) : Try.prog.built 37 [(0, .agg (boardC b)), (1, .int .i64 t), (2, .int .i64 c), (3, .int .i64 (-1))] = some (posC b t c (-1)) := by
  rw [built_pos, fill_at zeroB b zeroB_ok hb, fill_turn b hb, fill_castle b hb, fill_ep b hb]; rfl
section
variable {P : Program}
theorem wp_build_eq {o : Oper} {a : Act} {w : World} {K : Act → World → Prop} {Q : Exit → Act → World → Prop} (t : TypeId) (parts : Array (Nat × Operand)) (ho : o.op = .build t parts) (l : List (Nat × Value)) (hl : (parts.map fun (i, x) => (i, a.eval x)).toList = l)
    (cs : Array Value) (hc : P.built t l = some cs) (h : K (a.put o.dst (.agg cs)) w) : o.wp P a w K Q := by
  subst hl
  exact wp_build t parts ho (by rw [hc]; rfl) (by rw [hc]; exact h)
theorem build_row {ops : Array Oper} {rest : List Oper} {o : Oper} {a : Act} {w : World} {Q : Exit → Act → World → Prop} (hgd : Region.wanted o (yielded ops a.tmps) = true) (t : TypeId) (parts : Array (Nat × Operand)) (ho : o.op = .build t parts)
    (l : List (Nat × Value)) (hl : (parts.map fun (i, x) => (i, a.eval x)).toList = l) (cs : Array Value) (hc : P.built t l = some cs) (h : wpList P ops Q rest (a.put o.dst (.agg cs)) w) : wpList P ops Q (o :: rest) a w :=
  wpList_step fun _ hK => by rw [if_pos hgd]; exact wp_build_eq t parts ho l hl cs hc (hK _ _ h)
end
/-- a position more -/
theorem zero_pos (w : World) : (zeroValue 37).run Try.prog w = .ok (.agg (posC zeroB 0 0 0)) w := (zero_of_info (n := 67) (by kernel_rfl)).1 w
set_option maxRecDepth 100000 in
theorem pos_none (w : World) : Calls Try.prog 65 #[] w fun x w' => x = .returned (.agg (posC zeroB 0 0 (-1))) ∧ Below w.heap.size w w' := by
  have hz := zero_pos
  have HI := Lib.hid (pos_info zeroB zeroB_ok 0 0 (-1))
  go_enter Try.func65, Try.ntmps65
  go_wp2_with (first
    | (refine build_row rfl 37 _ rfl _ (by simp; rfl) _ built_none ?_)
    | (refine store_all 37 _ _ rfl rfl w.heap.size (posC zeroB 0 0 (-1)) rfl rfl 37 _ (heap_alloc_last _ _) HI.out rfl (posC_one _ _ _ _) ?_; intro w2 hw2))
  exact bodyPost_ret (results_cell_row rfl _ _ w.heap.size 37 _ (0, 0) _ rfl hw2.obj Try.underlying37 rfl HI.out) rfl ⟨rfl, (below_box _ _).trans (hw2.below (by omega))⟩
end Go.Proofs.Ytibaembmdcdbkaa
