import Derived.Test.YtibaembmdcdbkaaEq
import Derived.Test.YtibaembmdcdbkaaLi
import Derived.Laws.Tables
namespace Go.Proofs.Ytibaembmdcdbkaa
open Go.RowKit Alf

/-! one object is written, and nothing else -/
structure Wrote (g : Nat) (o : Obj) (w w' : World) : Prop where
  os : w'.os = w.os
  tape : w'.tape = w.tape
  output : w'.output = w.output
  size : w'.heap.size = w.heap.size
  obj : w'.heap[g]? = some o
  rest : ∀ k, k ≠ g → w'.heap[k]? = w.heap[k]?
theorem Wrote.below {g B : Nat} {o : Obj} {w w' : World} (h : Wrote g o w w') (hB : B ≤ g) : Below B w w' :=
  ⟨h.os, h.tape, h.output, Nat.le_of_eq h.size.symm, fun k hk => h.rest k (by omega)⟩
theorem wrote_setRow (w : World) (g : Nat) (old cs : Array Value) (t : TypeId) (fr : Nat × Nat) (hg : w.heap[g]? = some (.cells old t fr)) : Wrote g (.cells cs t fr) w (w.setRow g cs) :=
  ⟨rfl, rfl, rfl, by simp, setRow_heap w g old cs t fr hg, fun k hk => setRow_other w g k cs hk⟩
/-- cells, laid from place o on -/
def laid (cs : Array Value) : Nat → List Value → Array Value
  | _, [] => cs
  | o, v :: r => laid (cs.setIfInBounds o v) (o + 1) r
theorem setRow_self (w : World) (g : Nat) (cs : Array Value) (t : TypeId) (fr : Nat × Nat) (hg : w.heap[g]? = some (.cells cs t fr)) : w.setRow g cs = w := by
  have hlt : g < w.heap.size := (Array.getElem?_eq_some_iff.1 hg).1
  have hv : w.heap[g] = .cells cs t fr := (Array.getElem?_eq_some_iff.1 hg).2
  unfold World.setRow
  cases w with
  | mk h =>
    congr 1
    apply Array.ext
    · simp
    · intro i h1 h2
      simp only [Array.getElem_modify]
      split
      · rename_i e; subst e; simp only at hv ⊢; rw [hv]
      · rfl
theorem setCells_laid (g : Nat) (t : TypeId) (fr : Nat × Nat) : ∀ (vs : List Value) (o : Nat) (cs : Array Value) (w : World), w.heap[g]? = some (.cells cs t fr) → w.setCells g o vs = w.setRow g (laid cs o vs)
  | [], _, cs, w, hg => (setRow_self w g cs t fr hg).symm
  | v :: r, o, cs, w, hg => by
    have h := setCell_eq_setRow w g o cs t fr v hg
    rw [World.setCells, h, setCells_laid g t fr r (o + 1) _ _ (setRow_heap w g cs _ t fr hg), setRow_setRow]
    rfl
theorem laid_get : ∀ (vs : List Value) (o : Nat) (cs : Array Value), o + vs.length ≤ cs.size → ∀ j : Nat, (laid cs o vs)[j]? = if o ≤ j ∧ j < o + vs.length then vs[j - o]? else cs[j]?
  | [], o, cs, _, j => by rw [if_neg (by simp)]; rfl
  | v :: r, o, cs, hl, j => by
    simp only [List.length_cons] at hl
    rw [laid, laid_get r (o + 1) (cs.setIfInBounds o v) (by simp; omega) j, Array.getElem?_setIfInBounds]
    simp only [List.length_cons]
    by_cases e : o = j
    · subst e
      rw [if_neg (by omega), if_pos rfl, if_pos (by omega), if_pos (by omega)]
      simp
    · by_cases q : o + 1 ≤ j ∧ j < o + 1 + r.length
      · rw [if_pos q, if_pos (by omega), show j - o = (j - (o + 1)) + 1 by omega, List.getElem?_cons_succ]
      · rw [if_neg q, if_neg e, if_neg (by omega)]
theorem laid_eq {cs cs2 : Array Value} {o : Nat} {vs : List Value} (hl : o + vs.length ≤ cs.size) (h : ∀ j : Nat, cs2[j]? = if o ≤ j ∧ j < o + vs.length then vs[j - o]? else cs[j]?) : laid cs o vs = cs2 :=
  Array.ext_getElem? fun j => by rw [laid_get vs o cs hl j, h j]

section
variable {P : Program}
/-- a store into an object that is known whole -/
theorem run_store_obj (w : World) (g o : Nat) (ty t : TypeId) (v : Value) (vs : Array Value) (hv : v.cells = vs) (cs cs2 : Array Value) (hg : w.heap[g]? = some (.cells cs t (0, 0))) (hi : (P.info? ty).map (·.size) = some vs.size) (hin : o + vs.size ≤ cs.size)
    (h1 : vs.all (·.oneCell') = true) (hcs : ∀ j : Nat, cs2[j]? = if o ≤ j ∧ j < o + vs.size then vs[j - o]? else cs[j]?) :
    (storeVar ty ⟨g, o, none⟩ v).run P w = .ok () (w.setRow g cs2) := by
  have ht : ∀ j, j < vs.toList.length → (w.cell? ⟨g, o + 0 + j, none⟩).isSome = true ∧ w.frozen? ⟨g, o + 0 + j, none⟩ = false := fun j hj => by
    have hj' : j < vs.size := by simpa using hj
    constructor
    · rw [cell_of_row w g _ cs t _ hg, Array.getElem?_eq_getElem (by omega)]; rfl
    · simp [World.frozen?, hg]
  have hs := run_storeCells_cells (P := P) g o vs.toList 0 w (fun j hj => (ht j hj).1) (fun j hj => (ht j hj).2) (fun u hu => (Array.all_eq_true_iff_forall_mem.1 h1) u (by simpa using hu))
  rw [Nat.add_zero, setCells_laid g t _ _ _ cs w hg, laid_eq (by simpa using hin) (by simpa using hcs)] at hs
  cases hq : P.info? ty with
  | none => simp [hq] at hi
  | some i =>
    have hz : vs.size = i.size := by simp [hq] at hi; omega
    simp [storeVar, sizeOf, typeInfo, hq, hz, hs, hv]
theorem wp_store_obj {op : Oper} {a : Act} {w : World} {K : Act → World → Prop} {Q : Exit → Act → World → Prop} (ty : TypeId) (x y : Operand) (ho : op.op = .store ty x y) (g o : Nat) (v : Value) (vs : Array Value) (hv : v.cells = vs) (hx : a.eval x = .pointer (some ⟨g, o, none⟩)) (hy : a.eval y = v)
    (t : TypeId) (cs cs2 : Array Value) (hg : w.heap[g]? = some (.cells cs t (0, 0))) (hi : (P.info? ty).map (·.size) = some vs.size) (hin : o + vs.size ≤ cs.size)
    (h1 : vs.all (·.oneCell') = true) (hcs : ∀ j : Nat, cs2[j]? = if o ≤ j ∧ j < o + vs.size then vs[j - o]? else cs[j]?)
    (h : ∀ w', Wrote g (.cells cs2 t (0, 0)) w w' → K (a.put op.dst undef) w') : op.wp P a w K Q := by
  unfold Oper.wp execOp
  simp only [ho, hx, hy, Instr.storeAt, Instr.sureAddr, Sem.run_bind, Sem.run_pure, Result.andThen_ok, run_store_obj w g o ty t v vs hv cs cs2 hg hi hin h1 hcs]
  exact h _ (wrote_setRow w g cs cs2 t (0, 0) hg)
theorem store_obj {ops : Array Oper} {rest : List Oper} {op : Oper} {a : Act} {w : World} {Q : Exit → Act → World → Prop} (ty : TypeId) (x y : Operand) (ho : op.op = .store ty x y) (hgd : Region.wanted op (yielded ops a.tmps) = true) (g o : Nat) (v : Value) (vs : Array Value) (hv : v.cells = vs) (hx : a.eval x = .pointer (some ⟨g, o, none⟩)) (hy : a.eval y = v)
    (t : TypeId) (cs cs2 : Array Value) (hg : w.heap[g]? = some (.cells cs t (0, 0))) (hi : (P.info? ty).map (·.size) = some vs.size) (hin : o + vs.size ≤ cs.size)
    (h1 : vs.all (·.oneCell') = true) (hcs : ∀ j : Nat, cs2[j]? = if o ≤ j ∧ j < o + vs.size then vs[j - o]? else cs[j]?)
    (h : ∀ w', Wrote g (.cells cs2 t (0, 0)) w w' → wpList P ops Q rest (a.put op.dst undef) w') : wpList P ops Q (op :: rest) a w :=
  wpList_step fun _ hK => by rw [if_pos hgd]; exact wp_store_obj ty x y ho g o v vs hv hx hy t cs cs2 hg hi hin h1 hcs (fun w' hw => hK _ _ (h w' hw))
/-- the whole object -/
theorem store_all {ops : Array Oper} {rest : List Oper} {op : Oper} {a : Act} {w : World} {Q : Exit → Act → World → Prop} (ty : TypeId) (x y : Operand) (ho : op.op = .store ty x y) (hgd : Region.wanted op (yielded ops a.tmps) = true) (g : Nat) (cs2 : Array Value) (hx : a.eval x = .pointer (some ⟨g, 0, none⟩)) (hy : a.eval y = .agg cs2)
    (t : TypeId) (cs : Array Value) (hg : w.heap[g]? = some (.cells cs t (0, 0))) (hi : (P.info? ty).map (·.size) = some cs2.size) (hs : cs.size = cs2.size)
    (h1 : cs2.all (·.oneCell') = true)
    (h : ∀ w', Wrote g (.cells cs2 t (0, 0)) w w' → wpList P ops Q rest (a.put op.dst undef) w') : wpList P ops Q (op :: rest) a w :=
  store_obj ty x y ho hgd g 0 (.agg cs2) cs2 rfl hx hy t cs cs2 hg hi (by omega) h1 (fun j => by
    by_cases q : j < cs2.size
    · rw [if_pos (by omega), Nat.sub_zero]
    · rw [if_neg (by omega), Array.getElem?_eq_none (by omega), Array.getElem?_eq_none (by omega)]) h
end

theorem boardC_one (b : List Int) : (boardC b).all (·.oneCell') = true := by
  rw [Array.all_eq_true_iff_forall_mem]
  intro v hv
  simp only [boardC, List.mem_toArray, List.mem_map] at hv
  obtain ⟨x, _, rfl⟩ := hv
  rfl
theorem posC_one (b : List Int) (t c e : Int) : (posC b t c e).all (·.oneCell') = true := by
  unfold posC
  rw [Array.all_append, boardC_one]
  simp [Value.oneCell']
theorem posC_mk (b : List Int) (hb : BOk b) (t c e : Int) (j : Nat) : (posC b t c e)[j]? = if j < 64 then (boardC b)[j]? else if j = 64 then some (.int .i64 t) else if j = 65 then some (.int .i64 c) else if j = 66 then some (.int .i64 e) else none := by
  have hz : (boardC b).size = 64 := by rw [boardC_size, hb.1]
  unfold posC
  by_cases q : j < 64
  · rw [if_pos q, Array.getElem?_append_left (by omega)]
  · rw [if_neg q, Array.getElem?_append_right (by omega), hz]
    by_cases q1 : j = 64
    · subst q1; rfl
    · by_cases q2 : j = 65
      · subst q2; rfl
      · by_cases q3 : j = 66
        · subst q3; rfl
        · rw [if_neg q1, if_neg q2, if_neg q3, Array.getElem?_eq_none (by simp; omega)]
section
variable {ops : Array Oper} {rest : List Oper} {op : Oper} {a : Act} {w : World} {Q : Exit → Act → World → Prop}
/-- a position's board, written -/
theorem store_at (x y : Operand) (ho : op.op = .store 24 x y) (hgd : Region.wanted op (yielded ops a.tmps) = true) (g : Nat) (b' : List Int) (hx : a.eval x = .pointer (some ⟨g, 0, none⟩)) (hy : a.eval y = .agg (boardC b'))
    (b : List Int) (t c e : Int) (hb : BOk b) (hb' : BOk b') (hg : w.heap[g]? = some (.cells (posC b t c e) 37 (0, 0)))
    (h : ∀ w', Wrote g (.cells (posC b' t c e) 37 (0, 0)) w w' → wpList Try.prog ops Q rest (a.put op.dst undef) w') : wpList Try.prog ops Q (op :: rest) a w := by
  have hz : (boardC b').size = 64 := by rw [boardC_size, hb'.1]
  refine store_obj 24 x y ho hgd g 0 (.agg (boardC b')) (boardC b') rfl hx hy 37 _ _ hg (board_info b' hb') (by rw [posC_size b hb]; omega) (boardC_one b') (fun j => ?_) h
  rw [hz]
  rw [posC_mk b' hb', posC_mk b hb]
  by_cases q : j < 64
  · rw [if_pos q, if_pos (by omega), Nat.sub_zero]
  · rw [if_neg (by omega : ¬ (0 ≤ j ∧ j < 0 + 64))]; simp only [if_neg q]
theorem info_int : (Try.prog.info? 3).map (·.size) = some 1 := by kernel_rfl
/-- a position's side to move, written -/
theorem store_turn (x y : Operand) (ho : op.op = .store 3 x y) (hgd : Region.wanted op (yielded ops a.tmps) = true) (g : Nat) (n : Int) (hx : a.eval x = .pointer (some ⟨g, 64, none⟩)) (hy : a.eval y = .int .i64 n)
    (b : List Int) (t c e : Int) (hb : BOk b) (hg : w.heap[g]? = some (.cells (posC b t c e) 37 (0, 0)))
    (h : ∀ w', Wrote g (.cells (posC b n c e) 37 (0, 0)) w w' → wpList Try.prog ops Q rest (a.put op.dst undef) w') : wpList Try.prog ops Q (op :: rest) a w := by
  refine store_obj 3 x y ho hgd g 64 (.int .i64 n) #[.int .i64 n] rfl hx hy 37 _ _ hg info_int (by rw [posC_size b hb]; simp) (by simp [Value.oneCell']) (fun j => ?_) h
  rw [posC_mk b hb, posC_mk b hb]
  by_cases q : j < 64
  · rw [if_pos q, if_neg (by simp; omega), if_pos q]
  · by_cases q1 : j = 64
    · subst q1; rfl
    · rw [if_neg (show ¬ (64 ≤ j ∧ j < 64 + (#[Value.int .i64 n] : Array Value).size) by simp; omega)]; simp only [if_neg q, if_neg q1]
theorem store_castle (x y : Operand) (ho : op.op = .store 3 x y) (hgd : Region.wanted op (yielded ops a.tmps) = true) (g : Nat) (n : Int) (hx : a.eval x = .pointer (some ⟨g, 65, none⟩)) (hy : a.eval y = .int .i64 n)
    (b : List Int) (t c e : Int) (hb : BOk b) (hg : w.heap[g]? = some (.cells (posC b t c e) 37 (0, 0)))
    (h : ∀ w', Wrote g (.cells (posC b t n e) 37 (0, 0)) w w' → wpList Try.prog ops Q rest (a.put op.dst undef) w') : wpList Try.prog ops Q (op :: rest) a w := by
  refine store_obj 3 x y ho hgd g 65 (.int .i64 n) #[.int .i64 n] rfl hx hy 37 _ _ hg info_int (by rw [posC_size b hb]; simp) (by simp [Value.oneCell']) (fun j => ?_) h
  rw [posC_mk b hb, posC_mk b hb]
  by_cases q : j < 64
  · rw [if_pos q, if_neg (by simp; omega), if_pos q]
  · by_cases q1 : j = 64
    · subst q1; rfl
    · by_cases q2 : j = 65
      · subst q2; rfl
      · rw [if_neg (show ¬ (65 ≤ j ∧ j < 65 + (#[Value.int .i64 n] : Array Value).size) by simp; omega)]; simp only [if_neg q, if_neg q1, if_neg q2]
theorem store_ep (x y : Operand) (ho : op.op = .store 3 x y) (hgd : Region.wanted op (yielded ops a.tmps) = true) (g : Nat) (n : Int) (hx : a.eval x = .pointer (some ⟨g, 66, none⟩)) (hy : a.eval y = .int .i64 n)
    (b : List Int) (t c e : Int) (hb : BOk b) (hg : w.heap[g]? = some (.cells (posC b t c e) 37 (0, 0)))
    (h : ∀ w', Wrote g (.cells (posC b t c n) 37 (0, 0)) w w' → wpList Try.prog ops Q rest (a.put op.dst undef) w') : wpList Try.prog ops Q (op :: rest) a w := by
  refine store_obj 3 x y ho hgd g 66 (.int .i64 n) #[.int .i64 n] rfl hx hy 37 _ _ hg info_int (by rw [posC_size b hb]; simp) (by simp [Value.oneCell']) (fun j => ?_) h
  rw [posC_mk b hb, posC_mk b hb]
  by_cases q : j < 64
  · rw [if_pos q, if_neg (by simp; omega), if_pos q]
  · by_cases q1 : j = 64
    · subst q1; rfl
    · by_cases q2 : j = 65
      · subst q2; rfl
      · by_cases q3 : j = 66
        · subst q3; rfl
        · rw [if_neg (show ¬ (66 ≤ j ∧ j < 66 + (#[Value.int .i64 n] : Array Value).size) by simp; omega)]; simp only [if_neg q, if_neg q1, if_neg q2, if_neg q3]
/-- a square of a board, written -/
theorem store_sq (x y : Operand) (ho : op.op = .store 22 x y) (hgd : Region.wanted op (yielded ops a.tmps) = true) (g k : Nat) (n : Int) (hx : a.eval x = .pointer (some ⟨g, k, none⟩)) (hy : a.eval y = .int .i8 n)
    (b : List Int) (hb : b.length = 64) (hk : k < 64) (hg : w.heap[g]? = some (.cells (boardC b) 24 (0, 0)))
    (h : ∀ w', Wrote g (.cells (boardC (b.set k n)) 24 (0, 0)) w w' → wpList Try.prog ops Q rest (a.put op.dst undef) w') : wpList Try.prog ops Q (op :: rest) a w := by
  refine store_obj 22 x y ho hgd g k (.int .i8 n) #[.int .i8 n] rfl hx hy 24 _ _ hg (by kernel_rfl) (by rw [boardC_size, hb]; simp; omega) (by simp [Value.oneCell']) (fun j => ?_) h
  unfold boardC
  simp only [List.getElem?_toArray, List.getElem?_map, List.getElem?_set]
  by_cases q : j = k
  · subst q
    rw [if_pos rfl, if_pos (by omega), if_pos (by simp)]
    simp
  · rw [if_neg (by omega), if_neg (by simp; omega)]
end
end Go.Proofs.Ytibaembmdcdbkaa
