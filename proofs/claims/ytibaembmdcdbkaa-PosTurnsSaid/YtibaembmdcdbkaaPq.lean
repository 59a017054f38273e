import Derived.Test.YtibaembmdcdbkaaPo
namespace Go.Proofs.Ytibaembmdcdbkaa
open Go.RowKit Alf

/-! a position in memory -/
abbrev posO (b : List Int) (t c e : Int) : Obj := .cells (posC b t c e) 37
theorem posC_get (b : List Int) (hb : BOk b) (t c e : Int) (k : Nat) (hk : k < 64) : (posC b t c e)[k]? = some (.int .i8 (bd b k)) := by
  unfold posC
  rw [Array.getElem?_append_left (by rw [boardC_size, hb.1]; exact hk)]
  exact boardC_get b k (by rw [hb.1]; exact hk)
theorem lies_pos {w0 w' : World} {b : List Int} {t c e : Int} (hb : BOk b) (h : Lies w0 (posO b t c e) w') :
    w'.cell? ⟨w0.heap.size, 64, none⟩ = some (.int .i64 t) ∧ w'.cell? ⟨w0.heap.size, 65, none⟩ = some (.int .i64 c) ∧ w'.cell? ⟨w0.heap.size, 66, none⟩ = some (.int .i64 e) := by
  obtain ⟨h1, h2, h3⟩ := posC_at b hb t c e
  exact ⟨by rw [cell_of_row w' _ _ _ _ _ h.obj]; exact h1, by rw [cell_of_row w' _ _ _ _ _ h.obj]; exact h2, by rw [cell_of_row w' _ _ _ _ _ h.obj]; exact h3⟩
theorem lies_sq {w0 w' : World} {b : List Int} {t c e : Int} (hb : BOk b) (h : Lies w0 (posO b t c e) w') (k : Nat) (hk : k < 64) : w'.cell? ⟨w0.heap.size, k, none⟩ = some (.int .i8 (bd b k)) := by
  rw [cell_of_row w' _ _ _ _ _ h.obj]; exact posC_get b hb t c e k hk
theorem pos_range {w : World} {g : Nat} {b : List Int} {t c e : Int} (hb : BOk b) (h : w.heap[g]? = some (posO b t c e)) : w.rangeAt g 0 (b.map (Value.int .i8)) := fun j v hv => by
  have hj : j < 64 := by
    have := (List.getElem?_eq_some_iff.1 hv).1
    simpa [hb.1] using this
  rw [Nat.zero_add, cell_of_row w _ _ _ _ _ h, posC_get b hb t c e j hj]
  rw [List.getElem?_map, bd_mem b j (by rw [hb.1]; exact hj)] at hv
  exact hv
theorem info_b (b : List Int) (hb : BOk b) : (Try.prog.info? 24).map (·.size) = some (b.map (Value.int .i8)).length := by
  rw [show (b.map (Value.int .i8)).length = 64 by simp [hb.1]]; kernel_rfl
/-- the board of a position, loaded -/
theorem load_at {ops : Array Oper} {rest : List Oper} {o : Oper} {a : Act} {w : World} {Q : Exit → Act → World → Prop} (x : Operand) (ho : o.op = .load 24 x) (hgd : Region.wanted o (yielded ops a.tmps) = true)
    (g : Nat) (hx : a.eval x = .pointer (some ⟨g, 0, none⟩)) (b : List Int) (t c e : Int) (hb : BOk b) (hg : w.heap[g]? = some (posO b t c e))
    (h : wpList Try.prog ops Q rest (a.put o.dst (.agg (boardC b))) w) : wpList Try.prog ops Q (o :: rest) a w :=
  wpList_step fun _ hK => by rw [if_pos hgd]; exact wp_load_mid 24 x ho g 0 hx (b.map (Value.int .i8)) _ (pos_range hb hg) Try.underlying24 rfl (info_b b hb) (hK _ _ h)
theorem sp_at {ops : Array Oper} {Q : Exit → Act → World → Prop} {o : Oper} {a : Act} {w : World} {K : Act → World → Prop} (x : Operand) (ho : o.op = .load 24 x) (hw : Region.wanted o (yielded ops a.tmps) = true)
    (g : Nat) (pv : Value) (hx : a.eval x = pv) (hv : pv = .pointer (some ⟨g, 0, none⟩)) (b : List Int) (t c e : Int) (hb : BOk b) (hg : w.heap[g]? = some (posO b t c e))
    (h : K (a.put o.dst (.agg (boardC b))) w) : if Region.wanted o (yielded ops a.tmps) = true then Oper.wp Try.prog o a w K Q else K (a.put o.dst undef) w := by
  rw [if_pos hw]
  exact wp_load_mid 24 x ho g 0 (hx.trans hv) (b.map (Value.int .i8)) _ (pos_range hb hg) Try.underlying24 rfl (info_b b hb) h

/-! ahead; rights -/
def aheadI (t : Int) : Int := if t = 1 then -1 else 1
set_option maxRecDepth 100000 in
theorem pos_ahead (t : Int) (w : World) : Calls Try.prog 60 #[.int .i64 t] w fun e w' => e = .returned (.int .i64 (aheadI t)) ∧ w = w' := by
  by_cases h : t = 1
  · have E := Lib.hid (show aheadI t = -1 by unfold aheadI; rw [if_pos h])
    have h1 : (t == 1) = true := by simpa using h
    clear h
    go_enter Try.func60, Try.ntmps60
    go_wp2
    go_ret
    exact ⟨re_int E.out.symm, rfl⟩
  · have E := Lib.hid (show aheadI t = 1 by unfold aheadI; rw [if_neg h])
    have h1 : (t == 1) = false := by simpa using h
    clear h
    go_enter Try.func60, Try.ntmps60
    go_wp2
    go_ret
    exact ⟨re_int E.out.symm, rfl⟩

/-- a sum of rights holds a right -/
def hasR (c r : Int) : Bool := c / r % 2 == 1
set_option maxHeartbeats 400000 in
set_option maxRecDepth 100000 in
theorem r8_Has (c r : Int) (h0 : 0 ≤ c) (h1 : c ≤ 15) (hr : r = 1 ∨ r = 2 ∨ r = 4 ∨ r = 8) (w : World) : Calls Try.prog 58 #[.int .i64 c, .int .i64 r] w fun e w' => e = .returned (.bool (hasR c r)) ∧ w = w' := by
  have E := Lib.hid (show hasR c r = (c / r % 2 == 1) from rfl)
  obtain ⟨n, rfl⟩ := Int.eq_ofNat_of_zero_le h0
  rcases hr with rfl | rfl | rfl | rfl
  · go_enter Try.func58, Try.ntmps58
    go_wp2
    go_ret
    exact ⟨re_bool (by rw [E.out]; simp), rfl⟩
  · go_enter Try.func58, Try.ntmps58
    go_wp2
    go_ret
    exact ⟨re_bool E.out.symm, rfl⟩
  · go_enter Try.func58, Try.ntmps58
    go_wp2
    go_ret
    exact ⟨re_bool E.out.symm, rfl⟩
  · go_enter Try.func58, Try.ntmps58
    go_wp2
    go_ret
    exact ⟨re_bool E.out.symm, rfl⟩
end Go.Proofs.Ytibaembmdcdbkaa
