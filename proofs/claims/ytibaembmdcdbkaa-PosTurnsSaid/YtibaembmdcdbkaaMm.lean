import Derived.Test.YtibaembmdcdbkaaBd
import Derived.Deep.LoopGhost
namespace Go.Proofs.Ytibaembmdcdbkaa
open Go.RowKit Alf

/-! a slice of whole numbers of the call's own -/
theorem infoInt : (Try.prog.info? 3).map (fun i => (i.zero, i.size, i.bytes)) = some (some (.int .i64 0), 1, 8) := by kernel_rfl
def Own (B : Nat) (v : Value) (xs : List Int) (w : World) : Prop := w.ownsRow B 3 1 v xs.length (xs.map (Value.int .i64))
theorem Own.form {B : Nat} {v : Value} {xs : List Int} {w : World} (h : Own B v xs w) : ∃ A cap, v = .slice A xs.length cap := by
  rcases h.2 with ⟨rfl, h0⟩ | ⟨g, cap, cur, rfl, _⟩
  · exact ⟨none, 0, by rw [h0]⟩
  · exact ⟨_, _, rfl⟩
theorem Own.none (B : Nat) (w : World) : Own B (.slice none 0 0) [] w := World.ownsRow_nil _ _ _ _
theorem grown_below {w w' : World} (h : Below w.heap.size w w') (row : Option Nat) : w.grownBy w' row := ⟨h.os, h.tape, h.output, h.size, fun i hi _ => h.block i hi⟩
theorem Own.kept {B : Nat} {v : Value} {xs : List Int} {w w' : World} (h : Own B v xs w) {row : Option Nat} (hg : w.grownBy w' row) (hne : v.ownBlock = Option.none ∨ v.ownBlock ≠ row) : Own B v xs w' := World.ownsRow.kept h hg hne
theorem Own.below {B : Nat} {v : Value} {xs : List Int} {w w' : World} (h : Own B v xs w) (hb : Below w.heap.size w w') : Own B v xs w' :=
  h.kept (grown_below hb Option.none) (by cases v.ownBlock <;> simp)
theorem Own.alloc {B : Nat} {v : Value} {xs : List Int} {w : World} (h : Own B v xs w) (o : Obj) : Own B v xs (w.alloc o) := World.ownsRow.alloc h o
theorem Own.lt {B : Nat} {v : Value} {xs : List Int} {w : World} (h : Own B v xs w) : ∀ k, v.ownBlock = some k → B ≤ k ∧ k < w.heap.size := World.ownsRow.lt h
theorem Own.mono {B B' : Nat} {v : Value} {xs : List Int} {w : World} (h : Own B v xs w) (hB : B' ≤ B) : Own B' v xs w := by
  refine ⟨h.1, ?_⟩
  rcases h.2 with hn | ⟨g, cap, cur, e, hb, r⟩
  · exact .inl hn
  · exact .inr ⟨g, cap, cur, e, by omega, r⟩
theorem add_at (g j : Nat) : (⟨g, 0, Option.none⟩ : Addr).add j = ⟨g, j, Option.none⟩ := by unfold Addr.add; split <;> simp_all
theorem Own.cell {B : Nat} {A : Option Addr} {n cap : Nat} {xs : List Int} {w : World} (h : Own B (.slice A n cap) xs w) (h0 : 0 < xs.length) :
    ∃ g, A = some ⟨g, 0, Option.none⟩ ∧ n = xs.length ∧ B ≤ g ∧ g < w.heap.size ∧ ∀ k, k < xs.length → w.cell? ⟨g, k, Option.none⟩ = some (.int .i64 (xs.getD k 0)) := by
  have hl := h.lt
  rcases h.2 with ⟨e, e0⟩ | ⟨g, cap', cur, e, hb, hh, _⟩
  · omega
  · injection e with e1 e2 e3
    subst e1
    have := hl g rfl
    refine ⟨g, rfl, e2, this.1, this.2, fun k hk => ?_⟩
    have hc := World.ownsRow.cells h (g := g) rfl k (.int .i64 (xs.getD k 0)) (by
      rw [List.getElem?_map, List.getElem?_eq_getElem hk]; simp [List.getD_eq_getElem?_getD, hk])
    rwa [add_at] at hc

/-- where the row of an append's answer lies: where it lay, or in the newest block -/
theorem app_apart {P : Program} (w : World) (base : Nat) (t ty e : TypeId) (i : TypeInfo) (z : Value) (ht : P.underlying t = some (.slice e)) (hi : P.info? e = some i) (hz : i.zero = some z)
    (v : Value) (n : Nat) (xs : List Value) (hown : w.ownsRow base e i.size v n xs) (ad : Addr) (m c : Nat) (news : List Value) (hl : news.length = m * i.size)
    (hnews : ∀ j u, news[j]? = some u → w.cell? (ad.add j) = some u) (h1 : ∀ u ∈ news, u.oneCell' = true) (hm : 0 < m) (h63 : n + m ≤ maxLen) (hbytes : (n + m) * i.bytes ≤ 140737488355328)
    (v' : Value) (w' : World) (hr : (Builtin.append_ #[t, t] ty #[v, .slice (some ad) m c]).run P w = .ok v' w') : v'.ownBlock = v.ownBlock ∨ v'.ownBlock = some w.heap.size := by
  have h64 : n + m ≤ 9223372036854775807 := by unfold maxLen at h63; omega
  rcases hown.2 with ⟨rfl, rfl⟩ | ⟨g, cap, cur, rfl, _, hg, hnc, _, hcs, _⟩
  · have h := run_append_nil (P := P) w t ty e i z ht hi hz ad m c news hl hnews hm (by omega) (by have hb := hbytes; simp only [Nat.zero_add] at hb; omega)
    rw [h] at hr
    injection hr with e1 e2
    subst e1
    exact .inr rfl
  · by_cases hroom : n + m ≤ cap
    · have hfit : n * i.size + news.length ≤ cur.size := by rw [hl, hcs, ← Nat.add_mul]; exact Nat.mul_le_mul_right _ hroom
      have h := run_append_room (P := P) w t ty e i ht hi g n cap cur hg ad m c news hl hnews h1 hroom hfit
      rw [h] at hr
      injection hr with e1 e2
      subst e1
      exact .inl rfl
    · have holds : ∀ j u, xs[j]? = some u → w.cell? ((⟨g, 0, Option.none⟩ : Addr).add j) = some u := hown.cells (g := g) rfl
      have h := run_append_grow (P := P) w t ty e i z ht hi hz ⟨g, 0, Option.none⟩ n cap xs hown.1 holds ad m c news hl hnews (by omega) (by omega) (growslice_fits (by omega) hbytes)
      rw [h] at hr
      injection hr with e1 e2
      subst e1
      exact .inr rfl

/-- an append of one element of 'size' cells that lies in a block of its own -/
theorem appendGen {P : Program} {ops : Array Oper} {rest : List Oper} {o : Oper} {a : Act} {w : World} {Q : Exit → Act → World → Prop} (hgd : o.guard = Option.none) (s x : Operand) (t : TypeId)
    (ho : o.op = .call { callee := .builtin .append, args := #[s, x], argTypes := #[t, t] }) (B : Nat) (e : TypeId) (i : TypeInfo) (z : Value) (ht : P.underlying t = some (.slice e)) (hi : P.info? e = some i) (hz : i.zero = some z)
    (hzs : z.cells.size = i.size) (hsz : 0 < i.size) (v : Value) (n : Nat) (xs : List Value) (hs : a.eval s = v) (hown : w.ownsRow B e i.size v n xs)
    (ad : Addr) (m c : Nat) (news : List Value) (hx : a.eval x = .slice (some ad) m c) (hm : 0 < m) (hl : news.length = m * i.size) (hnews : ∀ j u, news[j]? = some u → w.cell? (ad.add j) = some u) (h1 : ∀ u ∈ news, u.oneCell' = true)
    (h63 : n + m ≤ maxLen) (hbytes : (n + m) * i.bytes ≤ 140737488355328) (hbase : B ≤ w.heap.size)
    (h : ∀ v' w', w'.ownsRow B e i.size v' (n + m) (xs ++ news) → w.grownBy w' v.ownBlock → (v'.ownBlock = v.ownBlock ∨ v'.ownBlock = some w.heap.size) → wpList P ops Q rest (a.put o.dst v') w') : wpList P ops Q (o :: rest) a w := by
  refine wpList_plain hgd fun K hK => ?_
  obtain ⟨v', w', hr, h2, h3, _⟩ := run_append_own (P := P) w B t o.type e i z i.size i.bytes ht hi hz rfl rfl hzs hsz v n xs hown ad m c news hl hnews h1 h63 hbytes hbase
  have h4 := app_apart w B t o.type e i z ht hi hz v n xs hown ad m c news hl hnews h1 hm h63 hbytes v' w' hr
  unfold Oper.wp execOp
  simp only [ho, resolve, invoke, builtin, Sem.run_bind, Sem.run_pure, Result.andThen_ok, List.map_toArray, List.map_cons, List.map_nil, hs, hx, hr]
  exact hK _ _ (h v' w' h2 h3 h4)

/-- 'append(out, t)' -/
theorem append1 {ops : Array Oper} {rest : List Oper} {o : Oper} {a : Act} {w : World} {Q : Exit → Act → World → Prop} (hgd : o.guard = Option.none) (s x : Operand)
    (ho : o.op = .call { callee := .builtin .append, args := #[s, x], argTypes := #[28, 28] }) (B : Nat) (v : Value) (xs : List Int) (hs : a.eval s = v) (w0 : World) (hown : Own B v xs w0)
    (t : Int) (hw : w = w0.alloc (.cells #[.int .i64 t] 3)) (hx : a.eval x = .slice (some ⟨w0.heap.size, 0, Option.none⟩) 1 1) (hlen : xs.length ≤ 1000000) (hB : B ≤ w0.heap.size)
    (h : ∀ A cap w', Own B (.slice A (xs.length + 1) cap) (xs ++ [t]) w' → w0.grownBy w' v.ownBlock → ((Value.slice A (xs.length + 1) cap).ownBlock = v.ownBlock ∨ ∀ k, (Value.slice A (xs.length + 1) cap).ownBlock = some k → w0.heap.size < k) → wpList Try.prog ops Q rest (a.put o.dst (.slice A (xs.length + 1) cap)) w') : wpList Try.prog ops Q (o :: rest) a w := by
  obtain ⟨i0, hi, hz0, hz1, hz2⟩ := info_parts infoInt
  subst hw
  refine appendGen hgd s x 28 ho B 3 i0 (.int .i64 0) Try.underlying28 hi hz0 (by rw [hz1]; rfl) (by omega) v xs.length (xs.map (Value.int .i64)) hs (by rw [hz1]; exact hown.alloc _)
    ⟨w0.heap.size, 0, Option.none⟩ 1 1 [.int .i64 t] hx (by omega) (by rw [hz1]; rfl) ?_ ?_ (by unfold maxLen; omega) (by rw [hz2]; omega) (by simp; omega) ?_
  · intro j u hj
    cases j with
    | zero => simp at hj; subst hj; rw [add_at, cell_of_row _ _ 0 _ _ _ (heap_alloc_last w0 _)]; rfl
    | succ j => simp at hj
  · intro u hu; simp at hu; subst hu; rfl
  · intro v' w' h2 h3 h4
    rw [hz1] at h2
    have h2' : Own B v' (xs ++ [t]) w' := by
      unfold Own
      rw [List.length_append, List.map_append]
      exact h2
    obtain ⟨A, cap, e⟩ := h2'.form
    rw [List.length_append, List.length_singleton] at e
    subst e
    refine h A cap w' h2' ?_ ?_
    · exact ⟨h3.os, h3.tape, h3.output, Nat.le_trans (by simp) h3.size, fun k hk hne => (h3.block k (by simp; omega) hne).trans (Below.heap_alloc w0 _ k hk)⟩
    · rcases h4 with h4 | h4
      · exact .inl h4
      · right
        intro k hk
        rw [h4] at hk
        injection hk with hk
        simp at hk
        omega
end Go.Proofs.Ytibaembmdcdbkaa
