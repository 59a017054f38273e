import Derived.Test.YtibaembmdcdbkaaBd
import Derived.Laws.StructEq
namespace Go.Proofs.Ytibaembmdcdbkaa
open Go.RowKit Alf

/-! boards and positions, compared -/
/-- the loop of '==' over an array of numbers -/
theorem eq_loop (b c : List Int) (w : World) (f : Nat → Option Bool × Unit → Sem (ForInStep (Option Bool × Unit)))
    (hf : ∀ i x y, b[i]? = some x → c[i]? = some y → ∀ r, (f i r).run Try.prog w = .ok (if x = y then .yield (none, ()) else .done (some false, ())) w) :
    ∀ (m k : Nat), k + m = b.length → b.length = c.length → (forIn (List.range' k m) (none, ()) f : Sem (Option Bool × Unit)).run Try.prog w = .ok (if b.drop k = c.drop k then (none, ()) else (some false, ())) w := by
  intro m
  induction m with
  | zero =>
    intro k hk hl
    rw [List.drop_eq_nil_of_le (by omega), List.drop_eq_nil_of_le (by omega)]
    simp
  | succ m ih =>
    intro k hk hl
    have hx : b[k]? = some b[k] := List.getElem?_eq_getElem (by omega)
    have hy : c[k]? = some c[k] := List.getElem?_eq_getElem (by omega)
    rw [List.range'_succ, List.forIn_cons, Sem.run_bind, hf k _ _ hx hy]
    have hd : (b.drop k = c.drop k) = (b[k] = c[k] ∧ b.drop (k + 1) = c.drop (k + 1)) := by
      rw [List.drop_eq_getElem_cons (by omega : k < b.length), List.drop_eq_getElem_cons (by omega : k < c.length), List.cons.injEq]
    simp only [hd]
    by_cases e : b[k] = c[k]
    · simp only [Result.andThen_ok, e, true_and, if_true]
      exact ih (k + 1) (by omega) hl
    · simp only [Result.andThen_ok, e, false_and, if_false, Sem.run_pure]

theorem part_i8 (b : List Int) (i : Nat) (x : Int) (h : b[i]? = some x) (w : World) : (part 22 (boardC b) i).run Try.prog w = .ok (.int .i8 x) w := by
  have hg : (boardC b)[i]? = some (.int .i8 x) := by simp [boardC, h]
  simp [part, go_sem, Try.isAgg22, hg]

theorem run_equalIn_board (d : Nat) (b c : List Int) (hb : BOk b) (hc : BOk c) (w : World) :
    (Op.equalIn (d + 2) 24 (.agg (boardC b)) (.agg (boardC c))).run Try.prog w = .ok (decide (b = c)) w := by
  unfold Op.equalIn
  simp only [Sem.run_bind, run_underlying Try.underlying24, Result.andThen_ok, Try.sizeOf22]
  rw [Std.Legacy.Range.forIn_eq_forIn_range']
  have hsz : (List.range' [:64].start [:64].size [:64].step) = List.range' 0 64 := rfl
  rw [hsz, eq_loop b c w _ (fun i x y hx hy r => by
    simp only [Sem.run_bind, Nat.mul_one, part_i8 b i x hx, part_i8 c i y hy, Result.andThen_ok, run_equalIn_int w d 22 .i8 .i8 x y Try.underlying22]
    by_cases e : x = y
    · simp [e]
    · have : (x == y) = false := by simpa using e
      simp [e, this]) 64 0 (by rw [hb.1]) (by rw [hb.1, hc.1])]
  simp only [List.drop_zero, Result.andThen_ok]
  by_cases e : b = c
  · simp [e]
  · simp [e]

/-- a position by value: its board, and three numbers -/
def posC (b : List Int) (t c e : Int) : Array Value := boardC b ++ #[.int .i64 t, .int .i64 c, .int .i64 e]
theorem posC_size (b : List Int) (hb : BOk b) (t c e : Int) : (posC b t c e).size = 67 := by
  simp [posC, boardC_size, hb.1]
theorem posC_board (b : List Int) (hb : BOk b) (t c e : Int) : (posC b t c e).extract 0 64 = boardC b := by
  unfold posC
  have h := boardC_size b
  rw [hb.1] at h
  rw [← h]
  simp
theorem posC_at (b : List Int) (hb : BOk b) (t c e : Int) : (posC b t c e)[64]? = some (.int .i64 t) ∧ (posC b t c e)[65]? = some (.int .i64 c) ∧ (posC b t c e)[66]? = some (.int .i64 e) := by
  have h := boardC_size b
  rw [hb.1] at h
  unfold posC
  refine ⟨?_, ?_, ?_⟩ <;> simp [h]
theorem pos_info (b : List Int) (hb : BOk b) (t c e : Int) : (Try.prog.info? 37).map (·.size) = some (posC b t c e).size := by
  rw [posC_size b hb]; kernel_rfl
theorem eqFields_cons {d : Nat} {xs ys : Array Value} {f : Field} {fs : List Field} {w : World} {a b : Value} {r : Bool} (ha : (part f.type xs f.offset).run Try.prog w = .ok a w) (hb : (part f.type ys f.offset).run Try.prog w = .ok b w)
    (hr : (Op.equalIn d f.type a b).run Try.prog w = .ok r w) (hn : decide (f.name = "_") = false) : (Op.eqFields d xs ys (f :: fs)).run Try.prog w = if r = true then (Op.eqFields d xs ys fs).run Try.prog w else .ok false w := by
  have hn' : f.name ≠ "_" := by simpa using hn
  rw [Op.eqFields, if_pos hn']
  simp only [Sem.run_bind, ha, hb, hr, Result.andThen_ok]
  cases r <;> simp
set_option maxRecDepth 100000 in
theorem run_equalIn_pos (d : Nat) (b b' : List Int) (hb : BOk b) (hb' : BOk b') (t c e t' c' e' : Int) (w : World) :
    (Op.equalIn (d + 3) 37 (.agg (posC b t c e)) (.agg (posC b' t' c' e'))).run Try.prog w = .ok (decide (b = b' ∧ t = t' ∧ c = c' ∧ e = e')) w := by
  obtain ⟨a1, a2, a3⟩ := posC_at b hb t c e
  obtain ⟨b1, b2, b3⟩ := posC_at b' hb' t' c' e'
  have e1 := posC_board b hb t c e
  have e2 := posC_board b' hb' t' c' e'
  have p1 : (part 24 (posC b t c e) 0).run Try.prog w = .ok (.agg (boardC b)) w := by
    simp [part, go_sem, Try.isAgg24, Try.sizeOf24, e1]
  have p2 : (part 24 (posC b' t' c' e') 0).run Try.prog w = .ok (.agg (boardC b')) w := by
    simp [part, go_sem, Try.isAgg24, Try.sizeOf24, e2]
  have q1 : ∀ (cs : Array Value) (i : Nat) (x : Int), cs[i]? = some (.int .i64 x) → (part 3 cs i).run Try.prog w = .ok (.int .i64 x) w := fun cs i x h => by
    simp [part, go_sem, Try.isAgg3, h]
  rw [run_equalIn_struct w (d + 2) 37 _ _ (by simp only [Program.fieldsOf, Try.underlying37]) (by kernel_rfl)]
  simp only [Program.fieldsOf, Try.underlying37]
  have g1 := (eqFields_cons (d := d + 2) (xs := posC b t c e) (ys := posC b' t' c' e') (f := { name := "At", type := 24, offset := 0, embedded := false, tag := "", pkgPath := "", byteOffset := 0 }) (fs := [{ name := "Turn", type := 3, offset := 64, embedded := false, tag := "", pkgPath := "", byteOffset := 64 }, { name := "Castle", type := 3, offset := 65, embedded := false, tag := "", pkgPath := "", byteOffset := 72 },
        { name := "Ep", type := 3, offset := 66, embedded := false, tag := "", pkgPath := "", byteOffset := 80 }]) p1 p2 (run_equalIn_board d b b' hb hb' w) (by kernel_rfl))
  have i3 := fun x y => run_equalIn_int w (d + 1) 3 .i64 .i64 x y Try.underlying3
  have g2 := (eqFields_cons (d := d + 2) (xs := posC b t c e) (ys := posC b' t' c' e') (f := { name := "Turn", type := 3, offset := 64, embedded := false, tag := "", pkgPath := "", byteOffset := 64 }) (fs := [{ name := "Castle", type := 3, offset := 65, embedded := false, tag := "", pkgPath := "", byteOffset := 72 },
        { name := "Ep", type := 3, offset := 66, embedded := false, tag := "", pkgPath := "", byteOffset := 80 }]) (q1 _ _ _ a1) (q1 _ _ _ b1) (i3 t t') (by kernel_rfl))
  have g3 := (eqFields_cons (d := d + 2) (xs := posC b t c e) (ys := posC b' t' c' e') (f := { name := "Castle", type := 3, offset := 65, embedded := false, tag := "", pkgPath := "", byteOffset := 72 }) (fs := [{ name := "Ep", type := 3, offset := 66, embedded := false, tag := "", pkgPath := "", byteOffset := 80 }]) (q1 _ _ _ a2) (q1 _ _ _ b2) (i3 c c') (by kernel_rfl))
  have g4 := (eqFields_cons (d := d + 2) (xs := posC b t c e) (ys := posC b' t' c' e') (f := { name := "Ep", type := 3, offset := 66, embedded := false, tag := "", pkgPath := "", byteOffset := 80 }) (fs := []) (q1 _ _ _ a3) (q1 _ _ _ b3) (i3 e e') (by kernel_rfl))
  rw [g1, g2, g3, g4]
  by_cases h1 : b = b'
  · by_cases h2 : t = t'
    · by_cases h3 : c = c'
      · by_cases h4 : e = e'
        · simp [h1, h2, h3, h4, Op.eqFields]
        · simp [h1, h2, h3, h4]
      · simp [h1, h2, h3]
    · simp [h1, h2]
  · simp [h1]
end Go.Proofs.Ytibaembmdcdbkaa
