import Derived.Test.YtibaembmdcdbkaaRf
namespace Go.Proofs.Ytibaembmdcdbkaa
open Go.RowKit Alf

/-! alfilref06.Steps -/
theorem appendL {ops : Array Oper} {rest : List Oper} {o : Oper} {a : Act} {w : World} {Q : Exit → Act → World → Prop} (hgd : o.guard = Option.none) (s x : Operand)
    (ho : o.op = .call { callee := .builtin .append, args := #[s, x], argTypes := #[28, 28] }) (B : Nat) (v : Value) (xs : List Int) (hs : a.eval s = v) (hown : Own B v xs w)
    (g2 m c2 : Nat) (ys : List Int) (hx : a.eval x = .slice (some ⟨g2, 0, Option.none⟩) m c2) (hm : ys.length = m) (h0 : 0 < m) (hh : w.heap[g2]? = some (.cells (ys.map (Value.int .i64)).toArray 3 (0, 0))) (hlen : xs.length + m ≤ 1000000) (hB : B ≤ w.heap.size)
    (h : ∀ A cap w', Own B (.slice A (xs.length + m) cap) (xs ++ ys) w' → w.grownBy w' v.ownBlock → wpList Try.prog ops Q rest (a.put o.dst (.slice A (xs.length + m) cap)) w') : wpList Try.prog ops Q (o :: rest) a w := by
  obtain ⟨i0, hi, hz0, hz1, hz2⟩ := info_parts infoInt
  subst hm
  refine appendGen hgd s x 28 ho B 3 i0 (.int .i64 0) Try.underlying28 hi hz0 (by rw [hz1]; rfl) (by omega) v xs.length (xs.map (Value.int .i64)) hs (by rw [hz1]; exact hown)
    ⟨g2, 0, Option.none⟩ ys.length c2 (ys.map (Value.int .i64)) hx h0 (by rw [hz1]; simp) ?_ ?_ (by unfold maxLen; omega) (by rw [hz2]; omega) hB ?_
  · intro j u hj
    rw [add_at, cell_of_row _ _ j _ _ _ hh]
    simpa using hj
  · intro u hu
    obtain ⟨x, _, rfl⟩ := List.mem_map.1 hu
    rfl
  · intro v' w' h2 h3 _
    rw [hz1] at h2
    have h2' : Own B v' (xs ++ ys) w' := by
      unfold Own
      rw [List.length_append, List.map_append]
      exact h2
    obtain ⟨A, cap, e⟩ := h2'.form
    rw [List.length_append] at e
    subst e
    exact h A cap w' h2' h3

def stepI (man : Int) : List Int := (refD man).flatMap fun d => [d.1, d.2]
theorem stepI_kind (man : Int) : (mKind man = 1 → stepI man = [1, man, -1, man]) ∧ (mKind man = 2 → stepI man = [1, 2, 2, 1, 2, -1, 1, -2] ++ [-1, -2, -2, -1, -2, 1, -1, 2]) ∧ (mKind man = 3 → stepI man = [1, 1, 1, -1, -1, -1, -1, 1]) ∧
    (mKind man = 4 → stepI man = [0, 1, 1, 0, 0, -1, -1, 0]) ∧ (mKind man = 5 ∨ mKind man = 6 → stepI man = [0, 1, 1, 0, 0, -1, -1, 0] ++ [1, 1, 1, -1, -1, -1, -1, 1]) ∧ (mKind man = 0 → stepI man = []) := by
  by_cases h : mRight man = true
  · have key : ∀ m ∈ (List.range 13).map (fun n => Int.ofNat n - 6), mRight m = true → (mKind m = 1 → stepI m = [1, m, -1, m]) ∧ (mKind m = 2 → stepI m = [1, 2, 2, 1, 2, -1, 1, -2] ++ [-1, -2, -2, -1, -2, 1, -1, 2]) ∧ (mKind m = 3 → stepI m = [1, 1, 1, -1, -1, -1, -1, 1]) ∧
      (mKind m = 4 → stepI m = [0, 1, 1, 0, 0, -1, -1, 0]) ∧ (mKind m = 5 ∨ mKind m = 6 → stepI m = [0, 1, 1, 0, 0, -1, -1, 0] ++ [1, 1, 1, -1, -1, -1, -1, 1]) ∧ (mKind m = 0 → stepI m = []) := by decide
    exact key man (men_mem man h) h
  · have h' : mRight man = false := by simpa using h
    have k0 : mKind man = 0 := (mKind_zero man).2 h'
    refine ⟨fun e => by omega, fun e => by omega, fun e => by omega, fun e => by omega, fun e => by omega, fun _ => by simp [stepI, refD, h']⟩

theorem h20 (w : World) (a b : Obj) : ((w.alloc a).alloc b).heap[w.heap.size]? = some a := by
  rw [Below.heap_alloc _ _ _ (by simp)]; exact heap_alloc_last _ _
theorem h21 (w : World) (a b : Obj) : ((w.alloc a).alloc b).heap[w.heap.size + 1]? = some b := heap_alloc_last (w.alloc a) b |>.symm ▸ by simp
theorem h32 (w : World) (a b c : Obj) : (((w.alloc a).alloc b).alloc c).heap[w.heap.size + 1 + 1]? = some c := by
  have := heap_alloc_last ((w.alloc a).alloc b) c; simpa using this
theorem b2 (w : World) (a b : Obj) : Below w.heap.size w ((w.alloc a).alloc b) := ((Below.refl _ _).alloc (Nat.le_refl _) _).alloc (by simp) _
theorem b3 (w : World) (a b c : Obj) : Below w.heap.size w (((w.alloc a).alloc b).alloc c) := (b2 w a b).alloc (by simp; omega) _
theorem Told.mk {B : Nat} {w w' : World} {xs ys : List Int} {A : Option Addr} {n cap : Nat} (e : xs = ys) (hn : n = ys.length) (h : Own B (.slice A n cap) ys w') (hb : Below B w w') : Told B w xs (.returned (.slice A n cap)) w' := by
  subst e hn; exact ⟨A, cap, rfl, h, hb⟩

theorem h21b {w w1 : World} {a b : Obj} (hg : ((w.alloc a).alloc b).grownBy w1 (Value.slice none 0 0).ownBlock) : w1.heap[w.heap.size + 1]? = some b := by
  rw [hg.block _ (by simp) (by simp [Value.ownBlock])]; exact h21 _ _ _
set_option maxHeartbeats 1600000 in
set_option maxRecDepth 100000 in
theorem r_Steps (man : Int) (w : World) : Calls Try.prog 103 #[.int .i64 man] w (Told w.heap.size w (stepI man)) := by
  have kb := mKind_bd man
  have hK := stepI_kind man
  by_cases k1 : mKind man = 1
  · have E := Lib.hid (hK.1 k1)
    clear kb hK
    go_enter Try.func103, Try.ntmps103
    go_wp2_with (first
      | (go_at_call 81; refine (r_Kind _ _).mono ?_; rintro e w' ⟨rfl, rfl⟩)
      | (at_builtin; refine appendL rfl _ _ rfl w.heap.size (.slice none 0 0) [] rfl (Own.none _ _) (w.heap.size + 1 + 1) 4 4 [1, man, -1, man] rfl rfl (by omega) (h32 _ _ _ _) (by simp) (by simp; omega) ?_; intro A cap w1 hown hg))
    go_ret
    exact Told.mk E.out rfl (by simpa using hown) ((b3 w _ _ _).grown hg (by simp; omega) (by simp [Value.ownBlock]))
  · have c1 : (mKind man == 1) = false := by simpa using k1
    by_cases k2 : mKind man = 2
    · have E := Lib.hid (hK.2.1 k2)
      clear kb hK k1
      go_enter Try.func103, Try.ntmps103
      go_wp2_with (first
      | (go_at_call 81; refine (r_Kind _ _).mono ?_; rintro e w' ⟨rfl, rfl⟩)
      | (at_builtin; refine appendL rfl (.tmp 19) (.tmp 20) rfl w.heap.size (.slice none 0 0) [] rfl (Own.none _ _) (w.heap.size + 1 + 1) 8 8 [1, 2, 2, 1, 2, -1, 1, -2] rfl rfl (by omega) (h32 _ _ _ _) (by simp) (by simp <;> omega) ?_; intro A cap w1 hown hg; simp only [List.length_nil, Nat.zero_add, List.nil_append] at hown)
      | (at_builtin; refine appendL rfl (.tmp 22) (.tmp 23) rfl w.heap.size (.slice A 8 cap) [1, 2, 2, 1, 2, -1, 1, -2] rfl (hown.alloc _) w1.heap.size 8 8 [-1, -2, -2, -1, -2, 1, -1, 2] rfl rfl (by omega) (heap_alloc_last _ _) (by simp) (by have := hg.size; simp at this ⊢; omega) ?_; intro A2 cap2 w2 hown2 hg2))
      go_ret
      have hs := hg.size
      simp at hs
      exact Told.mk E.out rfl (by simpa using hown2) ((((b3 w _ _ _).grown hg (by simp; omega) (by simp [Value.ownBlock])).alloc (by omega) _).grown hg2 (by simp; omega) (fun k hk => (hown.lt k hk).1))
    · have c2 : (mKind man == 2) = false := by simpa using k2
      by_cases k3 : mKind man = 3
      · have E := Lib.hid (hK.2.2.1 k3)
        clear kb hK k1 k2
        go_enter Try.func103, Try.ntmps103
        go_wp2_with (first
      | (go_at_call 81; refine (r_Kind _ _).mono ?_; rintro e w' ⟨rfl, rfl⟩)
      | (at_builtin; refine appendL rfl (.tmp 27) (.tmp 28) rfl w.heap.size (.slice none 0 0) [] rfl (Own.none _ _) (w.heap.size + 1) 8 8 [1, 1, 1, -1, -1, -1, -1, 1] rfl rfl (by omega) (h21 _ _ _) (by simp) (by simp <;> omega) ?_; intro A cap w1 hown hg; simp only [List.length_nil, Nat.zero_add, List.nil_append] at hown))
        go_ret
        exact Told.mk E.out rfl (by simpa using hown) ((b2 w _ _).grown hg (by simp; omega) (by simp [Value.ownBlock]))
      · have c3 : (mKind man == 3) = false := by simpa using k3
        by_cases k4 : mKind man = 4
        · have E := Lib.hid (hK.2.2.2.1 k4)
          clear kb hK k1 k2 k3
          go_enter Try.func103, Try.ntmps103
          go_wp2_with (first
      | (go_at_call 81; refine (r_Kind _ _).mono ?_; rintro e w' ⟨rfl, rfl⟩)
      | (at_builtin; refine appendL rfl (.tmp 32) (.tmp 33) rfl w.heap.size (.slice none 0 0) [] rfl (Own.none _ _) w.heap.size 8 8 [0, 1, 1, 0, 0, -1, -1, 0] rfl rfl (by omega) (h20 _ _ _) (by simp) (by simp <;> omega) ?_; intro A cap w1 hown hg; simp only [List.length_nil, Nat.zero_add, List.nil_append] at hown))
          go_ret
          exact Told.mk E.out rfl (by simpa using hown) ((b2 w _ _).grown hg (by simp; omega) (by simp [Value.ownBlock]))
        · have c4 : (mKind man == 4) = false := by simpa using k4
          by_cases k0 : mKind man = 0
          · have E := Lib.hid (hK.2.2.2.2.2 k0)
            clear kb hK k1 k2 k3 k4 c1 c2 c3 c4
            go_enter Try.func103, Try.ntmps103
            go_wp2_with (first
      | (go_at_call 81; refine (r_Kind _ _).mono ?_; rintro e w' ⟨rfl, rfl⟩))
            go_ret
            exact Told.none E.out (b2 w _ _)
          · have body : ∀ w : World, (mKind man == 5) = true ∨ (mKind man == 5) = false ∧ (mKind man == 6) = true → Calls Try.prog 103 #[.int .i64 man] w (Told w.heap.size w (stepI man)) := by
              intro w q
              have E := Lib.hid (hK.2.2.2.2.1 (by omega))
              clear kb hK k1 k2 k3 k4 k0
              rcases q with q | ⟨q, q'⟩
              all_goals
                go_enter Try.func103, Try.ntmps103
                go_wp2_with (first
      | (go_at_call 81; refine (r_Kind _ _).mono ?_; rintro e w' ⟨rfl, rfl⟩)
      | (at_builtin; refine appendL rfl (.tmp 38) (.tmp 39) rfl w.heap.size (.slice none 0 0) [] rfl (Own.none _ _) w.heap.size 8 8 [0, 1, 1, 0, 0, -1, -1, 0] rfl rfl (by omega) (h20 _ _ _) (by simp) (by simp <;> omega) ?_; intro A cap w1 hown hg; simp only [List.length_nil, Nat.zero_add, List.nil_append] at hown; have hb9 := Lib.hid (h21b hg))
                  | (at_builtin; refine appendL rfl (.tmp 41) (.tmp 42) rfl w.heap.size (.slice A 8 cap) [0, 1, 1, 0, 0, -1, -1, 0] rfl hown (w.heap.size + 1) 8 8 [1, 1, 1, -1, -1, -1, -1, 1] rfl rfl (by omega) hb9.out (by simp) (by have := hg.size; simp at this; omega) ?_; intro A2 cap2 w2 hown2 hg2))
                go_ret
                have hs := hg.size
                simp at hs
                exact Told.mk E.out rfl (by simpa using hown2) (((b2 w _ _).grown hg (by simp; omega) (by simp [Value.ownBlock])).grown hg2 (by omega) (fun k hk => (hown.lt k hk).1))
            refine body w ?_
            by_cases k5 : mKind man = 5
            · exact .inl (by simpa using k5)
            · exact .inr ⟨by simpa using k5, by simp; omega⟩
end Go.Proofs.Ytibaembmdcdbkaa
