import Derived.Test.YtibaembmdcdbkaaMm
namespace Go.Proofs.Ytibaembmdcdbkaa
open Go.RowKit Alf

/-! slices of steps -/
def stepC (ds : List (Int × Int)) : List Value := ds.flatMap fun d => [.int .i64 d.1, .int .i64 d.2]
theorem stepC_len (ds : List (Int × Int)) : (stepC ds).length = ds.length * 2 := by
  unfold stepC
  induction ds with
  | nil => rfl
  | cons d ds ih => simp only [List.flatMap_cons, List.length_append, List.length_cons, List.length_nil, ih]; omega
def OwnS (B : Nat) (v : Value) (ds : List (Int × Int)) (w : World) : Prop := w.ownsRow B 80 2 v ds.length (stepC ds)
theorem infoStep : (Try.prog.info? 80).map (fun i => (i.zero, i.size, i.bytes)) = some (some (.agg #[.int .i64 0, .int .i64 0]), 2, 16) := by kernel_rfl
theorem ownS_lit (w : World) (ds : List (Int × Int)) (h : ds.length ≤ 100) : OwnS w.heap.size (.slice (some ⟨w.heap.size, 0, none⟩) ds.length ds.length) ds (w.alloc (.cells (stepC ds).toArray 80)) := by
  have := World.ownsRow_lit (base := w.heap.size) (e := 80) (size := 2) w (stepC ds).toArray ds.length (Nat.le_refl _) (by unfold maxLen; omega) (by simp [stepC_len])
  simpa [OwnS] using this

theorem rays_straight (w : World) : Calls Try.prog 91 #[] w fun e w' => e = .returned (.slice (some ⟨w.heap.size, 0, none⟩) 4 4) ∧ OwnS w.heap.size (.slice (some ⟨w.heap.size, 0, none⟩) 4 4) straightD w' ∧ Below w.heap.size w w' := by
  have h := ownS_lit w straightD (by decide)
  have H := Lib.hid h
  clear h
  go_enter Try.func91, Try.ntmps91
  go_wp2
  go_ret
  exact ⟨rfl, H.out, below_box _ _⟩
theorem rays_slant (w : World) : Calls Try.prog 90 #[] w fun e w' => e = .returned (.slice (some ⟨w.heap.size, 0, none⟩) 4 4) ∧ OwnS w.heap.size (.slice (some ⟨w.heap.size, 0, none⟩) 4 4) slantD w' ∧ Below w.heap.size w w' := by
  have h := ownS_lit w slantD (by decide)
  have H := Lib.hid h
  clear h
  go_enter Try.func90, Try.ntmps90
  go_wp2
  go_ret
  exact ⟨rfl, H.out, below_box _ _⟩
set_option maxRecDepth 100000 in
theorem rays_jumps (w : World) : Calls Try.prog 89 #[] w fun e w' => e = .returned (.slice (some ⟨w.heap.size, 0, none⟩) 8 8) ∧ OwnS w.heap.size (.slice (some ⟨w.heap.size, 0, none⟩) 8 8) jumpD w' ∧ Below w.heap.size w w' := by
  have h := ownS_lit w jumpD (by decide)
  have H := Lib.hid h
  clear h
  go_enter Try.func89, Try.ntmps89
  go_wp2
  go_ret
  exact ⟨rfl, H.out, below_box _ _⟩
theorem OwnS.below {B : Nat} {v : Value} {ds : List (Int × Int)} {w w' : World} (h : OwnS B v ds w) (hb : Below w.heap.size w w') : OwnS B v ds w' :=
  World.ownsRow.kept h (grown_below hb none) (by cases v.ownBlock <;> simp)
theorem stepC_app (a b : List (Int × Int)) : stepC (a ++ b) = stepC a ++ stepC b := by simp [stepC]
theorem stepC_one (ds : List (Int × Int)) : ∀ u ∈ stepC ds, u.oneCell' = true := by
  intro u hu
  unfold stepC at hu
  obtain ⟨d, _, h⟩ := List.mem_flatMap.1 hu
  simp at h
  rcases h with rfl | rfl <;> rfl
theorem OwnS.cells {B g n cap : Nat} {ds : List (Int × Int)} {w : World} (h : OwnS B (.slice (some ⟨g, 0, none⟩) n cap) ds w) : ∀ j u, (stepC ds)[j]? = some u → w.cell? ((⟨g, 0, none⟩ : Addr).add j) = some u :=
  World.ownsRow.cells h rfl
theorem OwnS.mono {B B' : Nat} {v : Value} {ds : List (Int × Int)} {w : World} (h : OwnS B v ds w) (hB : B' ≤ B) : OwnS B' v ds w := by
  refine ⟨h.1, ?_⟩
  rcases h.2 with hn | ⟨g, cap, cur, e, hb, r⟩
  · exact .inl hn
  · exact .inr ⟨g, cap, cur, e, by omega, r⟩
theorem OwnS.form {B : Nat} {v : Value} {ds : List (Int × Int)} {w : World} (h : OwnS B v ds w) : ∃ A cap, v = .slice A ds.length cap := by
  rcases h.2 with ⟨rfl, h0⟩ | ⟨g, cap, cur, rfl, _⟩
  · exact ⟨none, 0, by rw [h0]⟩
  · exact ⟨_, _, rfl⟩
theorem appendS {ops : Array Oper} {rest : List Oper} {o : Oper} {a : Act} {w : World} {Q : Exit → Act → World → Prop} (hgd : o.guard = none) (s x : Operand)
    (ho : o.op = .call { callee := .builtin .append, args := #[s, x], argTypes := #[76, 76] }) (B B' g g2 n m c c2 : Nat) (ds es : List (Int × Int)) (hs : a.eval s = .slice (some ⟨g, 0, none⟩) n c) (hn : ds.length = n)
    (hown : OwnS B (.slice (some ⟨g, 0, none⟩) n c) ds w) (hx : a.eval x = .slice (some ⟨g2, 0, none⟩) m c2) (hm : es.length = m) (hsrc : OwnS B' (.slice (some ⟨g2, 0, none⟩) m c2) es w) (h0 : 0 < m) (hlen : n + m ≤ 1000) (hB : B ≤ w.heap.size)
    (h : ∀ A cap w', OwnS B (.slice A (n + m) cap) (ds ++ es) w' → w.grownBy w' (some g) → wpList Try.prog ops Q rest (a.put o.dst (.slice A (n + m) cap)) w') : wpList Try.prog ops Q (o :: rest) a w := by
  obtain ⟨i0, hi, hz0, hz1, hz2⟩ := info_parts infoStep
  subst hn hm
  refine appendGen hgd s x 76 ho B 80 i0 (.agg #[.int .i64 0, .int .i64 0]) Try.underlying76 hi hz0 (by rw [hz1]; rfl) (by omega) _ ds.length (stepC ds) hs (by rw [hz1]; exact hown)
    ⟨g2, 0, none⟩ es.length c2 (stepC es) hx h0 (by rw [hz1]; exact stepC_len es) hsrc.cells (stepC_one es) (by unfold maxLen; omega) (by rw [hz2]; omega) hB ?_
  intro v' w' h2 h3 _
  rw [hz1] at h2
  have h2' : OwnS B v' (ds ++ es) w' := by
    unfold OwnS
    rw [List.length_append, stepC_app]
    exact h2
  obtain ⟨A, cap, e⟩ := h2'.form
  rw [List.length_append] at e
  subst e
  exact h A cap w' h2' h3
theorem re_tup {a b : Value} {c d : Value} (h : a = b) (h' : c = d) : Ending.returned (.tuple #[a, c]) = .returned (.tuple #[b, d]) := by rw [h, h']

def StepsPost (man : Int) (w : World) (e : Ending) (w' : World) : Prop :=
  ∃ A cap, e = .returned (.tuple #[.slice A (stepsD man).length cap, .int .i64 (stepsN man)]) ∧ OwnS w.heap.size (.slice A (stepsD man).length cap) (stepsD man) w' ∧ Below w.heap.size w w'
theorem StepsPost.mk {man : Int} {w w' : World} {ds : List (Int × Int)} {k : Nat} {A : Option Addr} {cap n : Nat} (h1 : stepsD man = ds) (h2 : stepsN man = k) (hn : ds.length = n) (ho : OwnS w.heap.size (.slice A n cap) ds w') (hb : Below w.heap.size w w') :
    StepsPost man w (.returned (.tuple #[.slice A n cap, .int .i64 k])) w' := by
  subst h1 h2 hn
  exact ⟨A, cap, rfl, ho, hb⟩

set_option maxHeartbeats 800000 in
set_option maxRecDepth 100000 in
theorem rays_steps (man : Int) (w : World) : Calls Try.prog 76 #[.int .i64 man] w (StepsPost man w) := by
  have kb := mKind_bd man
  by_cases k1 : mKind man = 1
  · cases g : decide (mSide man = 1) with
    | true =>
      have q : mSide man = 1 := by simpa using g
      have E := Lib.hid (show stepsD man = [(1, -1), (-1, -1)] by unfold stepsD; rw [if_pos k1]; simp [q])
      have E2 := Lib.hid (show stepsN man = 1 by unfold stepsN; rw [if_pos (.inl k1)])
      have L := Lib.hid (ownS_lit w [(1, -1), (-1, -1)] (by decide))
      clear kb g
      go_enter Try.func76, Try.ntmps76
      go_wp2_with (first | (go_at_call 48; refine (men_Kind _ _).mono ?_; rintro e w' ⟨rfl, rfl⟩) | (go_at_call 49; refine (men_Side _ _).mono ?_; rintro e w' ⟨rfl, rfl⟩))
      go_ret2
      exact StepsPost.mk E.out E2.out rfl L.out (below_box _ _)
    | false =>
      have q : ¬ mSide man = 1 := by simpa using g
      have E := Lib.hid (show stepsD man = [(1, 1), (-1, 1)] by unfold stepsD; rw [if_pos k1]; simp [q])
      have E2 := Lib.hid (show stepsN man = 1 by unfold stepsN; rw [if_pos (.inl k1)])
      have L := Lib.hid (ownS_lit w [(1, 1), (-1, 1)] (by decide))
      have q1 : (mSide man == 1) = false := by simpa using q
      clear kb g q
      go_enter Try.func76, Try.ntmps76
      go_wp2_with (first | (go_at_call 48; refine (men_Kind _ _).mono ?_; rintro e w' ⟨rfl, rfl⟩) | (go_at_call 49; refine (men_Side _ _).mono ?_; rintro e w' ⟨rfl, rfl⟩))
      go_ret2
      exact StepsPost.mk E.out E2.out rfl L.out (below_box _ _)
  · have b1 : (mKind man == 1) = false := by simpa using k1
    by_cases k2 : mKind man = 2
    · have E := Lib.hid (show stepsD man = jumpD by unfold stepsD; rw [if_neg k1, if_pos k2])
      have E2 := Lib.hid (show stepsN man = 1 by unfold stepsN; rw [if_pos (.inr (.inl k2))])
      clear kb k1
      go_enter Try.func76, Try.ntmps76
      go_wp2_with (first | (go_at_call 48; refine (men_Kind _ _).mono ?_; rintro e w' ⟨rfl, rfl⟩) | (go_at_call 89; refine (rays_jumps _).mono ?_; rintro e w1 ⟨rfl, h1, h2⟩))
      go_ret2
      exact StepsPost.mk E.out E2.out rfl h1 h2
    · have b2 : (mKind man == 2) = false := by simpa using k2
      by_cases k3 : mKind man = 3
      · have E := Lib.hid (show stepsD man = slantD by unfold stepsD; rw [if_neg k1, if_neg k2, if_pos k3])
        have E2 := Lib.hid (show stepsN man = 64 by unfold stepsN; rw [if_neg (by omega)])
        clear kb k1 k2
        go_enter Try.func76, Try.ntmps76
        go_wp2_with (first | (go_at_call 48; refine (men_Kind _ _).mono ?_; rintro e w' ⟨rfl, rfl⟩) | (go_at_call 90; refine (rays_slant _).mono ?_; rintro e w1 ⟨rfl, h1, h2⟩))
        go_ret2
        exact StepsPost.mk E.out E2.out rfl h1 h2
      · have b3 : (mKind man == 3) = false := by simpa using k3
        by_cases k4 : mKind man = 4
        · have E := Lib.hid (show stepsD man = straightD by unfold stepsD; rw [if_neg k1, if_neg k2, if_neg k3, if_pos k4])
          have E2 := Lib.hid (show stepsN man = 64 by unfold stepsN; rw [if_neg (by omega)])
          clear kb k1 k2 k3
          go_enter Try.func76, Try.ntmps76
          go_wp2_with (first | (go_at_call 48; refine (men_Kind _ _).mono ?_; rintro e w' ⟨rfl, rfl⟩) | (go_at_call 91; refine (rays_straight _).mono ?_; rintro e w1 ⟨rfl, h1, h2⟩))
          go_ret2
          exact StepsPost.mk E.out E2.out rfl h1 h2
        · have b4 : (mKind man == 4) = false := by simpa using k4
          have E := Lib.hid (show stepsD man = straightD ++ slantD by unfold stepsD; rw [if_neg k1, if_neg k2, if_neg k3, if_neg k4])
          obtain ⟨i0, hi, hz0, hz1, hz2⟩ := info_parts infoStep
          have HI := Lib.hid hi
          have HZ := Lib.hid hz0
          have HS := Lib.hid hz1
          have HB := Lib.hid hz2
          clear hi hz0 hz1 hz2
          by_cases k6 : mKind man = 6
          · have E2 := Lib.hid (show stepsN man = 1 by unfold stepsN; rw [if_pos (.inr (.inr k6))])
            clear kb k1 k2 k3 k4
            go_enter Try.func76, Try.ntmps76
            go_wp2_with (first | (go_at_call 48; refine (men_Kind _ _).mono ?_; rintro e w' ⟨rfl, rfl⟩) | (go_at_call 91; refine (rays_straight _).mono ?_; rintro e w1 ⟨rfl, h1, h2⟩) | (go_at_call 90; refine (rays_slant _).mono ?_; rintro e w2 ⟨rfl, h3, h4⟩) | (at_builtin; refine appendS rfl _ _ rfl w.heap.size w1.heap.size _ _ 4 4 4 4 straightD slantD rfl rfl (h1.below h4) rfl rfl h3 (by omega) (by omega) (by have := h2.size; have := h4.size; omega) ?_; intro A cap w3 h5 h6))
            go_ret2
            exact StepsPost.mk E.out E2.out rfl h5 ((h2.trans (h4.mono h2.size)).grown h6 (by have := h2.size; have := h4.size; omega) (fun k hk => by injection hk with hk; omega))
          · have E2 := Lib.hid (show stepsN man = 64 by unfold stepsN; rw [if_neg (by omega)])
            have b6 : (mKind man == 6) = false := by simpa using k6
            clear kb k1 k2 k3 k4 k6
            go_enter Try.func76, Try.ntmps76
            go_wp2_with (first | (go_at_call 48; refine (men_Kind _ _).mono ?_; rintro e w' ⟨rfl, rfl⟩) | (go_at_call 91; refine (rays_straight _).mono ?_; rintro e w1 ⟨rfl, h1, h2⟩) | (go_at_call 90; refine (rays_slant _).mono ?_; rintro e w2 ⟨rfl, h3, h4⟩) | (at_builtin; refine appendS rfl _ _ rfl w.heap.size w1.heap.size _ _ 4 4 4 4 straightD slantD rfl rfl (h1.below h4) rfl rfl h3 (by omega) (by omega) (by have := h2.size; have := h4.size; omega) ?_; intro A cap w3 h5 h6))
            go_ret2
            exact StepsPost.mk E.out E2.out rfl h5 ((h2.trans (h4.mono h2.size)).grown h6 (by have := h2.size; have := h4.size; omega) (fun k hk => by injection hk with hk; omega))
end Go.Proofs.Ytibaembmdcdbkaa
