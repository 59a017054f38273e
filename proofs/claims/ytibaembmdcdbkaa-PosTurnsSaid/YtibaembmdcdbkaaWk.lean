import Derived.Test.YtibaembmdcdbkaaMm
namespace Go.Proofs.Ytibaembmdcdbkaa
open Go.RowKit Alf

/-! rays.walk -/
theorem stepSq_bd {s df dr t : Int} (h : stepSq s df dr = some t) : 0 ≤ t ∧ t < 64 := by
  unfold stepSq at h
  split at h
  · unfold atSq at h
    split at h
    · rename_i g; unfold onB at g; simp at g h; omega
    · cases h
  · cases h
theorem walkL_len (n : Nat) (s df dr : Int) : (walkL n s df dr).length ≤ n := by
  induction n generalizing s with
  | zero => simp [walkL]
  | succ n ih =>
    simp only [walkL]
    split
    · simp
    · split
      · simp
      · simp; exact ih _

set_option maxRecDepth 100000 in
theorem rays_walk (s df dr : Int) (n : Nat) (hn : n ≤ 64) (w : World) : Calls Try.prog 77 #[.int .i64 s, .agg #[.int .i64 df, .int .i64 dr], .int .i64 n] w fun e w' =>
    ∃ A cap, e = .returned (.slice A (walkL n s df dr).length cap) ∧ Own w.heap.size (.slice A (walkL n s df dr).length cap) (walkL n s df dr) w' ∧ Below w.heap.size w w' := by
  go_enter Try.func77, Try.ntmps77
  go_wp2_with fail
  go_loopg [0, 7, 8, 9] n (fun m cur v _ _ wr => ∃ (done : List Int) (c : Int) (A : Option Addr) (cap : Nat), done.length + m = n ∧ cur = .int .i64 c ∧ v = .slice A done.length cap ∧ walkL n s df dr = done ++ walkL m c df dr ∧
    Own (w.heap.size + 1) (.slice A done.length cap) done wr ∧ Below w.heap.size w wr ∧ wr.heap[w.heap.size]? = some (.cells #[.int .i64 df, .int .i64 dr] 80))
  case atStart => exact ⟨[], s, none, 0, by simp, rfl, rfl, rfl, Own.none _ _, below_box _ _, heap_alloc_last _ _⟩
  case round =>
    obtain ⟨done, c, A, cap, hlen, rfl, rfl, hw, hown, hbel, hbox⟩ := hrel
    have hlt : w.heap.size < wr.heap.size := lt_of_block hbox
    have c0 : wr.cell? ⟨w.heap.size, 0, none⟩ = some (.int .i64 df) := by rw [cell_of_row _ _ 0 _ _ _ hbox]; rfl
    have c1 : wr.cell? ⟨w.heap.size, 1, none⟩ = some (.int .i64 dr) := by rw [cell_of_row _ _ 1 _ _ _ hbox]; rfl
    have HW := Lib.hid hw
    have HL := Lib.hid hlen
    have HX := Lib.hid hbox
    clear hw hbox
    by_cases g0 : gk = 0
    · have E := Lib.hid (show walkL n s df dr = done by rw [HW.out, g0]; simp [walkL])
      have e2 : decide (done.length < n) = false := by simp; omega
      clear hlen g0
      go_wp2
      go_ret
      rw [E.out]
      exact ⟨A, cap, rfl, hown.mono (by omega), hbel⟩
    · obtain ⟨m, hm⟩ : ∃ m, gk = m + 1 := ⟨gk - 1, by omega⟩
      have e2 : decide (done.length < n) = true := by simp; omega
      have e3 : done.length ≤ 64 := by omega
      have G := Lib.hid hm
      clear hlen hm g0
      cases q : stepSq c df dr with
      | none =>
        have E := Lib.hid (show walkL n s df dr = done by rw [HW.out, G.out]; simp [walkL, q])
        have q1 : oI (stepSq c df dr) = 0 := by rw [q]; rfl
        have q2 : oB (stepSq c df dr) = false := by rw [q]; rfl
        clear q
        go_wp2_with (go_at_call 59; refine (sq_Step _ _ _ _).mono ?_; rintro e w' ⟨rfl, rfl⟩)
        go_ret
        rw [E.out]
        exact ⟨A, cap, rfl, hown.mono (by omega), hbel⟩
      | some t =>
        have q1 : oI (stepSq c df dr) = t := by rw [q]; rfl
        have q2 : oB (stepSq c df dr) = true := by rw [q]; rfl
        have Q := Lib.hid q
        clear q
        by_cases z : df = 0 ∧ dr = 0
        · have E := Lib.hid (show walkL n s df dr = done by rw [HW.out, G.out]; simp only [walkL, Q.out]; rw [if_pos z]; simp)
          have z1 : (df == 0) = true := by simpa using z.1
          have z2 : (dr == 0) = true := by simpa using z.2
          clear z
          go_wp2_with (go_at_call 59; refine (sq_Step _ _ _ _).mono ?_; rintro e w' ⟨rfl, rfl⟩)
          go_ret
          rw [E.out]
          exact ⟨A, cap, rfl, hown.mono (by omega), hbel⟩
        · have E := Lib.hid (show walkL n s df dr = (done ++ [t]) ++ walkL m t df dr by rw [HW.out, G.out]; simp only [walkL, Q.out]; rw [if_neg z]; simp)
          have Z := Lib.hid z
          clear z
          have Wr : ∀ A' cap' w1, Own (w.heap.size + 1) (.slice A' (done.length + 1) cap') (done ++ [t]) w1 → wr.grownBy w1 (Value.slice A done.length cap).ownBlock →
              Own (w.heap.size + 1) (.slice A' (done ++ [t]).length cap') (done ++ [t]) w1 ∧ Below w.heap.size w w1 ∧ w1.heap[w.heap.size]? = some (.cells #[.int .i64 df, .int .i64 dr] 80) := by
            intro A' cap' w1 h1 h2
            refine ⟨by rw [List.length_append]; exact h1, hbel.grown h2 (by omega) (fun k hk => by have := (hown.lt k hk).1; omega), ?_⟩
            rw [h2.block w.heap.size hlt ?_]
            · exact HX.out
            · intro e
              have h3 := hown.lt _ e.symm
              omega
          have WR := Lib.hid Wr
          clear Wr
          by_cases z1 : df = 0
          · have z2 : ¬ dr = 0 := fun e => Z.out ⟨z1, e⟩
            have b1 : (df == 0) = true := by simpa using z1
            have b2 : (dr == 0) = false := by simpa using z2
            clear z1 z2
            go_wp2_with (first | (go_at_call 59; refine (sq_Step _ _ _ _).mono ?_; rintro e w' ⟨rfl, rfl⟩) | (at_builtin; refine append1 rfl _ _ rfl (w.heap.size + 1) _ done rfl wr hown t rfl rfl (by omega) (by omega) ?_; intro A' cap' w1 hown1 hg1 hn1))
            go_roundg m
            case measure => have := G.out; omega
            case rel => exact ⟨done ++ [t], t, A', cap', by have := G.out; have := HL.out; simp; omega, rfl, by simp, E.out, WR.out _ _ _ hown1 hg1⟩
          · have b1 : (df == 0) = false := by simpa using z1
            clear z1
            go_wp2_with (first | (go_at_call 59; refine (sq_Step _ _ _ _).mono ?_; rintro e w' ⟨rfl, rfl⟩) | (at_builtin; refine append1 rfl _ _ rfl (w.heap.size + 1) _ done rfl wr hown t rfl rfl (by omega) (by omega) ?_; intro A' cap' w1 hown1 hg1 hn1))
            go_roundg m
            case measure => have := G.out; omega
            case rel => exact ⟨done ++ [t], t, A', cap', by have := G.out; have := HL.out; simp; omega, rfl, by simp, E.out, WR.out _ _ _ hown1 hg1⟩
end Go.Proofs.Ytibaembmdcdbkaa
