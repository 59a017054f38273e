import Derived.Test.YtibaembmdcdbkaaSp
namespace Go.Proofs.Ytibaembmdcdbkaa
open Go.RowKit Alf

/-! from: who strikes a square -/
theorem take_app (A B : List Int) (m : Nat) : (A.take m ++ B).take m = (A ++ B).take m := by
  by_cases h : A.length ≤ m
  · rw [List.take_of_length_le h]
  · have h1 : m ≤ (A.take m).length := by rw [List.length_take]; omega
    have h2 : m ≤ A.length := by omega
    rw [List.take_append_of_le_length h1, List.take_append_of_le_length h2, List.take_take, Nat.min_self]
theorem fromF_fold (b : List Int) (man : Int) (most : Nat) (l : List Int) : ∀ xs : List Int, xs.length ≤ most → l.foldl (fromF b man most) xs = (xs ++ l.filter fun t => bd b t == man).take most := by
  induction l with
  | nil => intro xs h; simp; exact (List.take_of_length_le h).symm
  | cons t l ih =>
    intro xs h
    rw [List.foldl_cons, List.filter_cons]
    by_cases e : bd b t = man
    · by_cases g : xs.length < most
      · have h1 : fromF b man most xs t = xs ++ [t] := by unfold fromF; rw [if_pos ⟨e, g⟩]
        rw [h1, ih _ (by simp; omega), if_pos (by simpa using e), List.append_assoc]
        rfl
      · have h1 : fromF b man most xs t = xs := by unfold fromF; rw [if_neg (fun q => g q.2)]
        rw [h1, ih _ h, if_pos (by simpa using e), List.take_append_of_le_length (by omega), List.take_append_of_le_length (by omega)]
    · have h1 : fromF b man most xs t = xs := by unfold fromF; rw [if_neg (fun q => e q.1)]
      rw [h1, ih _ h, if_neg (by simpa using e)]
theorem fromF_len (b : List Int) (man : Int) (most : Nat) (xs : List Int) (t : Int) : (fromF b man most xs t).length ≤ xs.length + 1 := by
  unfold fromF; split <;> simp
def kindsTo (n : Nat) : List Int := (List.range n).map fun (i : Nat) => (i : Int) + 1
theorem kindsTo_succ (n : Nat) : kindsTo (n + 1) = kindsTo n ++ [(n : Int) + 1] := by simp [kindsTo, List.range_succ]
def fromTo (b : List Int) (s side : Int) (most n : Nat) : List Int := ((kindsTo n).flatMap (fromK b s side)).take most
theorem fromTo_zero (b : List Int) (s side : Int) (most : Nat) : fromTo b s side most 0 = [] := by simp [fromTo, kindsTo]
theorem fromTo_succ (b : List Int) (s side : Int) (most n : Nat) : fromTo b s side most (n + 1) = (alongL (emp b) (-(mMake ((n : Int) + 1) side)) s).foldl (fromF b (mMake ((n : Int) + 1) side) most) (fromTo b s side most n) := by
  rw [fromF_fold _ _ _ _ _ (by unfold fromTo; rw [List.length_take]; omega)]
  unfold fromTo
  rw [take_app, kindsTo_succ, List.flatMap_append]
  simp [fromK]
theorem fromTo_len (b : List Int) (s side : Int) (most n : Nat) : (fromTo b s side most n).length ≤ most := by unfold fromTo; rw [List.length_take]; omega
theorem mMake_bd (k side : Int) : -6 ≤ mMake k side ∧ mMake k side ≤ 6 := by
  unfold mMake
  (repeat' split) <;> omega
theorem ent80 (args : Array Value) (W : World) : (callFunc 80 args).run Try.prog W = .ok (.enter 80 args) W := by
  kernel_rfl

set_option maxHeartbeats 800000 in
set_option maxRecDepth 100000 in
theorem eye_from (a : Addr) (b : List Int) (hb : BOk b) (s side : Int) (most : Nat) (hmost : most ≤ 64) (w : World) : Calls Try.prog 42 #[.pointer (some a), .agg (boardC b), .int .i64 s, .int .i64 side, .int .i64 most] w (Told w.heap.size w (fromL b s side most)) := by
  have E := Lib.hid (show fromL b s side most = sortI (fromTo b s side most 6) from rfl)
  have hbel0 : Below w.heap.size w (((w.alloc (.cells (boardC b) 24)).alloc (.cells #[.int .i64 most] 3)).alloc (.cells #[.slice none 0 0] 28)) :=
    (((Below.refl _ _).alloc (Nat.le_refl _) _).alloc (by simp) _).alloc (by simp; omega) _
  have hb0 : (((w.alloc (.cells (boardC b) 24)).alloc (.cells #[.int .i64 most] 3)).alloc (.cells #[.slice none 0 0] 28)).heap[w.heap.size]? = some (.cells (boardC b) 24) := by
    rw [Below.heap_alloc _ _ _ (by simp; omega), Below.heap_alloc _ _ _ (by simp)]; exact heap_alloc_last _ _
  have hm0 : (((w.alloc (.cells (boardC b) 24)).alloc (.cells #[.int .i64 most] 3)).alloc (.cells #[.slice none 0 0] 28)).heap[w.heap.size + 1]? = some (.cells #[.int .i64 most] 3) := by
    rw [Below.heap_alloc _ _ _ (by simp)]; have := heap_alloc_last (w.alloc (.cells (boardC b) 24)) (.cells #[.int .i64 most] 3); simpa using this
  have ho0 : OutIs (w.heap.size + 1 + 1) (.slice none 0 0) [] (((w.alloc (.cells (boardC b) 24)).alloc (.cells #[.int .i64 most] 3)).alloc (.cells #[.slice none 0 0] 28)) := by
    have := out_new ((w.alloc (.cells (boardC b) 24)).alloc (.cells #[.int .i64 most] 3)); simpa using this
  have HB0 := Lib.hid hb0
  have HM0 := Lib.hid hm0
  have HO0 := Lib.hid ho0
  have HBE0 := Lib.hid hbel0
  clear hb0 hm0 ho0 hbel0
  go_enter Try.func42, Try.ntmps42
  go_wp2_with fail
  go_loopg [12] 6 (fun m kv wr => ∃ (n : Nat) (v : Value), n + m = 6 ∧ kv = .int .i64 ((n : Int) + 1) ∧ OutIs (w.heap.size + 1 + 1) v (fromTo b s side most n) wr ∧ Below w.heap.size w wr ∧
    wr.heap[w.heap.size]? = some (.cells (boardC b) 24) ∧ wr.heap[w.heap.size + 1]? = some (.cells #[.int .i64 most] 3))
  case atStart => exact ⟨0, _, by omega, rfl, by rw [fromTo_zero]; exact HO0.out, HBE0.out, HB0.out, HM0.out⟩
  case round =>
    obtain ⟨n, v, hn, rfl, ho, hbe, hb1, hm1⟩ := hrel
    have HN := Lib.hid hn
    have HO := Lib.hid ho
    have HBE := Lib.hid hbe
    have HB1 := Lib.hid hb1
    have HM1 := Lib.hid hm1
    by_cases g0 : gk = 0
    · have n6 : n = 6 := by omega
      subst n6
      have hl := fromTo_len b s side most 6
      obtain ⟨A, cap, rfl⟩ := ho.form
      have hcc := cell_of_one ho.1
      clear hn ho hbe hb1 hm1 g0 HB0 HM0 HO0 HBE0
      generalize fromTo b s side most 6 = ys at *
      go_wp2_with (go_at_call 40; refine (sort_own (w.heap.size + 1 + 1 + 1) A ys.length cap ys wr HO.out.2 rfl (by omega)).mono ?_; rintro e w4 ⟨rfl, hs, hg⟩; have hc4 := sorted_cell HO.out hg)
      go_ret
      rw [E.out]
      exact ⟨A, cap, by rw [sortI_len]; rfl, by rw [sortI_len]; exact hs.mono (by omega), HBE.out.grown hg (by have := HBE.out.size; omega) (fun k hk => by have := (HO.out.2.lt k hk).1; omega)⟩
    · have n5 : n ≤ 5 := by omega
      have G := Lib.hid g0
      obtain ⟨c1, c2⟩ := mMake_bd ((n : Int) + 1) side
      clear hn ho hbe hb1 hm1 g0 HB0 HM0 HO0 HBE0
      go_wp2_with (go_at_call 50; refine (men_Make _ _ _).mono ?_; rintro e w' ⟨rfl, rfl⟩)
      have hsz := HBE.out.size
      have hcl := lt_of_block HO.out.1
      have hO2 : OutIs (w.heap.size + 1 + 1) v (fromTo b s side most n) (wr.alloc (.cells #[.int .i64 (mMake ((n : Int) + 1) side)] 3)) := HO.out.below (below_box _ _)
      have hvl := HO.out.2.lt
      have hkeep : Keeps [(w.heap.size, .cells (boardC b) 24), (wr.heap.size, .cells #[.int .i64 (mMake ((n : Int) + 1) side)] 3), (w.heap.size + 1, .cells #[.int .i64 most] 3)] (w.heap.size + 1 + 1) v
          (wr.alloc (.cells #[.int .i64 (mMake ((n : Int) + 1) side)] 3)) := by
        intro p hp
        simp only [List.mem_cons, List.not_mem_nil, or_false] at hp
        rcases hp with rfl | rfl | rfl
        · exact ⟨by rw [Below.heap_alloc _ _ _ (by omega)]; exact HB1.out, by simp only; omega, fun e => by have := (hvl _ e).1; simp only at this; omega⟩
        · exact ⟨heap_alloc_last _ _, by simp only; omega, fun e => by have := (hvl _ e).2; simp only at this; omega⟩
        · exact ⟨by rw [Below.heap_alloc _ _ _ (by omega)]; exact HM1.out, by simp only; omega, fun e => by have := (hvl _ e).1; simp only at this; omega⟩
      have hfl := fromTo_len b s side most n
      refine (rays_along _ _ _ _ (w.heap.size + 1 + 1) _ (emp b) (fromF b (mMake ((n : Int) + 1) side) most) (fromF_len b _ most) (from1 b hb _ _ _ _ _ most) ent80 v (fromTo b s side most n) _ (by omega) hO2 hkeep).mono ?_
      rintro e w3 ⟨rfl, v', ho, hst⟩
      have hb3 := (hkeep.step hst) _ (List.mem_cons_self ..)
      have hm3 := (hkeep.step hst) _ (List.mem_cons_of_mem _ (List.mem_cons_of_mem _ (List.mem_cons_self ..)))
      have hbel := HBE.out.trans (((below_box wr (.cells #[.int .i64 (mMake ((n : Int) + 1) side)] 3)).mono hsz).trans (step_below hst hO2 (by omega) (by simp; omega)))
      have HO3 := Lib.hid ho
      have HB3 := Lib.hid hb3
      have HM3 := Lib.hid hm3
      have HBE3 := Lib.hid hbel
      clear ho hb3 hm3 hbel hkeep hst hO2 hvl
      go_wp2_with fail
      go_roundg (gk - 1)
      case measure => have := G.out; omega
      case rel => exact ⟨n + 1, v', by have := HN.out; have := G.out; omega, by go_num, by rw [fromTo_succ]; exact HO3.out, HBE3.out, HB3.out.1, HM3.out.1⟩
end Go.Proofs.Ytibaembmdcdbkaa
