import Derived.Test.YtibaembmdcdbkaaSk
import Derived.Test.YtibaembmdcdbkaaSr
namespace Go.Proofs.Ytibaembmdcdbkaa
open Go.RowKit Alf

/-! Strikes, from, By, Struck -/
/-- a list of whole numbers is told, in memory of the call's own -/
def Told (B : Nat) (w : World) (xs : List Int) (e : Ending) (w' : World) : Prop := ∃ A cap, e = .returned (.slice A xs.length cap) ∧ Own B (.slice A xs.length cap) xs w' ∧ Below B w w'
theorem Told.none {B : Nat} {w w' : World} {xs : List Int} (h : xs = []) (hb : Below B w w') : Told B w xs (.returned (.slice Option.none 0 0)) w' := by
  subst h; exact ⟨Option.none, 0, rfl, Own.none _ _, hb⟩

theorem step_below {c B : Nat} {v v' : Value} {xs : List Int} {w w' : World} (s : OutStep c v v' w w') (ho : OutIs c v xs w) (hc : B ≤ c) (hB : B ≤ w.heap.size) : Below B w w' :=
  ⟨s.os, s.tape, s.output, s.size, fun k hk => s.block k (by omega) (by omega) (fun e => by have := (ho.2.lt k e).1; omega)⟩
theorem out_new (w : World) : OutIs w.heap.size (.slice none 0 0) [] (w.alloc (.cells #[.slice none 0 0] 28)) := ⟨heap_alloc_last _ _, Own.none _ _⟩
theorem ent39 (args : Array Value) (W : World) : (callFunc 39 args).run Try.prog W = .ok (.enter 39 args) W := by
  kernel_rfl
theorem foldl_snoc (l : List Int) : ∀ xs : List Int, l.foldl (fun xs t => xs ++ [t]) xs = xs ++ l := by
  induction l with
  | nil => simp
  | cons t l ih => intro xs; simp [ih]
theorem bd_sq (s : Int) (h : sqR s = true) : ∃ k : Nat, s = k ∧ k < 64 := by
  unfold sqR at h
  simp at h
  exact ⟨s.toNat, by omega, by omega⟩

theorem sortI_len (l : List Int) : (sortI l).length = l.length := by unfold sortI; exact List.length_mergeSort _
theorem thru_len (go : Int → Bool) (l : List Int) : (thru go l).length ≤ l.length := (thru_sub go l).length_le
theorem along_len (go : Int → Bool) (man s : Int) : (alongL go man s).length ≤ 512 := by
  have h : ∀ ds : List (Int × Int), (ds.flatMap fun d => thru go (walkL (stepsN man) s d.1 d.2)).length ≤ 64 * ds.length := by
    intro ds
    induction ds with
    | nil => simp
    | cons d ds ih =>
      have h1 := thru_len go (walkL (stepsN man) s d.1 d.2)
      have h2 := walkL_len (stepsN man) s d.1 d.2
      have h3 : stepsN man ≤ 64 := by rcases stepsN_or man with q | q <;> omega
      simp only [List.flatMap_cons, List.length_append, List.length_cons]
      omega
  have := h (stepsD man)
  have h8 := stepsD_len man
  unfold alongL
  omega
theorem sorted_cell {c : Nat} {v : Value} {xs : List Int} {w w' : World} (h : OutIs c v xs w) (hg : w.grownBy w' v.ownBlock) : w'.cell? ⟨c, 0, none⟩ = some v := by
  refine cell_of_one (t := 28) ?_
  rw [hg.block c (lt_of_block h.1) (fun e => by have := (h.2.lt c e.symm).1; omega)]
  exact h.1

set_option maxHeartbeats 800000 in
set_option maxRecDepth 100000 in
theorem eye_Strikes (a : Addr) (b : List Int) (hb : BOk b) (s : Int) (w : World) : Calls Try.prog 14 #[.pointer (some a), .agg (boardC b), .int .i64 s] w (Told w.heap.size w (pStrikes b s)) := by
  have HZ := Lib.hid (board_info b hb)
  have HG := Lib.hid (heap_alloc_last w (.cells (boardC b) 24))
  have hw := Lib.hid (below_box w (.cells (boardC b) 24))
  cases q : sees b s
  · have E := Lib.hid (show pStrikes b s = [] by unfold pStrikes; rw [q]; rfl)
    go_enter Try.func14, Try.ntmps14
    go_wp2_with (first | (refine load_row rfl 24 _ rfl _ rfl 24 _ (0, 0) _ HG.out Try.underlying24 rfl HZ.out ?_) | (go_at_call 37; refine (eye_sees a _ hb _ _).mono ?_; rintro e w1 ⟨rfl, hb1⟩))
    go_ret
    exact Told.none E.out (hw.out.trans (hb1.mono (by simp)))
  · have hq : sqR s = true := by unfold sees at q; rw [Bool.and_eq_true] at q; exact q.1
    obtain ⟨k, rfl, hk⟩ := bd_sq s hq
    have hbox : ∀ w1 : World, Below (w.heap.size + 1) (w.alloc (.cells (boardC b) 24)) w1 → w1.heap[w.heap.size]? = some (.cells (boardC b) 24) := fun w1 h => by
      rw [h.block _ (by omega)]; exact HG.out
    have hcell : ∀ w1 : World, Below (w.heap.size + 1) (w.alloc (.cells (boardC b) 24)) w1 → w1.cell? ⟨w.heap.size, k, none⟩ = some (.int .i8 (bd b k)) := fun w1 h => by
      rw [cell_of_row w1 _ k _ _ _ (hbox w1 h)]; exact boardC_get b k (by have := hb.1; omega)
    have HC := Lib.hid hcell
    have HX := Lib.hid hbox
    obtain ⟨hbb1, hbb2⟩ := bd_bounds b hb k
    clear hcell hbox
    by_cases z : bd b k = 0
    · have E := Lib.hid (show pStrikes b k = [] by unfold pStrikes; rw [q, z]; rfl)
      have z1 : (bd b k == 0) = true := by simpa using z
      clear z hq
      go_enter Try.func14, Try.ntmps14
      go_wp2_with (first | (refine load_row rfl 24 _ rfl _ rfl 24 _ (0, 0) _ HG.out Try.underlying24 rfl HZ.out ?_) | (go_at_call 37; refine (eye_sees a _ hb _ _).mono ?_; rintro e w1 ⟨rfl, hb1⟩; have hc1 := HC.out w1 (by simpa using hb1)))
      go_ret
      exact Told.none E.out (hw.out.trans (hb1.mono (by simp)))
    · have E := Lib.hid (show pStrikes b k = sortI (alongL (emp b) (bd b k) k) by unfold pStrikes strikesL; rw [q]; simp [z])
      have z1 : (bd b k == 0) = false := by simpa using z
      clear z hq
      go_enter Try.func14, Try.ntmps14
      go_wp2_with (first | (refine load_row rfl 24 _ rfl _ rfl 24 _ (0, 0) _ HG.out Try.underlying24 rfl HZ.out ?_) | (go_at_call 37; refine (eye_sees a _ hb _ _).mono ?_; rintro e w1 ⟨rfl, hb1⟩; have hc1 := HC.out w1 (by simpa using hb1); have hc2 := fun o => HC.out (w1.alloc o) ((by simpa using hb1 : Below (w.heap.size + 1) (w.alloc (.cells (boardC b) 24)) w1).trans ((below_box w1 o).mono (by have := hb1.size; simp at this; omega)))))
      have hkeep : Keeps [(w.heap.size, .cells (boardC b) 24)] w1.heap.size (.slice none 0 0) (w1.alloc (.cells #[.slice none 0 0] 28)) := by
        intro p hp
        simp only [List.mem_singleton] at hp
        subst hp
        have hsz := hb1.size
        simp at hsz
        refine ⟨HX.out _ ((by simpa using hb1 : Below (w.heap.size + 1) (w.alloc (.cells (boardC b) 24)) w1).trans ((below_box w1 _).mono (by omega))), by simp only; omega, by simp [Value.ownBlock]⟩
      refine (rays_along _ _ _ _ w1.heap.size _ (emp b) (fun xs t => xs ++ [t]) (by simp) (strikes1 b hb _ _) ent39 (.slice none 0 0) [] _ (by simp) (out_new w1) hkeep).mono ?_
      rintro e w3 ⟨rfl, v', ho, hst⟩
      rw [foldl_snoc, List.nil_append] at ho
      have hlen := along_len (emp b) (bd b k) k
      have hbel : Below w.heap.size w w3 := by
        have hsz := hb1.size
        simp at hsz
        exact (hw.out.trans (hb1.mono (by simp))).trans (((below_box w1 _).mono (by omega)).trans (step_below hst (out_new w1) (by omega) (by simp; omega)))
      obtain ⟨A, cap, rfl⟩ := ho.form
      have hcc := cell_of_one ho.1
      have HO := Lib.hid ho
      have HL := Lib.hid hlen
      have HBE := Lib.hid hbel
      have hsz1 : w.heap.size + 1 ≤ w1.heap.size := by have := hb1.size; simpa using this
      clear hkeep ho hst hlen hbel hb1 hc1 hc2
      generalize alongL (emp b) (bd b k) k = ys at *
      go_wp2_with (go_at_call 40; refine (sort_own (w1.heap.size + 1) A ys.length cap ys w3 HO.out.2 rfl (by have := HL.out; omega)).mono ?_; rintro e w4 ⟨rfl, hs, hg⟩; have hc4 := sorted_cell HO.out hg)
      go_ret
      rw [E.out]
      exact ⟨A, cap, by rw [sortI_len]; rfl, by rw [sortI_len]; exact hs.mono (by omega), HBE.out.grown hg (by have := HBE.out.size; omega) (fun k hk => by have := (HO.out.2.lt k hk).1; omega)⟩
end Go.Proofs.Ytibaembmdcdbkaa
