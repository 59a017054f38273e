import Derived.Test.YtibaembmdcdbkaaFr
namespace Go.Proofs.Ytibaembmdcdbkaa
open Go.RowKit Alf

theorem pBy_off (b : List Int) (s side : Int) (h : sees b s = false) : pBy b s side = [] := by unfold pBy; rw [h]; rfl

set_option maxHeartbeats 800000 in
set_option maxRecDepth 100000 in
theorem eye_By (a : Addr) (b : List Int) (hb : BOk b) (s side : Int) (w : World) : Calls Try.prog 15 #[.pointer (some a), .agg (boardC b), .int .i64 s, .int .i64 side] w (Told w.heap.size w (pBy b s side)) := by
  have HZ := Lib.hid (board_info b hb)
  have HG := Lib.hid (heap_alloc_last w (.cells (boardC b) 24))
  have hw := Lib.hid (below_box w (.cells (boardC b) 24))
  cases q : sees b s
  · have E := Lib.hid (pBy_off b s side q)
    go_enter Try.func15, Try.ntmps15
    go_wp2_with (first | (refine load_row rfl 24 _ rfl _ rfl 24 _ (0, 0) _ HG.out Try.underlying24 rfl HZ.out ?_) | (go_at_call 37; refine (eye_sees a _ hb _ _).mono ?_; rintro e w1 ⟨rfl, hb1⟩))
    go_ret
    exact Told.none E.out (hw.out.trans (hb1.mono (by simp)))
  · by_cases g : mOther side < 0
    · have E := Lib.hid (show pBy b s side = [] by unfold pBy; rw [q, if_neg (by simp; omega)])
      have g1 : decide (mOther side < 0) = true := by simpa using g
      go_enter Try.func15, Try.ntmps15
      go_wp2_with (first | (refine load_row rfl 24 _ rfl _ rfl 24 _ (0, 0) _ HG.out Try.underlying24 rfl HZ.out ?_) | (go_at_call 37; refine (eye_sees a _ hb _ _).mono ?_; rintro e w1 ⟨rfl, hb1⟩) | (go_at_call 41; refine (men_Other _ _).mono ?_; rintro e w' ⟨rfl, rfl⟩))
      go_ret
      exact Told.none E.out (hw.out.trans (hb1.mono (by simp)))
    · have E := Lib.hid (show pBy b s side = fromL b s side 64 by unfold pBy; rw [q, if_pos (by simp; omega)])
      have g1 : decide (mOther side < 0) = false := by simpa using g
      have hbox : ∀ w1 : World, Below (w.heap.size + 1) (w.alloc (.cells (boardC b) 24)) w1 → w1.heap[w.heap.size]? = some (.cells (boardC b) 24) := fun w1 h => by
        rw [h.block _ (by omega)]; exact HG.out
      have HX := Lib.hid hbox
      clear hbox
      go_enter Try.func15, Try.ntmps15
      go_wp2_with (first
        | (refine load_row rfl 24 _ rfl _ rfl 24 _ (0, 0) _ HG.out Try.underlying24 rfl HZ.out ?_)
        | (go_at_call 37; refine (eye_sees a _ hb _ _).mono ?_; rintro e w1 ⟨rfl, hb1⟩; have HX1 := Lib.hid (HX.out w1 (by simpa using hb1)))
        | (refine load_row rfl 24 _ rfl _ rfl 24 _ (0, 0) _ HX1.out Try.underlying24 rfl HZ.out ?_)
        | (go_at_call 41; refine (men_Other _ _).mono ?_; rintro e w' ⟨rfl, rfl⟩)
        | (go_at_call 42; refine (eye_from a b hb s side 64 (by omega) _).mono ?_; rintro e w2 ⟨A, cap, rfl, h1, h2⟩))
      go_ret
      rw [E.out]
      have hsz := hb1.size
      simp at hsz
      exact ⟨A, cap, rfl, h1.mono (by omega), hw.out.trans ((hb1.mono (by simp)).trans (h2.mono (by omega)))⟩

set_option maxHeartbeats 800000 in
set_option maxRecDepth 100000 in
theorem eye_Struck (a : Addr) (b : List Int) (hb : BOk b) (s side : Int) (w : World) : Calls Try.prog 20 #[.pointer (some a), .agg (boardC b), .int .i64 s, .int .i64 side] w fun e w' => e = .returned (.bool (pStruck b s side)) ∧ Below w.heap.size w w' := by
  have HZ := Lib.hid (board_info b hb)
  have HG := Lib.hid (heap_alloc_last w (.cells (boardC b) 24))
  have hw := Lib.hid (below_box w (.cells (boardC b) 24))
  cases q : sees b s
  · have E := Lib.hid (show pStruck b s side = false by unfold pStruck; rw [q]; rfl)
    go_enter Try.func20, Try.ntmps20
    go_wp2_with (first | (refine load_row rfl 24 _ rfl _ rfl 24 _ (0, 0) _ HG.out Try.underlying24 rfl HZ.out ?_) | (go_at_call 37; refine (eye_sees a _ hb _ _).mono ?_; rintro e w1 ⟨rfl, hb1⟩))
    go_ret
    exact ⟨re_bool E.out.symm, hw.out.trans (hb1.mono (by simp))⟩
  · by_cases g : 0 ≤ mOther side
    · have E := Lib.hid (show pStruck b s side = decide (0 < ((fromL b s side 1).length : Int)) by
        unfold pStruck fromL
        rw [q, sortI_len, List.length_take, Bool.true_and, decide_eq_true g, Bool.true_and]
        cases fromAll b s side <;> simp)
      have g1 : decide (0 ≤ mOther side) = true := by simpa using g
      have hbox : ∀ w1 : World, Below (w.heap.size + 1) (w.alloc (.cells (boardC b) 24)) w1 → w1.heap[w.heap.size]? = some (.cells (boardC b) 24) := fun w1 h => by
        rw [h.block _ (by omega)]; exact HG.out
      have HX := Lib.hid hbox
      clear hbox
      go_enter Try.func20, Try.ntmps20
      go_wp2_with (first
        | (refine load_row rfl 24 _ rfl _ rfl 24 _ (0, 0) _ HG.out Try.underlying24 rfl HZ.out ?_)
        | (go_at_call 37; refine (eye_sees a _ hb _ _).mono ?_; rintro e w1 ⟨rfl, hb1⟩; have HX1 := Lib.hid (HX.out w1 (by simpa using hb1)))
        | (refine load_row rfl 24 _ rfl _ rfl 24 _ (0, 0) _ HX1.out Try.underlying24 rfl HZ.out ?_)
        | (go_at_call 41; refine (men_Other _ _).mono ?_; rintro e w' ⟨rfl, rfl⟩)
        | (go_at_call 42; refine (eye_from a b hb s side 1 (by omega) _).mono ?_; rintro e w2 ⟨A, cap, rfl, h1, h2⟩))
      go_ret
      have hsz := hb1.size
      simp at hsz
      exact ⟨re_bool (by rw [E.out]; simp), hw.out.trans ((hb1.mono (by simp)).trans (h2.mono (by omega)))⟩
    · have E := Lib.hid (show pStruck b s side = false by unfold pStruck; rw [decide_eq_false g]; simp)
      have g1 : decide (0 ≤ mOther side) = false := by simpa using g
      go_enter Try.func20, Try.ntmps20
      go_wp2_with (first | (refine load_row rfl 24 _ rfl _ rfl 24 _ (0, 0) _ HG.out Try.underlying24 rfl HZ.out ?_) | (go_at_call 37; refine (eye_sees a _ hb _ _).mono ?_; rintro e w1 ⟨rfl, hb1⟩) | (go_at_call 41; refine (men_Other _ _).mono ?_; rintro e w' ⟨rfl, rfl⟩))
      go_ret
      exact ⟨re_bool E.out.symm, hw.out.trans (hb1.mono (by simp))⟩
end Go.Proofs.Ytibaembmdcdbkaa
