import Derived.Test.YtibaembmdcdbkaaRc
namespace Go.Proofs.Ytibaembmdcdbkaa
open Go.RowKit Alf

/-! an eye that is not there -/
set_option maxRecDepth 100000 in
theorem nil_sees (b : List Int) (s : Int) (w : World) : Calls Try.prog 37 #[.pointer none, .agg (boardC b), .int .i64 s] w fun e w' => e = .returned (.bool false) ∧ Below w.heap.size w w' := by
  have hw := below_box w (.cells (boardC b) 24)
  go_enter Try.func37, Try.ntmps37
  go_wp2
  go_ret
  exact ⟨rfl, hw⟩

set_option maxHeartbeats 400000 in
set_option maxRecDepth 100000 in
theorem nil_Strikes (b : List Int) (hb : BOk b) (s : Int) (w : World) : Calls Try.prog 14 #[.pointer none, .agg (boardC b), .int .i64 s] w fun e w' => e = .returned (.slice none 0 0) ∧ Below w.heap.size w w' := by
  have HZ := Lib.hid (board_info b hb)
  have HG := Lib.hid (heap_alloc_last w (.cells (boardC b) 24))
  have hw := Lib.hid (below_box w (.cells (boardC b) 24))
  go_enter Try.func14, Try.ntmps14
  go_wp2_with (first | (refine load_row rfl 24 _ rfl _ rfl 24 _ (0, 0) _ HG.out Try.underlying24 rfl HZ.out ?_) | (go_at_call 37; refine (nil_sees _ _ _).mono ?_; rintro e w1 ⟨rfl, hb1⟩))
  go_ret
  exact ⟨rfl, hw.out.trans (hb1.mono (by simp))⟩

set_option maxHeartbeats 400000 in
set_option maxRecDepth 100000 in
theorem nil_By (b : List Int) (hb : BOk b) (s side : Int) (w : World) : Calls Try.prog 15 #[.pointer none, .agg (boardC b), .int .i64 s, .int .i64 side] w fun e w' => e = .returned (.slice none 0 0) ∧ Below w.heap.size w w' := by
  have HZ := Lib.hid (board_info b hb)
  have HG := Lib.hid (heap_alloc_last w (.cells (boardC b) 24))
  have hw := Lib.hid (below_box w (.cells (boardC b) 24))
  go_enter Try.func15, Try.ntmps15
  go_wp2_with (first | (refine load_row rfl 24 _ rfl _ rfl 24 _ (0, 0) _ HG.out Try.underlying24 rfl HZ.out ?_) | (go_at_call 37; refine (nil_sees _ _ _).mono ?_; rintro e w1 ⟨rfl, hb1⟩))
  go_ret
  exact ⟨rfl, hw.out.trans (hb1.mono (by simp))⟩

set_option maxHeartbeats 400000 in
set_option maxRecDepth 100000 in
theorem nil_Struck (b : List Int) (hb : BOk b) (s side : Int) (w : World) : Calls Try.prog 20 #[.pointer none, .agg (boardC b), .int .i64 s, .int .i64 side] w fun e w' => e = .returned (.bool false) ∧ Below w.heap.size w w' := by
  have HZ := Lib.hid (board_info b hb)
  have HG := Lib.hid (heap_alloc_last w (.cells (boardC b) 24))
  have hw := Lib.hid (below_box w (.cells (boardC b) 24))
  go_enter Try.func20, Try.ntmps20
  go_wp2_with (first | (refine load_row rfl 24 _ rfl _ rfl 24 _ (0, 0) _ HG.out Try.underlying24 rfl HZ.out ?_) | (go_at_call 37; refine (nil_sees _ _ _).mono ?_; rintro e w1 ⟨rfl, hb1⟩))
  go_ret
  exact ⟨rfl, hw.out.trans (hb1.mono (by simp))⟩

set_option maxHeartbeats 400000 in
set_option maxRecDepth 100000 in
theorem nil_Pinned (b : List Int) (hb : BOk b) (s : Int) (w : World) : Calls Try.prog 23 #[.pointer none, .agg (boardC b), .int .i64 s] w fun e w' => e = .returned (.slice none 0 0) ∧ Below w.heap.size w w' := by
  have HZ := Lib.hid (board_info b hb)
  have HG := Lib.hid (heap_alloc_last w (.cells (boardC b) 24))
  have hw := Lib.hid (below_box w (.cells (boardC b) 24))
  go_enter Try.func23, Try.ntmps23
  go_wp2_with (first | (refine load_row rfl 24 _ rfl _ rfl 24 _ (0, 0) _ HG.out Try.underlying24 rfl HZ.out ?_) | (go_at_call 37; refine (nil_sees _ _ _).mono ?_; rintro e w1 ⟨rfl, hb1⟩))
  go_ret
  exact ⟨rfl, hw.out.trans (hb1.mono (by simp))⟩

set_option maxHeartbeats 400000 in
set_option maxRecDepth 100000 in
theorem nil_Check (b : List Int) (hb : BOk b) (side : Int) (w : World) : Calls Try.prog 21 #[.pointer none, .agg (boardC b), .int .i64 side] w fun e w' => e = .returned (.bool false) ∧ Below w.heap.size w w' := by
  have HZ := Lib.hid (board_info b hb)
  have HG := Lib.hid (heap_alloc_last w (.cells (boardC b) 24))
  have hw := Lib.hid (below_box w (.cells (boardC b) 24))
  have hbox : ∀ w1 : World, Below (w.heap.size + 1) (w.alloc (.cells (boardC b) 24)) w1 → w1.heap[w.heap.size]? = some (.cells (boardC b) 24) := fun w1 h => by
    rw [h.block _ (by omega)]; exact HG.out
  have HX := Lib.hid hbox
  clear hbox
  cases g1 : decide (0 ≤ pKing b side)
  · go_enter Try.func21, Try.ntmps21
    go_wp2_with (first
      | (refine load_row rfl 24 _ rfl _ rfl 24 _ (0, 0) _ HG.out Try.underlying24 rfl HZ.out ?_)
      | (go_at_call 46; refine (board_King b hb side _).mono ?_; rintro e w1 ⟨rfl, hb1⟩))
    go_quiet (fail)
    go_wp2
    go_ret
    exact ⟨rfl, hw.out.trans ((hb1.mono (by simp)).trans (Drawn_below w1 nq))⟩
  · go_enter Try.func21, Try.ntmps21
    go_wp2_with (first
      | (refine load_row rfl 24 _ rfl _ rfl 24 _ (0, 0) _ HG.out Try.underlying24 rfl HZ.out ?_)
      | (go_at_call 46; refine (board_King b hb side _).mono ?_; rintro e w1 ⟨rfl, hb1⟩; have HX1 := Lib.hid (HX.out w1 (by simpa using hb1))))
    go_still_tail 8, (by kernel_rfl)
    refine still_load_row rfl 24 _ rfl _ rfl 24 _ (0, 0) _ HX1.out Try.underlying24 rfl HZ.out ?_
    repeat still_step
    still_call ((men_Other _ _).mono fun e w' h => ⟨h.1, h.2.symm⟩)
    refine wpStill_nil ?_
    change wpList _ _ _ _ _ _
    go_wp2_with (go_at_call 20; refine (nil_Struck b hb _ _ _).mono ?_; rintro e w2 ⟨rfl, hb2⟩)
    go_ret
    have hsz := hb1.size
    simp at hsz
    exact ⟨rfl, hw.out.trans ((hb1.mono (by simp)).trans (((Below.refl w.heap.size w1).drew).trans (hb2.mono (by show w.heap.size ≤ w1.heap.size; omega))))⟩

/-! the example -/
def wake4 : List Int := [4, 0, 0, 0, 0, 0, 0, 0, 0, 0, 0, 0, 0, 0, 0, 0, 0, 0, 0, 0, 0, 0, 0, 0, 0, 0, 0, 0, 0, 0, 0, 0, 0, 0, 0, 0, 0, 0, 0, 0, 0, 0, 0, 0, 0, 0, 0, 0, 0, 0, 0, 0, 0, 0, 0, 0, 0, 0, 0, 0, 0, 0, 0, 0]
theorem wake4_ok : BOk wake4 := by
  constructor
  · rfl
  · decide
theorem wake4_len : (pStrikes wake4 0).length = 14 := by
  rw [pStrikes_eq]
  decide +kernel


set_option maxHeartbeats 400000 in
set_option maxRecDepth 100000 in
theorem wake7 (w : World) : Calls Try.prog 12 #[] w fun e w' => e = .returned (.bool true) ∧ Below w.heap.size w w' := by
  have HL := Lib.hid wake4_len
  go_enter Try.func12, Try.ntmps12
  go_wp2_with (first
    | (go_at_call 13; refine (eye_New _).mono ?_; rintro e w1 ⟨a, rfl, hb1⟩)
    | (go_at_call 14; refine (eye_Strikes a wake4 wake4_ok 0 _).mono ?_; rintro e w2 ⟨A, cap, rfl, hL, hb2⟩; rw [HL.out]))
  go_ret
  have hsz := hb1.size
  exact ⟨rfl, hb1.trans (hb2.mono (by omega))⟩
end Go.Proofs.Ytibaembmdcdbkaa
