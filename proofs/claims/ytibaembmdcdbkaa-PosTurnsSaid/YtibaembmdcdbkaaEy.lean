import Derived.Test.YtibaembmdcdbkaaBd
namespace Go.Proofs.Ytibaembmdcdbkaa
open Go.RowKit Alf

/-! the eye's first look -/
set_option maxRecDepth 100000 in
theorem eye_sees (a : Addr) (b : List Int) (hb : BOk b) (s : Int) (w : World) : Calls Try.prog 37 #[.pointer (some a), .agg (boardC b), .int .i64 s] w fun e w' => e = .returned (.bool (sees b s)) ∧ Below w.heap.size w w' := by
  have HZ := Lib.hid (board_info b hb)
  have HG := Lib.hid (heap_alloc_last w (.cells (boardC b) 24))
  have hw := below_box w (.cells (boardC b) 24)
  cases q : sqR s
  · have E := Lib.hid (show sees b s = false by unfold sees; rw [q]; rfl)
    go_enter Try.func37, Try.ntmps37
    go_wp2_with (first | (go_at_call 74; refine (sq_Right _ _).mono ?_; rintro e w' ⟨rfl, rfl⟩))
    go_ret
    exact ⟨re_bool E.out.symm, hw⟩
  · have E := Lib.hid (show sees b s = bRight b by unfold sees; rw [q]; rfl)
    go_enter Try.func37, Try.ntmps37
    go_wp2_with (first | (go_at_call 74; refine (sq_Right _ _).mono ?_; rintro e w' ⟨rfl, rfl⟩) | (refine load_row rfl 24 _ rfl _ rfl 24 _ (0, 0) _ HG.out Try.underlying24 rfl HZ.out ?_) | (go_at_call 75; refine (board_Right _ hb _).mono ?_; rintro e w1 ⟨rfl, hb1⟩))
    go_ret
    exact ⟨re_bool E.out.symm, hw.trans (hb1.mono (by simp))⟩
end Go.Proofs.Ytibaembmdcdbkaa
