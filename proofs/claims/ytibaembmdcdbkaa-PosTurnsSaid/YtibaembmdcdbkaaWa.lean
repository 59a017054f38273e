import Derived.Test.YtibaembmdcdbkaaFp
namespace Go.Proofs.Ytibaembmdcdbkaa
open Go.RowKit Alf

/-! wakes of layer 8 -/
set_option maxHeartbeats 800000 in
set_option maxRecDepth 100000 in
theorem wake8_of (fb : List Int) (hfb : BOk fb) (hc : ∀ w, Calls Try.prog 32 #[] w fun x w' => x = .returned (.agg (posC fb 0 15 (-1))) ∧ Below w.heap.size w w') (zb : List Int) (hzb : BOk zb) (hz : ∀ w, (zeroValue 37).run Try.prog w = .ok (.agg (posC zb 0 0 0)) w)
    (h1 : posW fb 0 15 (-1) = 0) (h2 : posW fb 0 15 20 = 11) (w : World) : Calls Try.prog 24 #[] w fun x w' => x = .returned (.bool true) ∧ Below w.heap.size w w' := by
  have HC := Lib.hid hc
  have HF := Lib.hid hfb
  have H1 := Lib.hid h1
  have H2 := Lib.hid h2
  have HI1 := Lib.hid (pos_info fb hfb 0 15 (-1))
  have HI2 := Lib.hid (pos_info fb hfb 0 15 20)
  have HZ1 := Lib.hid (show (posC zb 0 0 0).size = (posC fb 0 15 (-1)).size by rw [posC_size zb hzb, posC_size fb hfb])
  clear hc hfb hzb h1 h2
  go_enter Try.func24, Try.ntmps24
  go_wp2_with (first
    | (have h0 := hsecond; refine load_row rfl 37 _ rfl _ rfl 37 (posC fb 0 15 20) (0, 0) _ HX.out Try.underlying37 rfl HI2.out ?_)
    | (have h0 := hsecond; go_at_call 25; refine (pos_Wrong fb HF.out 0 15 20 _).mono ?_; rw [H2.out]; rintro x w5 ⟨rfl, hb5⟩; have HD := Lib.hid (HD.out.trans (hb5.mono HD.out.size)); clear hb5)
    | (go_at_call 32; refine (HC.out _).mono ?_; rintro x w1 ⟨rfl, hb1⟩)
    | (refine store_all 37 _ _ rfl rfl w1.heap.size (posC fb 0 15 (-1)) rfl rfl 37 (posC zb 0 0 0) (heap_alloc_last _ _) HI1.out HZ1.out (posC_one _ _ _ _) ?_; intro w2 hw2; have HX := Lib.hid hw2.obj; have HD := Lib.hid (show Below w.heap.size w w2 from (hb1.alloc hb1.size _).trans (hw2.below hb1.size)); have HS := Lib.hid hb1.size; clear hw2 hb1)
    | (refine load_row rfl 37 _ rfl _ rfl 37 (posC fb 0 15 (-1)) (0, 0) _ HX.out Try.underlying37 rfl HI1.out ?_)
    | (go_at_call 25; refine (pos_Wrong fb HF.out 0 15 (-1) _).mono ?_; rw [H1.out]; rintro x w3 ⟨rfl, hb3⟩; have HD := Lib.hid (HD.out.trans (hb3.mono HD.out.size)); have HX := Lib.hid ((hb3.block _ (Array.getElem?_eq_some_iff.1 HX.out).1).trans HX.out); clear hb3)
    | (refine store_ep _ _ rfl rfl w1.heap.size 20 rfl rfl fb 0 15 (-1) HF.out HX.out ?_; intro w4 hw4; have HX := Lib.hid hw4.obj; have HD := Lib.hid (HD.out.trans (hw4.below HS.out)); clear hw4; have hsecond := Lib.hid trivial))
  go_ret
  exact ⟨rfl, HD.out⟩
theorem wake8 (w : World) : Calls Try.prog 24 #[] w fun x w' => x = .returned (.bool true) ∧ Below w.heap.size w w' := wake8_of firstB firstB_ok pos_First zeroB zeroB_ok zero_pos first_right first_passant w
end Go.Proofs.Ytibaembmdcdbkaa
