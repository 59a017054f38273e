import Derived.Test.YtibaembmdcdbkaaFp
namespace Go.Proofs.Ytibaembmdcdbkaa
open Go.RowKit Alf

/-! pos.Same; '==' on positions -/
def sameB (b : List Int) (t : Int) (b' : List Int) (t' : Int) : Bool := decide (b = b' ∧ t = t')
theorem guardP : Try.prog.eqGuardType Try.prog.depth 37 = false := by kernel_rfl
theorem eq_pos (b : List Int) (t c e : Int) (b' : List Int) (t' c' e' : Int) (hb : BOk b) (hb' : BOk b') (W : World) : (Op.equalIn 10000 37 (.agg (posC b t c e)) (.agg (posC b' t' c' e'))).run Try.prog W = .ok (decide (b = b' ∧ t = t' ∧ c = c' ∧ e = e')) W := run_equalIn_pos 9997 b b' hb hb' t c e t' c' e' W
set_option maxHeartbeats 800000 in
set_option maxRecDepth 100000 in
theorem pos_Same (b : List Int) (t c e : Int) (b' : List Int) (t' c' e' : Int) (hb : BOk b) (hb' : BOk b') (w : World) : Calls Try.prog 31 #[.agg (posC b t c e), .agg (posC b' t' c' e')] w fun x w' => x = .returned (.bool (sameB b t b' t')) ∧ Below w.heap.size w w' := by
  have HB := Lib.hid hb
  have HB2 := Lib.hid hb'
  have HS := Lib.hid (Two.start w (posO b t c e) (posO b' t' c' e'))
  have HI := Lib.hid (pos_info b hb t 0 0)
  have HI2 := Lib.hid (pos_info b' hb' t' 0 0)
  obtain ⟨r, hr⟩ : ∃ r, sameB b t b' t' = r := ⟨_, rfl⟩
  have hq : ∀ W, (Op.equalIn 10000 37 (.agg (posC b t 0 0)) (.agg (posC b' t' 0 0))).run Try.prog W = .ok r W := fun W => by
    rw [eq_pos b t 0 0 b' t' 0 0 hb hb' W, ← hr]; unfold sameB; simp
  have hg := guardP
  have E := Lib.hid hr
  clear hb hb' hr
  go_enter Try.func31, Try.ntmps31
  go_wp2_with (first
    | (refine store_castle _ _ rfl rfl w.heap.size 0 rfl rfl b t c e HB.out HS.out.2.1 ?_; intro w2 hw2; have HS := Lib.hid (HS.out.wrote0 hw2); clear hw2)
    | (refine store_ep _ _ rfl rfl w.heap.size 0 rfl rfl b t 0 e HB.out HS.out.2.1 ?_; intro w2 hw2; have HS := Lib.hid (HS.out.wrote0 hw2); clear hw2)
    | (refine store_castle _ _ rfl rfl (w.heap.size + 1) 0 rfl rfl b' t' c' e' HB2.out HS.out.2.2 ?_; intro w2 hw2; have HS := Lib.hid (HS.out.wrote hw2); clear hw2)
    | (refine store_ep _ _ rfl rfl (w.heap.size + 1) 0 rfl rfl b' t' 0 e' HB2.out HS.out.2.2 ?_; intro w2 hw2; have HS := Lib.hid (HS.out.wrote hw2); clear hw2)
    | (refine load_row rfl 37 _ rfl w.heap.size rfl 37 (posC b t 0 0) (0, 0) _ HS.out.2.1 Try.underlying37 rfl HI.out ?_)
    | (refine load_row rfl 37 _ rfl (w.heap.size + 1) rfl 37 (posC b' t' 0 0) (0, 0) _ HS.out.2.2 Try.underlying37 rfl HI2.out ?_))
  go_ret
  exact ⟨re_bool E.out.symm, HS.out.1⟩
end Go.Proofs.Ytibaembmdcdbkaa
