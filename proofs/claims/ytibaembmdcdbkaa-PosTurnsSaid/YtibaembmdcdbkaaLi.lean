import Derived.Test.YtibaembmdcdbkaaBw
import Derived.Test.YtibaembmdcdbkaaRg
import Derived.Deep.MidRow
namespace Go.Proofs.Ytibaembmdcdbkaa
open Go.RowKit Alf

/-! an object that was laid lies where it lay -/
def Lies (w0 : World) (o : Obj) (w' : World) : Prop := Below (w0.heap.size + 1) (w0.alloc o) w'
theorem Lies.obj {w0 w' : World} {o : Obj} (h : Lies w0 o w') : w'.heap[w0.heap.size]? = some o := by
  rw [h.block _ (by omega)]; exact heap_alloc_last w0 _
theorem Lies.start (w0 : World) (o : Obj) : Lies w0 o (w0.alloc o) := Below.refl _ _
theorem Lies.step {w0 w w' : World} {o : Obj} (h : Lies w0 o w) (hb : Below w.heap.size w w') : Lies w0 o w' := h.trans (hb.mono (by have := h.size; simpa using this))
theorem Lies.below {w0 w' : World} {o : Obj} (h : Lies w0 o w') : Below w0.heap.size w0 w' := (below_box w0 _).trans (h.mono (by omega))
theorem Lies.lt {w0 w' : World} {o : Obj} (h : Lies w0 o w') : w0.heap.size < w'.heap.size := by have := h.size; simp at this; omega
theorem Lies.drawn {w0 w' : World} {o : Obj} (h : Lies w0 o w') : Lies w0 o w'.drew := h.step ((Below.refl _ _).drew)

/-! board.Wrong -/
def zeroB : List Int := List.replicate 64 0
theorem zeroB_ok : BOk zeroB := ⟨by simp [zeroB], fun x hx => by simp [zeroB] at hx; omega⟩
theorem eq_zero (b : List Int) (hb : BOk b) (W : World) : (Op.equalIn 10000 24 (.agg (boardC b)) (.agg #[.int .i8 0, .int .i8 0, .int .i8 0, .int .i8 0, .int .i8 0, .int .i8 0, .int .i8 0, .int .i8 0, .int .i8 0, .int .i8 0, .int .i8 0, .int .i8 0, .int .i8 0, .int .i8 0, .int .i8 0, .int .i8 0, .int .i8 0, .int .i8 0, .int .i8 0, .int .i8 0, .int .i8 0, .int .i8 0, .int .i8 0, .int .i8 0, .int .i8 0, .int .i8 0, .int .i8 0, .int .i8 0, .int .i8 0, .int .i8 0, .int .i8 0, .int .i8 0, .int .i8 0, .int .i8 0, .int .i8 0, .int .i8 0, .int .i8 0, .int .i8 0, .int .i8 0, .int .i8 0, .int .i8 0, .int .i8 0, .int .i8 0, .int .i8 0, .int .i8 0, .int .i8 0, .int .i8 0, .int .i8 0, .int .i8 0, .int .i8 0, .int .i8 0, .int .i8 0, .int .i8 0, .int .i8 0, .int .i8 0, .int .i8 0, .int .i8 0, .int .i8 0, .int .i8 0, .int .i8 0, .int .i8 0, .int .i8 0, .int .i8 0, .int .i8 0])).run Try.prog W = .ok (decide (b = zeroB)) W := run_equalIn_board 9998 b zeroB hb zeroB_ok W
theorem guardB : Try.prog.eqGuardType Try.prog.depth 24 = false := by kernel_rfl

set_option maxHeartbeats 800000 in
set_option maxRecDepth 100000 in
theorem board_Wrong (b : List Int) (hb : BOk b) (w : World) : Calls Try.prog 54 #[.agg (boardC b)] w fun e w' => e = .returned (.int .i64 (bWrong b)) ∧ Below w.heap.size w w' := by
  have HZ := Lib.hid (board_info b hb)
  have HA := Lib.hid (Lies.start w (.cells (boardC b) 24))
  have HB := Lib.hid hb
  have hq := eq_zero b hb
  have hg := guardB
  have HE := Lib.hid (show bWrong b = if bRight b = false then 5 else if ¬ b.count 6 = 1 ∨ ¬ b.count (-6) = 1 then 6 else if rimB b = true then 7 else if 16 < many b 0 0 ∨ 16 < many b 0 1 then 8 else 0 from rfl)
  have HM0 := Lib.hid (many_king0 b)
  have HM1 := Lib.hid (many_king1 b)
  clear hb
  cases r : bRight b
  · have E := Lib.hid (show bWrong b = 5 by rw [HE.out, r]; rfl)
    go_enter Try.func54, Try.ntmps54
    go_wp2_with (first
      | (refine load_row rfl 24 _ rfl _ rfl 24 _ (0, 0) _ HA.out.obj Try.underlying24 rfl HZ.out ?_)
      | (go_at_call 75; refine (board_Right b HB.out _).mono ?_; rw [r]; rintro e w1 ⟨rfl, hb1⟩; have HA := Lib.hid (HA.out.step hb1)))
    go_ret
    exact ⟨re_int E.out.symm, HA.out.below⟩
  · by_cases z0 : b = zeroB
    · have z : decide (b = zeroB) = true := by simpa using z0
      have E := Lib.hid (show bWrong b = 6 by rw [HE.out, r, if_neg (by simp), if_pos (.inl (by rw [z0]; decide))])
      clear z0
      go_enter Try.func54, Try.ntmps54
      go_wp2_with (first
        | (refine load_row rfl 24 _ rfl _ rfl 24 _ (0, 0) _ HA.out.obj Try.underlying24 rfl HZ.out ?_)
        | (go_at_call 75; refine (board_Right b HB.out _).mono ?_; rw [r]; rintro e w1 ⟨rfl, hb1⟩; have HA := Lib.hid (HA.out.step hb1))
        | (go_at_call 84; refine (board_Many b HB.out _ _ _).mono ?_; rintro e w1 ⟨rfl, hb1⟩; have HA := Lib.hid (HA.out.step hb1))
        | (go_at_call 85; refine (board_rim b HB.out _).mono ?_; rintro e w1 ⟨rfl, hb1⟩; have HA := Lib.hid (HA.out.step hb1)))
      go_ret
      exact ⟨re_int E.out.symm, HA.out.below⟩
    · have z : decide (b = zeroB) = false := by simpa using z0
      clear z0
      by_cases c0 : b.count 6 = 1
      · have f0 : (((many b 6 0 : Nat) : Int) != 1) = false := by rw [HM0.out, c0]; rfl
        by_cases c1 : b.count (-6) = 1
        · have f1 : (((many b 6 1 : Nat) : Int) != 1) = false := by rw [HM1.out, c1]; rfl
          cases q : rimB b
          · by_cases d0 : 16 < many b 0 0
            · have g0 : decide ((16 : Int) < ((many b 0 0 : Nat) : Int)) = true := by simp; omega
              have E := Lib.hid (show bWrong b = 8 by rw [HE.out, r, if_neg (by simp), if_neg (by simp [c0, c1]), q, if_neg (by simp), if_pos (.inl d0)])
              go_enter Try.func54, Try.ntmps54
              go_wp2_with (first
                | (refine load_row rfl 24 _ rfl _ rfl 24 _ (0, 0) _ HA.out.obj Try.underlying24 rfl HZ.out ?_)
                | (go_at_call 75; refine (board_Right b HB.out _).mono ?_; rw [r]; rintro e w1 ⟨rfl, hb1⟩; have HA := Lib.hid (HA.out.step hb1))
                | (go_at_call 84; refine (board_Many b HB.out _ _ _).mono ?_; rintro e w1 ⟨rfl, hb1⟩; have HA := Lib.hid (HA.out.step hb1))
                | (go_at_call 85; refine (board_rim b HB.out _).mono ?_; rintro e w1 ⟨rfl, hb1⟩; have HA := Lib.hid (HA.out.step hb1)))
              go_ret
              exact ⟨re_int E.out.symm, HA.out.below⟩
            · have g0 : decide ((16 : Int) < ((many b 0 0 : Nat) : Int)) = false := by simp; omega
              by_cases d1 : 16 < many b 0 1
              · have g1 : decide ((16 : Int) < ((many b 0 1 : Nat) : Int)) = true := by simp; omega
                have E := Lib.hid (show bWrong b = 8 by rw [HE.out, r, if_neg (by simp), if_neg (by simp [c0, c1]), q, if_neg (by simp), if_pos (.inr d1)])
                go_enter Try.func54, Try.ntmps54
                go_wp2_with (first
                  | (refine load_row rfl 24 _ rfl _ rfl 24 _ (0, 0) _ HA.out.obj Try.underlying24 rfl HZ.out ?_)
                  | (go_at_call 75; refine (board_Right b HB.out _).mono ?_; rw [r]; rintro e w1 ⟨rfl, hb1⟩; have HA := Lib.hid (HA.out.step hb1))
                  | (go_at_call 84; refine (board_Many b HB.out _ _ _).mono ?_; rintro e w1 ⟨rfl, hb1⟩; have HA := Lib.hid (HA.out.step hb1))
                  | (go_at_call 85; refine (board_rim b HB.out _).mono ?_; rintro e w1 ⟨rfl, hb1⟩; have HA := Lib.hid (HA.out.step hb1)))
                go_ret
                exact ⟨re_int E.out.symm, HA.out.below⟩
              · have g1 : decide ((16 : Int) < ((many b 0 1 : Nat) : Int)) = false := by simp; omega
                have E := Lib.hid (show bWrong b = 0 by rw [HE.out, r, if_neg (by simp), if_neg (by simp [c0, c1]), q, if_neg (by simp), if_neg (by simp; omega)])
                go_enter Try.func54, Try.ntmps54
                go_wp2_with (first
                  | (refine load_row rfl 24 _ rfl _ rfl 24 _ (0, 0) _ HA.out.obj Try.underlying24 rfl HZ.out ?_)
                  | (go_at_call 75; refine (board_Right b HB.out _).mono ?_; rw [r]; rintro e w1 ⟨rfl, hb1⟩; have HA := Lib.hid (HA.out.step hb1))
                  | (go_at_call 84; refine (board_Many b HB.out _ _ _).mono ?_; rintro e w1 ⟨rfl, hb1⟩; have HA := Lib.hid (HA.out.step hb1))
                  | (go_at_call 85; refine (board_rim b HB.out _).mono ?_; rintro e w1 ⟨rfl, hb1⟩; have HA := Lib.hid (HA.out.step hb1)))
                go_ret
                exact ⟨re_int E.out.symm, HA.out.below⟩
          · have E := Lib.hid (show bWrong b = 7 by rw [HE.out, r, if_neg (by simp), if_neg (by simp [c0, c1]), q, if_pos rfl])
            go_enter Try.func54, Try.ntmps54
            go_wp2_with (first
              | (refine load_row rfl 24 _ rfl _ rfl 24 _ (0, 0) _ HA.out.obj Try.underlying24 rfl HZ.out ?_)
              | (go_at_call 75; refine (board_Right b HB.out _).mono ?_; rw [r]; rintro e w1 ⟨rfl, hb1⟩; have HA := Lib.hid (HA.out.step hb1))
              | (go_at_call 84; refine (board_Many b HB.out _ _ _).mono ?_; rintro e w1 ⟨rfl, hb1⟩; have HA := Lib.hid (HA.out.step hb1))
              | (go_at_call 85; refine (board_rim b HB.out _).mono ?_; rintro e w1 ⟨rfl, hb1⟩; have HA := Lib.hid (HA.out.step hb1)))
            go_ret
            exact ⟨re_int E.out.symm, HA.out.below⟩
        · have f1 : (((many b 6 1 : Nat) : Int) != 1) = true := by rw [HM1.out]; simp; omega
          have E := Lib.hid (show bWrong b = 6 by rw [HE.out, r, if_neg (by simp), if_pos (.inr c1)])
          go_enter Try.func54, Try.ntmps54
          go_wp2_with (first
            | (refine load_row rfl 24 _ rfl _ rfl 24 _ (0, 0) _ HA.out.obj Try.underlying24 rfl HZ.out ?_)
            | (go_at_call 75; refine (board_Right b HB.out _).mono ?_; rw [r]; rintro e w1 ⟨rfl, hb1⟩; have HA := Lib.hid (HA.out.step hb1))
            | (go_at_call 84; refine (board_Many b HB.out _ _ _).mono ?_; rintro e w1 ⟨rfl, hb1⟩; have HA := Lib.hid (HA.out.step hb1))
            | (go_at_call 85; refine (board_rim b HB.out _).mono ?_; rintro e w1 ⟨rfl, hb1⟩; have HA := Lib.hid (HA.out.step hb1)))
          go_ret
          exact ⟨re_int E.out.symm, HA.out.below⟩
      · have f0 : (((many b 6 0 : Nat) : Int) != 1) = true := by rw [HM0.out]; simp; omega
        have E := Lib.hid (show bWrong b = 6 by rw [HE.out, r, if_neg (by simp), if_pos (.inl c0)])
        go_enter Try.func54, Try.ntmps54
        go_wp2_with (first
          | (refine load_row rfl 24 _ rfl _ rfl 24 _ (0, 0) _ HA.out.obj Try.underlying24 rfl HZ.out ?_)
          | (go_at_call 75; refine (board_Right b HB.out _).mono ?_; rw [r]; rintro e w1 ⟨rfl, hb1⟩; have HA := Lib.hid (HA.out.step hb1))
          | (go_at_call 84; refine (board_Many b HB.out _ _ _).mono ?_; rintro e w1 ⟨rfl, hb1⟩; have HA := Lib.hid (HA.out.step hb1))
          | (go_at_call 85; refine (board_rim b HB.out _).mono ?_; rintro e w1 ⟨rfl, hb1⟩; have HA := Lib.hid (HA.out.step hb1)))
        go_ret
        exact ⟨re_int E.out.symm, HA.out.below⟩
end Go.Proofs.Ytibaembmdcdbkaa
