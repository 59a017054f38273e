import Derived.Test.YtibaembmdcdbkaaNi
import Derived.Test.YtibaembmdcdbkaaRg
namespace Go.Proofs.Ytibaembmdcdbkaa
open Go.RowKit Alf

/-! the laws of layer 7, as Go functions: 'true' -/
abbrev cellsL (b : List Int) : List Value := b.map (Value.int .i8)
theorem info_cells (b : List Int) (hb : BOk b) : (Try.prog.info? 24).map (·.size) = some (cellsL b).length := by
  rw [show (cellsL b).length = 64 by simp [cellsL, hb.1]]; kernel_rfl
theorem range_of (w : World) (b : List Int) (g : Nat) (h : w.heap[g]? = some (.cells (boardC b) 24)) : w.rangeAt g 0 (cellsL b) := fun j v hj => by
  rw [Nat.zero_add, cell_of_row _ _ j _ _ _ h]
  unfold boardC
  rw [← hj]
  simp [cellsL]

/-- the condition of a region of a law: the board lies where it was laid -/
def At (w0 : World) (b : List Int) (w' : World) : Prop := Below (w0.heap.size + 1) (w0.alloc (.cells (boardC b) 24)) w'
theorem At.board {w0 w' : World} {b : List Int} (h : At w0 b w') : w'.heap[w0.heap.size]? = some (.cells (boardC b) 24) := by
  rw [h.block _ (by omega)]; exact heap_alloc_last w0 _
theorem At.step {w0 w w' : World} {b : List Int} (h : At w0 b w) (hb : Below w.heap.size w w') : At w0 b w' := h.trans (hb.mono (by have := h.size; simpa using this))
theorem At.below {w0 w' : World} {b : List Int} (h : At w0 b w') : Below w0.heap.size w0 w' := (below_box w0 _).trans (h.mono (by omega))

set_option maxHeartbeats 1600000 in
set_option maxRecDepth 100000 in
theorem law_Nil (b : List Int) (hb : BOk b) (s : Int) (w : World) : Calls Try.prog 6 #[.agg (boardC b), .int .i64 s] w fun e w' => e = .returned (.bool true) ∧ Below w.heap.size w w' := by
  go_enter Try.func6, Try.ntmps6
  go_wp2_with (first
    | (go_at_call 12; refine (wake7 _).mono ?_; rintro e w1 ⟨rfl, hb1⟩))
  have hA : At w b w1 := by unfold At; simpa using hb1
  have HA := Lib.hid hA
  have HB := Lib.hid hb
  have HZ := Lib.hid (board_info b hb)
  clear hb1 hA hb
  refine wp_region_sp (At w b) [.val (.pointer none), .val (.agg (boardC b)), .val (.int .i64 s), .val (.slice none 0 0), .val (.int .i64 0), .val (.pointer none), .val (.agg (boardC b)), .val (.int .i64 s), .val (.slice none 0 0), .val (.int .i64 0), .val (.int .i64 0),
    .val (.pointer none), .val (.agg (boardC b)), .val (.int .i64 s), .val (.slice none 0 0), .val (.int .i64 0), .val (.int .i64 0), .val (.bool true), .val (.bool true), .val (.pointer none), .val (.agg (boardC b)), .val (.int .i64 s), .val (.bool false), .val (.bool true), .val (.bool true), .val (.bool true),
    .val (.pointer none), .val (.agg (boardC b)), .val (.bool false), .val (.bool true), .val (.bool true), .val (.bool true)] _
    (fun u => by simp only [putAll, Nat.reduceAdd, Act.put, List.setIfInBounds_toArray, List.set_cons_zero, List.set_cons_succ]; exact rfl) (by kernel_rfl) (by kernel_rfl) (by kernel_rfl) (by kernel_rfl) (HA.out.step ((Below.refl _ _).drew)) (fun _ _ h h' => h.step h') ?_ ?_
  · repeat' (first | exact Ops.nil | refine Ops.cons (fun u w2 K hS hd hK => ?_) ?_)
    all_goals (simp only [Deps, Sp.at, Sp.holds, Region.binds, true_implies, and_true] at hd hK)
    all_goals first
      | (refine sp_load 24 _ rfl (by first | rfl | (simp only [hd]; rfl)) _ rfl 24 _ (0, 0) _ hS.board Try.underlying24 rfl HZ.out ?_; exact hK.out _ _ (Below.refl _ _) rfl)
      | (try simp only [hd] at hK ⊢
         go_simp
         first
           | exact hK.out _ _ (Below.refl _ _) rfl
           | (go_at_call 14; refine (nil_Strikes b HB.out s _).mono ?_; rintro e w3 ⟨rfl, hb3⟩; exact hK.out _ _ hb3 rfl)
           | (go_at_call 15; refine (nil_By b HB.out s 0 _).mono ?_; rintro e w3 ⟨rfl, hb3⟩; exact hK.out _ _ hb3 rfl)
           | (go_at_call 23; refine (nil_Pinned b HB.out s _).mono ?_; rintro e w3 ⟨rfl, hb3⟩; exact hK.out _ _ hb3 rfl)
           | (go_at_call 20; refine (nil_Struck b HB.out s 1 _).mono ?_; rintro e w3 ⟨rfl, hb3⟩; exact hK.out _ _ hb3 rfl)
           | (go_at_call 21; refine (nil_Check b HB.out 0 _).mono ?_; rintro e w3 ⟨rfl, hb3⟩; exact hK.out _ _ hb3 rfl))
  · intro u w2 hS hall
    simp only [AllSp, Sp.holds, and_true] at hall
    simp only [hall]
    go_wp2
    go_ret
    exact ⟨rfl, hS.below⟩
end Go.Proofs.Ytibaembmdcdbkaa
