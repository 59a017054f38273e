import Derived.Test.YtibaembmdcdbkaaLc
namespace Go.Proofs.Ytibaembmdcdbkaa
open Go.RowKit Alf

theorem rStrikes_len (b : List Int) (s : Int) : (rStrikes b s).length ≤ 64 := by
  unfold rStrikes
  split
  · exact filter_len (rHits b s) 64
  · simp
theorem rBy_len (b : List Int) (s side : Int) : (rBy b s side).length ≤ 64 := by
  unfold rBy
  split
  · exact Nat.le_trans (List.length_filter_le _ _) (by simp [squares])
  · simp

set_option maxHeartbeats 1600000 in
set_option maxRecDepth 100000 in
theorem law_Strikes (b : List Int) (hb : BOk b) (s side : Int) (w : World) : Calls Try.prog 4 #[.agg (boardC b), .int .i64 s, .int .i64 side] w fun e w' => e = .returned (.bool true) ∧ Below w.heap.size w w' := by
  have HG := Lib.hid (heap_alloc_last w (.cells (boardC b) 24))
  have HZ := Lib.hid (board_info b hb)
  have HB := Lib.hid hb
  clear hb
  go_enter Try.func4, Try.ntmps4
  go_wp2_with (first
    | (go_at_call 12; refine (wake7 _).mono ?_; rintro e w1 ⟨rfl, hb1⟩; have HA1 := Lib.hid (show At w b w1 by unfold At; simpa using hb1))
    | (go_at_call 13; refine (eye_New _).mono ?_; rintro e w2 ⟨ae, rfl, hb2⟩; have HA2 := Lib.hid (HA1.out.step hb2); have HX2 := Lib.hid HA2.out.board)
    | (refine load_row rfl 24 _ rfl _ rfl 24 _ (0, 0) _ HX2.out Try.underlying24 rfl HZ.out ?_)
    | (go_at_call 17; refine (r7_By b HB.out s side _).mono ?_; rintro e w3 ⟨A, cap, rfl, hL, hb3⟩; have HA3 := Lib.hid (HA2.out.step hb3); have HL := Lib.hid hL))
  have HE1 := Lib.hid (pStrikes_eq b s)
  have HE2 := Lib.hid (pBy_eq b s side)
  have HE3 := Lib.hid (show decide (0 < (rBy b s side).length) = pStruck b s side by rw [pStruck_eq, pBy_eq])
  have HN1 := Lib.hid (rStrikes_len b s)
  have HN2 := Lib.hid (rBy_len b s side)
  have HSZ := Lib.hid (show w.heap.size + 1 ≤ w2.heap.size by have := HA2.out.size; simpa using this)
  clear hb1 hb2 hb3 hL
  generalize hxs : rStrikes b s = xs at *
  generalize rBy b s side = ys at *
  generalize hst : pStruck b s side = r at *
  refine wp_region_sp (fun w' => At w b w' ∧ Own w2.heap.size (.slice A ys.length cap) ys w') [.val (.pointer (some ae)), .val (.agg (boardC b)), .val (.int .i64 s), .own (w.heap.size + 1) xs, .val (.agg (boardC b)), .val (.int .i64 s), .own (w.heap.size + 1) xs, .val (.bool true), .val (.bool true),
    .val (.pointer (some ae)), .val (.agg (boardC b)), .val (.int .i64 s), .val (.int .i64 side), .own (w.heap.size + 1) ys, .val (.slice A ys.length cap), .val (.bool true), .val (.bool true), .val (.bool true),
    .val (.pointer (some ae)), .val (.agg (boardC b)), .val (.int .i64 s), .val (.int .i64 side), .val (.bool r), .val (.slice A ys.length cap), .val (.int .i64 ys.length), .val (.bool r), .val (.bool true), .val (.bool true), .val (.bool true)] _
    (fun u => by simp only [putAll, Nat.reduceAdd, Act.put, List.setIfInBounds_toArray, List.set_cons_zero, List.set_cons_succ]; exact rfl) (by kernel_rfl) (by kernel_rfl) (by kernel_rfl) (by kernel_rfl)
    ⟨HA3.out.step ((Below.refl _ _).drew), HL.out.below ((Below.refl _ _).drew)⟩ (fun _ _ h h' => ⟨h.1.step h', h.2.below h'⟩) ?_ ?_
  · repeat' (first | exact Ops.nil | refine Ops.cons (fun u w4 K hS hd hK => ?_) ?_)
    all_goals (simp only [Deps, Sp.at, Sp.holds, Region.binds, true_implies, and_true] at hd hK)
    all_goals first
      | (refine sp_load 24 _ rfl (by first | rfl | (simp only [hd]; rfl)) _ rfl 24 _ (0, 0) _ hS.1.board Try.underlying24 rfl HZ.out ?_; exact hK.out _ _ (Below.refl _ _) rfl)
      | (obtain ⟨⟨A1, c1, e1, o1⟩, ⟨A2, c2, e2, o2⟩, _⟩ := hd
         simp only [e1, e2] at hK ⊢
         go_simp
         go_at_call 18
         refine (r_Same _ _ _ _ _ _ _ _ _ _ _ o1 o2 rfl rfl (by have := HN1.out; omega) (by have := HN1.out; omega)).mono ?_
         rintro e w5 ⟨rfl, m, rfl⟩
         exact hK.out _ _ (Drawn_below _ _) (by simp))
      | (obtain ⟨⟨A1, c1, e1, o1⟩, e2, _, e8⟩ := hd
         simp only [e1, e2, e8] at hK ⊢
         go_simp
         go_at_call 18
         refine (r_Same _ _ _ _ _ _ _ _ _ _ _ o1 hS.2 rfl rfl (by have := HN2.out; omega) (by have := HN2.out; omega)).mono ?_
         rintro e w5 ⟨rfl, m, rfl⟩
         exact hK.out _ _ (Drawn_below _ _) (by simp))
      | (try simp only [hd] at hK ⊢
         go_simp
         first
           | exact hK.out _ _ (Below.refl _ _) rfl
           | (go_at_call 14; refine (eye_Strikes ae b HB.out s _).mono ?_; rw [HE1.out]; rintro e w5 ⟨A1, c1, rfl, o1, hb5⟩; exact hK.out _ _ hb5 ⟨_, _, rfl, o1.mono (by have := hS.1.size; simpa using this)⟩)
           | (go_at_call 19; refine (r7_Strikes b HB.out s _).mono ?_; rw [hxs]; rintro e w5 ⟨A1, c1, rfl, o1, hb5⟩; exact hK.out _ _ hb5 ⟨_, _, rfl, o1.mono (by have := hS.1.size; simpa using this)⟩)
           | (go_at_call 15; refine (eye_By ae b HB.out s side _).mono ?_; rw [HE2.out]; rintro e w5 ⟨A1, c1, rfl, o1, hb5⟩; exact hK.out _ _ hb5 ⟨_, _, rfl, o1.mono (by have := hS.1.size; simpa using this)⟩)
           | (go_at_call 20; refine (eye_Struck ae b HB.out s side _).mono ?_; rw [hst]; rintro e w5 ⟨rfl, hb5⟩; exact hK.out _ _ hb5 rfl)
           | exact hK.out _ _ (Below.refl _ _) (by simp; exact HE3.out))
  · intro u w4 hS hall
    simp only [AllSp, Sp.holds, and_true, Nat.reduceAdd] at hall
    have h28 : u 28 = .bool true := by simp only [hall]
    simp only [h28]
    go_wp2
    go_ret
    exact ⟨rfl, hS.1.below⟩
end Go.Proofs.Ytibaembmdcdbkaa
