import Derived.Test.YtibaembmdcdbkaaLa
namespace Go.Proofs.Ytibaembmdcdbkaa
open Go.RowKit Alf

theorem pCheck_eq (b : List Int) (side : Int) (h0 : 0 ≤ side) (h1 : side ≤ 1) : pCheck b side = rCheck b side := by
  have hs : side = 0 ∨ side = 1 := by omega
  unfold pCheck rCheck pKing rKing
  rcases hs with rfl | rfl
  · rw [show mMake 6 0 = 6 by decide, pStruck_eq, pBy_eq]; rfl
  · rw [show mMake 6 1 = -6 by decide, pStruck_eq, pBy_eq]; rfl
theorem pCheck_off (b : List Int) (side : Int) (h : mMake 6 side = 0) : pCheck b side = false := by
  unfold pCheck pKing
  rw [if_pos h]; rfl

set_option maxHeartbeats 800000 in
set_option maxRecDepth 100000 in
theorem law_Check (b : List Int) (hb : BOk b) (w : World) : Calls Try.prog 5 #[.agg (boardC b)] w fun e w' => e = .returned (.bool true) ∧ Below w.heap.size w w' := by
  go_enter Try.func5, Try.ntmps5
  go_wp2_with (first
    | (go_at_call 12; refine (wake7 _).mono ?_; rintro e w1 ⟨rfl, hb1⟩)
    | (go_at_call 13; refine (eye_New _).mono ?_; rintro e w2 ⟨ae, rfl, hb2⟩))
  have hA : At w b w2 := (show At w b w1 by unfold At; simpa using hb1).step hb2
  have HA := Lib.hid hA
  have HB := Lib.hid hb
  have HZ := Lib.hid (board_info b hb)
  clear hb1 hb2 hA hb
  go_loopg [8] 2 (fun m kv wr => ∃ k : Nat, k + m = 2 ∧ kv = .int .i64 k ∧ At w b wr)
  case atStart => exact ⟨0, by omega, rfl, HA.out⟩
  case round =>
    obtain ⟨k, hk, rfl, hA⟩ := hrel
    have HA2 := Lib.hid hA
    have HK := Lib.hid hk
    clear hA
    by_cases g0 : gk = 0
    · have q : decide ((k : Int) < 2) = false := by simp; omega
      obtain rfl : k = 2 := by omega
      have HX := Lib.hid HA2.out.board
      have HP := Lib.hid (fun w' (h : At w b w') => h.board)
      clear hk g0
      go_wp2_with (first
        | (refine load_row rfl 24 _ rfl _ rfl 24 _ (0, 0) _ HX.out Try.underlying24 rfl HZ.out ?_)
        | (refine load_row rfl 24 _ rfl _ rfl 24 _ (0, 0) _ HY.out Try.underlying24 rfl HZ.out ?_)
        | (go_at_call 21; refine (eye_Check _ b HB.out _ _).mono ?_; first
            | (rw [pCheck_off b 2 (by decide)]; rintro e w3 ⟨rfl, hb3⟩; have HA3 := Lib.hid (HA2.out.step hb3); have HY := Lib.hid HA3.out.board)
            | (rw [pCheck_off b (-1) (by decide)]; rintro e w4 ⟨rfl, hb4⟩)))
      go_ret
      exact ⟨rfl, (HA3.out.step hb4).below⟩
    · have q : decide ((k : Int) < 2) = true := by simp; omega
      have HG := Lib.hid g0
      have hk2 : k < 2 := by omega
      have HE := Lib.hid (pCheck_eq b k (by omega) (by omega))
      clear hk g0
      go_wp2_with fail
      refine wp_region_sp (At w b) [.val (.pointer (some ae)), .val (.agg (boardC b)), .val (.int .i64 k), .val (.bool (rCheck b k)), .val (.agg (boardC b)), .val (.int .i64 k), .val (.bool (rCheck b k)), .val (.bool false)] _
        (fun u => by simp only [putAll, Nat.reduceAdd, Act.put, List.setIfInBounds_toArray, List.set_cons_zero, List.set_cons_succ]; exact rfl) (by kernel_rfl) (by kernel_rfl) (by kernel_rfl) (by kernel_rfl) (HA2.out.step ((Below.refl _ _).drew)) (fun _ _ h h' => h.step h') ?_ ?_
      · repeat' (first | exact Ops.nil | refine Ops.cons (fun u w2 K hS hd hK => ?_) ?_)
        all_goals (simp only [Deps, Sp.at, Sp.holds, Region.binds, true_implies, and_true] at hd hK)
        all_goals first
          | (refine sp_load 24 _ rfl rfl _ rfl 24 _ (0, 0) _ hS.board Try.underlying24 rfl HZ.out ?_; exact hK.out _ _ (Below.refl _ _) rfl)
          | (try simp only [hd] at hK ⊢
             go_simp
             first
               | exact hK.out _ _ (Below.refl _ _) rfl
               | (go_at_call 21; refine (eye_Check ae b HB.out k _).mono ?_; rintro e w3 ⟨rfl, hb3⟩; exact hK.out _ _ hb3 (by rw [HE.out]))
               | (go_at_call 22; refine (r7_Check b HB.out k (by omega) (by have := HK.out; have := HG.out; omega) _).mono ?_; rintro e w3 ⟨rfl, hb3⟩; exact hK.out _ _ hb3 rfl)
               | exact hK.out _ _ (Below.refl _ _) (by simp))
      · intro u w2 hS hall
        simp only [AllSp, Sp.holds, and_true, Nat.reduceAdd] at hall
        simp only [hall]
        go_wp2
        go_roundg (gk - 1)
        case measure => have := HG.out; omega
        case rel => exact ⟨k + 1, by have := HK.out; have := HG.out; omega, by go_num, hS⟩
end Go.Proofs.Ytibaembmdcdbkaa
