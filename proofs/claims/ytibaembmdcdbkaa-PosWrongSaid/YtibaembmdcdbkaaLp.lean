import Derived.Test.YtibaembmdcdbkaaWa
namespace Go.Proofs.Ytibaembmdcdbkaa
open Go.RowKit Alf

/-! law PosWrong -/
set_option maxHeartbeats 1600000 in
set_option maxRecDepth 100000 in
theorem law_PosWrong (b : List Int) (hb : BOk b) (t c e : Int) (w : World) : Calls Try.prog 7 #[.agg (posC b t c e)] w fun x w' => x = .returned (.bool true) ∧ Below w.heap.size w w' := by
  have HA := Lib.hid (Lies.start w (posO b t c e))
  have HB := Lib.hid hb
  have HI := Lib.hid (pos_info b hb t c e)
  obtain ⟨n, hn⟩ : ∃ n, posW b t c e = n := ⟨_, rfl⟩
  have HN := Lib.hid hn
  clear hb hn
  go_enter Try.func7, Try.ntmps7
  go_wp2_with (first
    | (go_at_call 24; refine (wake8 _).mono ?_; rintro x w1 ⟨rfl, hb1⟩; have HA := Lib.hid (HA.out.step hb1); clear hb1))
  refine wp_region_sp (fun w' => Lies w (posO b t c e) w') [.val (.agg (posC b t c e)), .val (.int .i64 n), .val (.agg (posC b t c e)), .val (.int .i64 n), .val (.bool true), .val (.bool true)] _
    (fun u => by simp only [putAll, Nat.reduceAdd, Act.put, List.setIfInBounds_toArray, List.set_cons_zero, List.set_cons_succ]; exact rfl) (by kernel_rfl) (by kernel_rfl) (by kernel_rfl) (by kernel_rfl)
    (HA.out.step ((Below.refl _ _).drew)) (fun _ _ hs hs' => hs.step hs') ?_ ?_
  · repeat' (first | exact Ops.nil | refine Ops.cons (fun u w2 K hS hd hK => ?_) ?_)
    all_goals (simp only [Deps, Sp.at, Sp.holds, Region.binds, true_implies, and_true] at hd hK)
    all_goals first
      | (refine sp_load 37 _ rfl (by first | rfl | (simp only [hd]; rfl)) _ rfl 37 _ (0, 0) _ hS.obj Try.underlying37 rfl HI.out ?_; exact hK.out _ _ (Below.refl _ _) rfl)
      | (try simp only [hd] at hK ⊢
         go_simp
         first
           | exact hK.out _ _ (Below.refl _ _) rfl
           | (go_at_call 25; refine (pos_Wrong b HB.out t c e _).mono ?_; rw [HN.out]; rintro x w3 ⟨rfl, hb3⟩; exact hK.out _ _ hb3 rfl)
           | (go_at_call 26; refine (r8_Wrong b HB.out t c e _).mono ?_; rw [HN.out]; rintro x w3 ⟨rfl, hb3⟩; exact hK.out _ _ hb3 rfl))
  · intro u w2 hS hall
    simp only [AllSp, Sp.holds, and_true] at hall
    simp only [hall]
    go_wp2
    go_ret
    exact ⟨rfl, hS.below⟩
end Go.Proofs.Ytibaembmdcdbkaa
