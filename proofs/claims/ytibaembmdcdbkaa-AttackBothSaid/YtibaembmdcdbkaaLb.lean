import Derived.Test.YtibaembmdcdbkaaLs
import Derived.Deep.Upon
namespace Go.Proofs.Ytibaembmdcdbkaa
open Go.RowKit Alf

/-- 'append(a, b...)' of two rows of the call's own -/
theorem append2 {ops : Array Oper} {rest : List Oper} {o : Oper} {a : Act} {w : World} {Q : Exit → Act → World → Prop} (hgd : o.guard = Option.none) (s x : Operand)
    (ho : o.op = .call { callee := .builtin .append, args := #[s, x], argTypes := #[28, 28] }) (B : Nat) (A1 : Option Addr) (c1 : Nat) (xs : List Int) (hs : a.eval s = .slice A1 xs.length c1) (h1 : Own B (.slice A1 xs.length c1) xs w)
    (B2 : Nat) (A2 : Option Addr) (c2 : Nat) (ys : List Int) (hx : a.eval x = .slice A2 ys.length c2) (h2 : Own B2 (.slice A2 ys.length c2) ys w) (hlen : xs.length + ys.length ≤ 1000000) (hB : B ≤ w.heap.size)
    (h : ∀ A cap w', Own B (.slice A (xs ++ ys).length cap) (xs ++ ys) w' → w.grownBy w' (Value.slice A1 xs.length c1).ownBlock → wpList Try.prog ops Q rest (a.put o.dst (.slice A (xs ++ ys).length cap)) w') : wpList Try.prog ops Q (o :: rest) a w := by
  obtain ⟨i0, hi, hz0, hz1, hz2⟩ := info_parts infoInt
  cases ys with
  | nil =>
    have hle : xs.length ≤ c1 := by
      rcases h1.2 with ⟨e, _⟩ | ⟨g, cap, cur, e, _, _, hc, _⟩
      · injection e with _ e1 e2; omega
      · injection e with _ _ e2; omega
    have hsrc : Src Try.prog i0.size 28 (.slice A2 ([] : List Int).length c2) 0 [] w := by
      rcases h2.2 with ⟨e, _⟩ | ⟨g, cap, cur, e, _⟩
      · rw [e]; exact Src.ofNil w Try.underlying28 0
      · rw [e]
        exact Src.ofSlice w Try.underlying28 _ 0 cap [] (by simp) (fun j u hj => by simp at hj) (fun u hu => by cases hu)
    have hr := run_append_nothing (P := Try.prog) w 28 28 o.type 3 i0 Try.underlying28 hi A1 xs.length c1 hle _ hsrc
    refine wpList_plain hgd fun K hK => ?_
    unfold Oper.wp execOp
    simp only [ho, resolve, invoke, builtin, Sem.run_bind, Sem.run_pure, Result.andThen_ok, List.map_toArray, List.map_cons, List.map_nil, hs, hx, hr]
    refine hK _ _ ?_
    have := h A1 c1 w (by rw [List.append_nil]; exact h1) (grown_below (Below.refl _ _) _)
    rw [List.append_nil] at this
    exact this
  | cons y ys =>
    obtain ⟨g, rfl, _, _, _, hc⟩ := h2.cell (by simp)
    refine appendGen hgd s x 28 ho B 3 i0 (.int .i64 0) Try.underlying28 hi hz0 (by rw [hz1]; rfl) (by omega) (.slice A1 xs.length c1) xs.length (xs.map (Value.int .i64)) hs (by rw [hz1]; exact h1)
      ⟨g, 0, Option.none⟩ (y :: ys).length c2 ((y :: ys).map (Value.int .i64)) hx (by simp) (by rw [hz1]; simp) ?_ ?_ (by unfold maxLen; omega) (by rw [hz2]; omega) hB ?_
    · intro j u hj
      rw [List.getElem?_map] at hj
      have hjl : j < (y :: ys).length := by
        apply Classical.byContradiction
        intro hn
        rw [List.getElem?_eq_none (by omega)] at hj
        cases hj
      rw [add_at, hc j hjl]
      rw [List.getElem?_eq_getElem hjl] at hj
      simp only [Option.map_some] at hj
      rw [← hj, List.getD_eq_getElem?_getD, List.getElem?_eq_getElem hjl]
      rfl
    · intro u hu
      obtain ⟨x, _, rfl⟩ := List.mem_map.1 hu
      rfl
    · intro v' w' h3 h4 _
      rw [hz1] at h3
      have h3' : Own B v' (xs ++ (y :: ys)) w' := by
        unfold Own
        rw [List.length_append, List.map_append]
        exact h3
      obtain ⟨A, cap, e⟩ := h3'.form
      subst e
      exact h A cap w' h3' h4

theorem both_contains (b : List Int) (s : Int) (k : Nat) (hk : k < 64) : (rBy b k 0 ++ rBy b k 1).contains s = (rStrikes b s).contains k := by
  have := both b s k (by rw [mem_squares]; omega)
  rw [pBy_eq, pBy_eq, pStrikes_eq] at this
  rw [Bool.eq_iff_iff]
  simpa using this

set_option maxHeartbeats 1600000 in
set_option maxRecDepth 100000 in
theorem law_Both (b : List Int) (hb : BOk b) (s : Int) (w : World) : Calls Try.prog 3 #[.agg (boardC b), .int .i64 s] w fun e w' => e = .returned (.bool true) ∧ Below w.heap.size w w' := by
  have HZ := Lib.hid (board_info b hb)
  have HB := Lib.hid hb
  have HE1 := Lib.hid (pStrikes_eq b s)
  clear hb
  go_enter Try.func3, Try.ntmps3
  go_wp2_with (first
    | (go_at_call 12; refine (wake7 _).mono ?_; rintro e w1 ⟨rfl, hb1⟩; have HA1 := Lib.hid (show At w b w1 by unfold At; simpa using hb1))
    | (go_at_call 13; refine (eye_New _).mono ?_; rintro e w2 ⟨ae, rfl, hb2⟩; have HA2 := Lib.hid (HA1.out.step hb2); have HX2 := Lib.hid HA2.out.board)
    | (refine load_row rfl 24 _ rfl _ rfl 24 _ (0, 0) _ HX2.out Try.underlying24 rfl HZ.out ?_)
    | (go_at_call 14; refine (eye_Strikes ae b HB.out s _).mono ?_; rw [HE1.out]; rintro e w3 ⟨A, cap, rfl, hL, hb3⟩; have HA3 := Lib.hid (HA2.out.step hb3); have HL := Lib.hid hL))
  clear hb1 hb2 hb3 hL
  have HN1 := Lib.hid (rStrikes_len b s)
  go_loopg [16] 64 (fun m kv wr => ∃ k : Nat, k + m = 64 ∧ kv = .int .i64 k ∧ At w b wr ∧ Own w2.heap.size (.slice A (rStrikes b s).length cap) (rStrikes b s) wr)
  case atStart => exact ⟨0, by omega, rfl, HA3.out, HL.out⟩
  case round =>
    obtain ⟨k, hk, rfl, hA, hO⟩ := hrel
    have HA := Lib.hid hA
    have HO := Lib.hid hO
    have HK := Lib.hid hk
    have HG := Lib.hid (show w.heap.size + 1 ≤ wr.heap.size by have := hA.size; simpa using this)
    clear hA hO
    by_cases g0 : gk = 0
    · have q : decide ((k : Int) < 64) = false := by simp; omega
      obtain rfl : k = 64 := by omega
      clear hk g0
      go_wp2
      go_ret
      exact ⟨rfl, HA.out.below⟩
    · have q : decide ((k : Int) < 64) = true := by simp; omega
      have hk2 : k < 64 := by omega
      have HG0 := Lib.hid g0
      have HBC := Lib.hid (both_contains b s k hk2)
      have HP0 := Lib.hid (pBy_eq b k 0)
      have HP1 := Lib.hid (pBy_eq b k 1)
      have HN2 := Lib.hid (rBy_len b k 0)
      have HN3 := Lib.hid (rBy_len b k 1)
      clear hk g0
      go_wp2_with fail
      refine wp_region_tail 8 (fun w' => (At w b w' ∧ wr.heap.size ≤ w'.heap.size) ∧ Own w2.heap.size (.slice A (rStrikes b s).length cap) (rStrikes b s) w') [.val (.pointer (some ae)), .val (.agg (boardC b)), .val (.int .i64 k), .own wr.heap.size (rBy b k 0), .val (.pointer (some ae)), .val (.agg (boardC b)), .val (.int .i64 k), .own wr.heap.size (rBy b k 1)] _
        (fun u => by simp only [List.take_succ_cons, List.take_zero, putAll, Nat.reduceAdd, Act.put, List.setIfInBounds_toArray, List.set_cons_zero, List.set_cons_succ]; exact rfl) (by kernel_rfl) (by kernel_rfl) (by kernel_rfl)
        ⟨⟨HA.out.step ((Below.refl _ _).drew), Nat.le_refl _⟩, HO.out.below ((Below.refl _ _).drew)⟩ (fun _ _ h h' => ⟨⟨h.1.1.step h', Nat.le_trans h.1.2 h'.size⟩, h.2.below h'⟩) ?_ ?_
      · simp only [List.take_succ_cons, List.take_zero]
        repeat' (first | exact Ops.nil | refine Ops.cons (fun u w4 K hS hd hK => ?_) ?_)
        all_goals (simp only [Deps, Sp.at, Sp.holds, Region.binds, true_implies, and_true] at hd hK)
        all_goals first
          | (refine sp_load 24 _ rfl rfl _ rfl 24 _ (0, 0) _ hS.1.1.board Try.underlying24 rfl HZ.out ?_; exact hK.out _ _ (Below.refl _ _) rfl)
          | (try simp only [hd] at hK ⊢
             go_simp
             first
               | exact hK.out _ _ (Below.refl _ _) rfl
               | (go_at_call 15; refine (eye_By ae b HB.out k _ _).mono ?_; first
                   | (rw [HP0.out]; rintro e w5 ⟨A1, c1, rfl, o1, hb5⟩; exact hK.out _ _ hb5 ⟨_, _, rfl, o1.mono hS.1.2⟩)
                   | (rw [HP1.out]; rintro e w5 ⟨A1, c1, rfl, o1, hb5⟩; exact hK.out _ _ hb5 ⟨_, _, rfl, o1.mono hS.1.2⟩)))
      · intro u w4 hS hall
        simp only [AllSp, Sp.holds, and_true, Nat.reduceAdd] at hall
        obtain ⟨_, _, _, ⟨A1, c1, e1, o1⟩, _, _, _, ⟨A2, c2, e2, o2⟩⟩ := hall
        simp only [e1, e2]
        simp only [List.drop_succ_cons, List.drop_zero]
        refine append2 rfl _ _ rfl wr.heap.size A1 c1 (rBy b k 0) rfl o1 wr.heap.size A2 c2 (rBy b k 1) rfl o2 (by have := HN2.out; have := HN3.out; omega) hS.1.2 ?_
        intro A3 c3 w5 hown hgr
        have hA5 : At w b w5 := hS.1.1.grown hgr (by have := HG.out; have := hS.1.2; omega) (fun j hj => Nat.le_trans HG.out (o1.lt j hj).1)
        have hO5 : Own w2.heap.size (.slice A (rStrikes b s).length cap) (rStrikes b s) w5 := hS.2.kept hgr (by
          rcases hb1 : (Value.slice A (rStrikes b s).length cap).ownBlock with _ | j
          · exact .inl rfl
          · right
            intro he
            have h1 := (HO.out.lt j hb1).2
            have h2 := (o1.lt j he.symm).1
            omega)
        have HA5 := Lib.hid hA5
        have HO5 := Lib.hid hO5
        have HW5 := Lib.hid hown
        have HN4 := Lib.hid (show (rBy b k 0 ++ rBy b k 1).length ≤ 128 by rw [List.length_append]; have := HN2.out; have := HN3.out; omega)
        obtain ⟨r, hr⟩ : ∃ r, (rStrikes b s).contains (k : Int) = r := ⟨_, rfl⟩
        have HR1 := Lib.hid (HBC.out.trans hr)
        have HR2 := Lib.hid hr
        clear hA5 hO5 hown hgr hS o1 o2 e1 e2 hr
        generalize rBy b k 0 ++ rBy b k 1 = zs at *
        generalize rStrikes b s = ls at *
        go_wp2_with (first
          | (have hsecond := hfirst; go_at_call 16; refine (r_Has _ _ _ _ ls _ _ HO5.out rfl (by have := HN1.out; omega)).mono ?_; rw [HR2.out]; rintro e w7 ⟨rfl, rfl⟩)
          | (go_at_call 16; refine (r_Has _ _ _ _ zs _ _ HW5.out rfl (by have := HN4.out; omega)).mono ?_; rw [HR1.out]; rintro e w6 ⟨rfl, rfl⟩; have hfirst := Lib.hid trivial))
        go_roundg (gk - 1)
        case measure => have := HG0.out; omega
        case rel => exact ⟨k + 1, by have := HK.out; have := HG0.out; omega, by go_num, HA5.out, HO5.out⟩
end Go.Proofs.Ytibaembmdcdbkaa
