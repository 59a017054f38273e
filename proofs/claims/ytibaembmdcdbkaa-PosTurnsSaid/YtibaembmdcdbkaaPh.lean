import Derived.Test.YtibaembmdcdbkaaPq
namespace Go.Proofs.Ytibaembmdcdbkaa
open Go.RowKit Alf

/-! rights: homes, Backed -/
def homesC : Array Value := #[.int .i64 1, .int .i64 0, .int .i64 4, .int .i64 7, .int .i64 2, .int .i64 0, .int .i64 4, .int .i64 0, .int .i64 4, .int .i64 1, .int .i64 60, .int .i64 63, .int .i64 8, .int .i64 1, .int .i64 60, .int .i64 56]
set_option maxRecDepth 100000 in
theorem pos_homes (w : World) : Calls Try.prog 63 #[] w fun e w' => e = .returned (.agg homesC) ∧ Below w.heap.size w w' := by
  have hc : Try.prog.cellsOf 70 = 16 := by kernel_rfl
  go_enter Try.func63, Try.ntmps63
  go_wp2
  refine bodyPost_ret (results_cell_row rfl _ _ w.heap.size 70 homesC (0, 0) _ rfl (heap_alloc_last _ _) Try.underlying70 rfl (by kernel_rfl)) rfl ⟨rfl, below_box _ _⟩

structure Home where
  right : Int
  side : Int
  king : Int
  rook : Int
def homesL : List Home := [⟨1, 0, 4, 7⟩, ⟨2, 0, 4, 0⟩, ⟨4, 1, 60, 63⟩, ⟨8, 1, 60, 56⟩]
set_option maxRecDepth 100000 in
theorem home_index (k : Nat) (h : Home) (hk : homesL[k]? = some h) (W : World) : (Instr.index 70 (.agg homesC) (.int .i64 k)).run Try.prog W = .ok (.agg #[.int .i64 h.right, .int .i64 h.side, .int .i64 h.king, .int .i64 h.rook]) W := by
  match k, hk with
  | 0, hk =>
    obtain rfl : h = ⟨1, 0, 4, 7⟩ := by simpa [homesL] using hk.symm
    simp [Instr.index, asIntOf, go_sem, Try.runUnderlying70, part, Try.isAgg69, Try.sizeOf69, homesC]
  | 1, hk =>
    obtain rfl : h = ⟨2, 0, 4, 0⟩ := by simpa [homesL] using hk.symm
    simp [Instr.index, asIntOf, go_sem, Try.runUnderlying70, part, Try.isAgg69, Try.sizeOf69, homesC]
  | 2, hk =>
    obtain rfl : h = ⟨4, 1, 60, 63⟩ := by simpa [homesL] using hk.symm
    simp [Instr.index, asIntOf, go_sem, Try.runUnderlying70, part, Try.isAgg69, Try.sizeOf69, homesC]
  | 3, hk =>
    obtain rfl : h = ⟨8, 1, 60, 56⟩ := by simpa [homesL] using hk.symm
    simp [Instr.index, asIntOf, go_sem, Try.runUnderlying70, part, Try.isAgg69, Try.sizeOf69, homesC]
  | k + 4, hk => simp [homesL] at hk
def kingB (b : List Int) (h : Home) : Bool := manAt b h.king == mMake 6 h.side
def rookB (b : List Int) (h : Home) : Bool := manAt b h.rook == mMake 4 h.side
def backP (b : List Int) (h : Home) : Bool := kingB b h && rookB b h
def backedB (b : List Int) (right : Int) : Bool := match homesL.find? (fun h => h.right == right) with
  | some h => backP b h
  | none => false
theorem find_at (right : Int) (k : Nat) (h : Home) (hk : homesL[k]? = some h) (hr : h.right = right) (hno : ∀ (j : Nat) (h' : Home), j < k → homesL[j]? = some h' → ¬ h'.right = right) : homesL.find? (fun h => h.right == right) = some h := by
  rw [List.find?_eq_some_iff_getElem]
  obtain ⟨hl, e⟩ := List.getElem?_eq_some_iff.1 hk
  refine ⟨by simpa using hr, k, hl, e, fun j hj => ?_⟩
  have := hno j homesL[j] hj (List.getElem?_eq_getElem (by omega))
  simpa using this
theorem find_none (right : Int) (hno : ∀ (j : Nat) (h' : Home), homesL[j]? = some h' → ¬ h'.right = right) : homesL.find? (fun h => h.right == right) = none := by
  rw [List.find?_eq_none]
  intro h hm
  obtain ⟨j, hj, e⟩ := List.mem_iff_getElem.1 hm
  have := hno j h (by rw [List.getElem?_eq_getElem hj, e])
  simpa using this

abbrev homeO (h : Home) : Obj := .cells #[.int .i64 h.right, .int .i64 h.side, .int .i64 h.king, .int .i64 h.rook] 69
theorem kept_block {w w' : World} {g : Nat} {o : Obj} (hb : Below w.heap.size w w') (h : w.heap[g]? = some o) : w'.heap[g]? = some o := by
  rw [hb.block g (lt_of_block h)]; exact h
theorem home_cells {w : World} {g : Nat} {h : Home} (hg : w.heap[g]? = some (homeO h)) : w.cell? ⟨g, 1, none⟩ = some (.int .i64 h.side) ∧ w.cell? ⟨g, 2, none⟩ = some (.int .i64 h.king) ∧ w.cell? ⟨g, 3, none⟩ = some (.int .i64 h.rook) :=
  ⟨by rw [cell_of_row w _ _ _ _ _ hg]; rfl, by rw [cell_of_row w _ _ _ _ _ hg]; rfl, by rw [cell_of_row w _ _ _ _ _ hg]; rfl⟩

set_option maxHeartbeats 1600000 in
set_option maxRecDepth 100000 in
theorem pos_Backed (b : List Int) (hb : BOk b) (t c e right : Int) (w : World) : Calls Try.prog 29 #[.agg (posC b t c e), .int .i64 right] w fun x w' => x = .returned (.bool (backedB b right)) ∧ Below w.heap.size w w' := by
  have HA := Lib.hid (Lies.start w (posO b t c e))
  have HB := Lib.hid hb
  go_enter Try.func29, Try.ntmps29
  go_wp2_with (go_at_call 63; refine (pos_homes _).mono ?_; rintro x w1 ⟨rfl, hb1⟩; have HA := Lib.hid (HA.out.step hb1))
  clear hb1 hb
  go_loopg [8] 4 (fun m kv wr => ∃ k : Nat, k + m = 4 ∧ kv = .int .i64 k ∧ Lies w (posO b t c e) wr ∧ ∀ (j : Nat) (h' : Home), j < k → homesL[j]? = some h' → ¬ h'.right = right)
  case atStart => exact ⟨0, by omega, rfl, HA.out, fun j h' hj => by omega⟩
  case round =>
    obtain ⟨k, hk, rfl, hA, hno⟩ := hrel
    have HA := Lib.hid hA
    have HN := Lib.hid hno
    have HK := Lib.hid hk
    clear hA hno
    by_cases g0 : gk = 0
    · obtain rfl : k = 4 := by omega
      have E := Lib.hid (show backedB b right = false by
        unfold backedB
        rw [find_none right (fun j h' hj => HN.out j h' (by have := (List.getElem?_eq_some_iff.1 hj).1; simpa [homesL] using this) hj)])
      clear hk g0
      go_wp2
      go_ret
      exact ⟨re_bool E.out.symm, HA.out.below⟩
    · have q : decide ((k : Int) < 4) = true := by simp; omega
      have hk2 : k < 4 := by omega
      obtain ⟨h, hh⟩ : ∃ h, homesL[k]? = some h := ⟨_, List.getElem?_eq_getElem (by simp [homesL]; omega)⟩
      have hi := home_index k h hh
      have HH := Lib.hid hh
      have HG := Lib.hid g0
      clear hk g0 hh
      by_cases hr : h.right = right
      · have E := Lib.hid (show backedB b right = backP b h by
          unfold backedB
          rw [find_at right k h HH.out hr HN.out])
        have hr1 : (h.right == right) = true := by simpa using hr
        clear hr
        cases k1 : (manAt b h.king == mMake 6 h.side)
        · go_wp2_with fail
          refine wp_region_sp (fun w' => Lies w (posO b t c e) w' ∧ w'.heap[wr.heap.size]? = some (homeO h)) [.val (.pointer (some ⟨w.heap.size, 0, none⟩)), .val (.agg (boardC b)), .val (.pointer (some ⟨wr.heap.size, 2, none⟩)), .val (.int .i64 h.king), .val (.int .i64 (manAt b h.king)), .val (.pointer (some ⟨wr.heap.size, 1, none⟩)), .val (.int .i64 h.side), .val (.int .i64 (mMake 6 h.side)), .val (.bool false), .val (.bool false), .free, .free, .free, .free, .free, .free, .free, .free, .free, .val (.bool false), .val (.bool false)] _
            (fun u => by simp only [putAll, Nat.reduceAdd, Act.put, List.setIfInBounds_toArray, List.set_cons_zero, List.set_cons_succ]; exact rfl) (by kernel_rfl) (by kernel_rfl) (by kernel_rfl) (by kernel_rfl)
            ⟨(HA.out.step (below_box wr _)).step ((Below.refl _ _).drew), heap_alloc_last wr _⟩ (fun _ _ hs hs' => ⟨hs.1.step hs', kept_block hs' hs.2⟩) ?_ ?_
          · repeat' (first | exact Ops.nil | refine Ops.cons (fun u w2 K hS hd hK => ?_) ?_)
            all_goals (simp only [Deps, Sp.at, Sp.holds, Region.binds, true_implies, and_true] at hd hK)
            all_goals (obtain ⟨hc1, hc2, hc3⟩ := home_cells hS.2)
            all_goals first
              | (refine sp_at _ rfl (by first | rfl | (simp only [hd]; rfl)) w.heap.size _ rfl (by simp only [hd]; rfl) b t c e HB.out hS.1.obj ?_; exact hK.out _ _ (Below.refl _ _) rfl)
              | (try simp only [hd] at hK ⊢
                 go_simp
                 first
                   | exact hK.out _ _ (Below.refl _ _) rfl
                   | exact hK.out _ _ (Below.refl _ _)
                   | (go_at_call 64; refine (board_Man b HB.out _ _).mono ?_; rintro x w3 ⟨rfl, hb3⟩; exact hK.out _ _ hb3 rfl)
                   | (go_at_call 50; refine (men_Make _ _ _).mono ?_; rintro x w3 ⟨rfl, rfl⟩; exact hK.out _ _ (Below.refl _ _) rfl))
          · intro u w2 hS hall
            simp only [AllSp, Sp.holds, and_true, true_and, Nat.reduceAdd] at hall
            simp only [hall]
            go_wp2
            go_ret
            exact ⟨re_bool (by rw [E.out]; unfold backP kingB rookB; simp [*]), hS.1.below⟩
        · cases r1 : (manAt b h.rook == mMake 4 h.side)
          · go_wp2_with fail
            refine wp_region_sp (fun w' => Lies w (posO b t c e) w' ∧ w'.heap[wr.heap.size]? = some (homeO h)) [.val (.pointer (some ⟨w.heap.size, 0, none⟩)), .val (.agg (boardC b)), .val (.pointer (some ⟨wr.heap.size, 2, none⟩)), .val (.int .i64 h.king), .val (.int .i64 (manAt b h.king)), .val (.pointer (some ⟨wr.heap.size, 1, none⟩)), .val (.int .i64 h.side), .val (.int .i64 (mMake 6 h.side)), .val (.bool true), .val (.bool true), .val (.pointer (some ⟨w.heap.size, 0, none⟩)), .val (.agg (boardC b)), .val (.pointer (some ⟨wr.heap.size, 3, none⟩)), .val (.int .i64 h.rook), .val (.int .i64 (manAt b h.rook)), .val (.pointer (some ⟨wr.heap.size, 1, none⟩)), .val (.int .i64 h.side), .val (.int .i64 (mMake 4 h.side)), .val (.bool false), .val (.bool false), .val (.bool false)] _
              (fun u => by simp only [putAll, Nat.reduceAdd, Act.put, List.setIfInBounds_toArray, List.set_cons_zero, List.set_cons_succ]; exact rfl) (by kernel_rfl) (by kernel_rfl) (by kernel_rfl) (by kernel_rfl)
              ⟨(HA.out.step (below_box wr _)).step ((Below.refl _ _).drew), heap_alloc_last wr _⟩ (fun _ _ hs hs' => ⟨hs.1.step hs', kept_block hs' hs.2⟩) ?_ ?_
            · repeat' (first | exact Ops.nil | refine Ops.cons (fun u w2 K hS hd hK => ?_) ?_)
              all_goals (simp only [Deps, Sp.at, Sp.holds, Region.binds, true_implies, and_true] at hd hK)
              all_goals (obtain ⟨hc1, hc2, hc3⟩ := home_cells hS.2)
              all_goals first
                | (refine sp_at _ rfl (by first | rfl | (simp only [hd]; rfl)) w.heap.size _ rfl (by simp only [hd]; rfl) b t c e HB.out hS.1.obj ?_; exact hK.out _ _ (Below.refl _ _) rfl)
                | (try simp only [hd] at hK ⊢
                   go_simp
                   first
                     | exact hK.out _ _ (Below.refl _ _) rfl
                     | exact hK.out _ _ (Below.refl _ _)
                     | (go_at_call 64; refine (board_Man b HB.out _ _).mono ?_; rintro x w3 ⟨rfl, hb3⟩; exact hK.out _ _ hb3 rfl)
                     | (go_at_call 50; refine (men_Make _ _ _).mono ?_; rintro x w3 ⟨rfl, rfl⟩; exact hK.out _ _ (Below.refl _ _) rfl))
            · intro u w2 hS hall
              simp only [AllSp, Sp.holds, and_true, Nat.reduceAdd] at hall
              simp only [hall]
              go_wp2
              go_ret
              exact ⟨re_bool (by rw [E.out]; unfold backP kingB rookB; simp [*]), hS.1.below⟩
          · go_wp2_with fail
            refine wp_region_sp (fun w' => Lies w (posO b t c e) w' ∧ w'.heap[wr.heap.size]? = some (homeO h)) [.val (.pointer (some ⟨w.heap.size, 0, none⟩)), .val (.agg (boardC b)), .val (.pointer (some ⟨wr.heap.size, 2, none⟩)), .val (.int .i64 h.king), .val (.int .i64 (manAt b h.king)), .val (.pointer (some ⟨wr.heap.size, 1, none⟩)), .val (.int .i64 h.side), .val (.int .i64 (mMake 6 h.side)), .val (.bool true), .val (.bool true), .val (.pointer (some ⟨w.heap.size, 0, none⟩)), .val (.agg (boardC b)), .val (.pointer (some ⟨wr.heap.size, 3, none⟩)), .val (.int .i64 h.rook), .val (.int .i64 (manAt b h.rook)), .val (.pointer (some ⟨wr.heap.size, 1, none⟩)), .val (.int .i64 h.side), .val (.int .i64 (mMake 4 h.side)), .val (.bool true), .val (.bool true), .val (.bool true)] _
              (fun u => by simp only [putAll, Nat.reduceAdd, Act.put, List.setIfInBounds_toArray, List.set_cons_zero, List.set_cons_succ]; exact rfl) (by kernel_rfl) (by kernel_rfl) (by kernel_rfl) (by kernel_rfl)
              ⟨(HA.out.step (below_box wr _)).step ((Below.refl _ _).drew), heap_alloc_last wr _⟩ (fun _ _ hs hs' => ⟨hs.1.step hs', kept_block hs' hs.2⟩) ?_ ?_
            · repeat' (first | exact Ops.nil | refine Ops.cons (fun u w2 K hS hd hK => ?_) ?_)
              all_goals (simp only [Deps, Sp.at, Sp.holds, Region.binds, true_implies, and_true] at hd hK)
              all_goals (obtain ⟨hc1, hc2, hc3⟩ := home_cells hS.2)
              all_goals first
                | (refine sp_at _ rfl (by first | rfl | (simp only [hd]; rfl)) w.heap.size _ rfl (by simp only [hd]; rfl) b t c e HB.out hS.1.obj ?_; exact hK.out _ _ (Below.refl _ _) rfl)
                | (try simp only [hd] at hK ⊢
                   go_simp
                   first
                     | exact hK.out _ _ (Below.refl _ _) rfl
                     | exact hK.out _ _ (Below.refl _ _)
                     | (go_at_call 64; refine (board_Man b HB.out _ _).mono ?_; rintro x w3 ⟨rfl, hb3⟩; exact hK.out _ _ hb3 rfl)
                     | (go_at_call 50; refine (men_Make _ _ _).mono ?_; rintro x w3 ⟨rfl, rfl⟩; exact hK.out _ _ (Below.refl _ _) rfl))
            · intro u w2 hS hall
              simp only [AllSp, Sp.holds, and_true, Nat.reduceAdd] at hall
              simp only [hall]
              go_wp2
              go_ret
              exact ⟨re_bool (by rw [E.out]; unfold backP kingB rookB; simp [*]), hS.1.below⟩
      · have HR := Lib.hid hr
        have hr1 : (h.right == right) = false := by simpa using hr
        clear hr
        go_wp2
        go_roundg (gk - 1)
        case measure => have := HG.out; omega
        case rel => exact ⟨k + 1, by have := HK.out; have := HG.out; omega, by go_num, HA.out.step (below_box _ _), fun j h' hj hj2 => by
          by_cases e : j = k
          · subst e
            have := HH.out.symm.trans hj2
            injection this with this
            rw [← this]; exact HR.out
          · exact HN.out j h' (by omega) hj2⟩
end Go.Proofs.Ytibaembmdcdbkaa
