import Derived.Test.YtibaembmdcdbkaaHi
namespace Go.Proofs.Ytibaembmdcdbkaa
open Go.RowKit Alf

/-! the references of layer 7: lists of squares -/
def sqTo (k : Nat) : List Int := (List.range k).map Int.ofNat
theorem sqTo_succ (k : Nat) : sqTo (k + 1) = sqTo k ++ [(k : Int)] := by simp [sqTo, List.range_succ]
theorem filter_succ (p : Int → Bool) (k : Nat) : (sqTo (k + 1)).filter p = (sqTo k).filter p ++ if p k then [(k : Int)] else [] := by
  rw [sqTo_succ, List.filter_append]
  congr 1
  by_cases h : p k <;> simp [h]
theorem filter_len (p : Int → Bool) (k : Nat) : ((sqTo k).filter p).length ≤ k := by
  refine Nat.le_trans (List.length_filter_le _ _) ?_
  simp [sqTo]
theorem squares_eq : squares = sqTo 64 := rfl

set_option maxHeartbeats 800000 in
set_option maxRecDepth 100000 in
theorem r3_Where (b : List Int) (hb : BOk b) (m : Int) (w : World) : Calls Try.prog 67 #[.agg (boardC b), .int .i64 m] w (Told w.heap.size w (squares.filter fun s => bd b s == m)) := by
  have hw := Lib.hid (below_box w (.cells (boardC b) 24))
  have hbox := Lib.hid (heap_alloc_last w (.cells (boardC b) 24))
  go_enter Try.func67, Try.ntmps67
  go_wp2_with fail
  go_loopg [5, 6] 64 (fun n ov kv wr => ∃ (k : Nat) (A : Option Addr) (cap : Nat), k + n = 64 ∧ kv = .int .i64 k ∧ ov = .slice A ((sqTo k).filter fun s => bd b s == m).length cap ∧
    Own (w.heap.size + 1) (.slice A ((sqTo k).filter fun s => bd b s == m).length cap) ((sqTo k).filter fun s => bd b s == m) wr ∧ Below (w.heap.size + 1) (w.alloc (.cells (boardC b) 24)) wr)
  case atStart => exact ⟨0, none, 0, by omega, rfl, rfl, Own.none _ _, Below.refl _ _⟩
  case round =>
    obtain ⟨k, A, cap, hk, rfl, rfl, ho, hbe⟩ := hrel
    have hfs := filter_succ (fun s => bd b s == m) k
    have hfl := filter_len (fun s => bd b s == m) k
    have HK := Lib.hid hk
    have HFS := Lib.hid hfs
    have hsz : w.heap.size + 1 ≤ wr.heap.size := by have := hbe.size; simpa using this
    clear hfs
    by_cases g0 : gk = 0
    · have k64 : k = 64 := by omega
      subst k64
      clear hk g0
      go_wp2
      go_ret
      exact ⟨A, cap, rfl, ho.mono (by omega), hw.out.trans (hbe.mono (by omega))⟩
    · have G := Lib.hid g0
      have q : k < 64 := by omega
      obtain ⟨c1, c2⟩ := bd_bounds b hb k
      have hi : wr.cell? ⟨w.heap.size, k, none⟩ = some (.int .i8 (bd b k)) := by
        rw [hbe.cell (p := ⟨w.heap.size, k, none⟩) (by simp)]
        exact board_cell b hb k q w
      have HO := Lib.hid ho
      have HBE := Lib.hid hbe
      clear hk g0 ho hbe
      by_cases e : bd b k = m
      · have b1 : (bd b k == m) = true := by simpa using e
        have E := Lib.hid (show ((sqTo (k + 1)).filter fun s => bd b s == m) = ((sqTo k).filter fun s => bd b s == m) ++ [(k : Int)] by rw [HFS.out, if_pos b1])
        clear e
        generalize ((sqTo k).filter fun s => bd b s == m) = xs at *
        go_wp2_with (at_builtin; refine append1 rfl _ _ rfl (w.heap.size + 1) (.slice A xs.length cap) xs rfl wr HO.out k rfl rfl (by omega) (by omega) ?_; intro A' cap' w1 hown1 hg1 hn1)
        go_roundg (gk - 1)
        case measure => have := G.out; omega
        case rel => exact ⟨k + 1, A', cap', by have := HK.out; have := G.out; omega, by go_num, by rw [E.out]; simp, by rw [E.out]; simpa using hown1, HBE.out.grown hg1 (by omega) (fun j hj => (HO.out.lt j hj).1)⟩
      · have b1 : (bd b k == m) = false := by simpa using e
        have E := Lib.hid (show ((sqTo (k + 1)).filter fun s => bd b s == m) = ((sqTo k).filter fun s => bd b s == m) by rw [HFS.out, b1]; simp)
        clear e
        go_wp2
        go_roundg (gk - 1)
        case measure => have := G.out; omega
        case rel => exact ⟨k + 1, A, cap, by have := HK.out; have := G.out; omega, by go_num, by rw [E.out], by rw [E.out]; exact HO.out, HBE.out⟩

theorem sees_mk {b : List Int} {s : Int} (h1 : 0 ≤ s) (h2 : s ≤ 63) : sees b s = bRight b := by
  unfold sees; rw [sqR_of h1 (by omega)]; rfl
theorem sees_no {b : List Int} {s : Int} (h : s < 0 ∨ 63 < s) : sees b s = false := by
  unfold sees sqR
  rcases h with h | h
  · rw [decide_eq_false (by omega)]; rfl
  · rw [decide_eq_false (p := s < 64) (by omega), Bool.and_false]; rfl

set_option maxHeartbeats 800000 in
set_option maxRecDepth 100000 in
theorem r7_Strikes (b : List Int) (hb : BOk b) (s : Int) (w : World) : Calls Try.prog 19 #[.agg (boardC b), .int .i64 s] w (Told w.heap.size w (rStrikes b s)) := by
  have hw := Lib.hid (below_box w (.cells (boardC b) 24))
  have HZ := Lib.hid (board_info b hb)
  have HG := Lib.hid (heap_alloc_last w (.cells (boardC b) 24))
  by_cases g1 : s < 0
  · have E := Lib.hid (show rStrikes b s = [] by unfold rStrikes; rw [sees_no (.inl g1)]; rfl)
    have b1 : decide (s < 0) = true := by simpa using g1
    go_enter Try.func19, Try.ntmps19
    go_wp2
    go_ret
    exact Told.none E.out hw.out
  · have b1 : decide (s < 0) = false := by simpa using g1
    by_cases g2 : 63 < s
    · have E := Lib.hid (show rStrikes b s = [] by unfold rStrikes; rw [sees_no (.inr g2)]; rfl)
      have b2 : decide (63 < s) = true := by simpa using g2
      go_enter Try.func19, Try.ntmps19
      go_wp2
      go_ret
      exact Told.none E.out hw.out
    · have b2 : decide (63 < s) = false := by simpa using g2
      have hs := sees_mk (b := b) (s := s) (by omega) (by omega)
      obtain ⟨s, rfl⟩ := Int.eq_ofNat_of_zero_le (a := s) (by omega)
      have s64 : s < 64 := by omega
      cases q : bRight b
      · have E := Lib.hid (show rStrikes b s = [] by unfold rStrikes; rw [hs, q]; rfl)
        clear hs g1 g2
        go_enter Try.func19, Try.ntmps19
        go_wp2_with (first | (refine load_row rfl 24 _ rfl _ rfl 24 _ (0, 0) _ HG.out Try.underlying24 rfl HZ.out ?_) | (go_at_call 43; refine (r3_Right b hb _).mono ?_; rintro e w1 ⟨rfl, hb1⟩))
        go_ret
        exact Told.none E.out (hw.out.trans (hb1.mono (by simp)))
      · have E := Lib.hid (show rStrikes b s = (sqTo 64).filter (rHits b s) by unfold rStrikes; rw [hs, q]; rfl)
        clear hs g1 g2
        go_enter Try.func19, Try.ntmps19
        go_wp2_with (first | (refine load_row rfl 24 _ rfl _ rfl 24 _ (0, 0) _ HG.out Try.underlying24 rfl HZ.out ?_) | (go_at_call 43; refine (r3_Right b hb _).mono ?_; rintro e w1 ⟨rfl, hb1⟩))
        have hb1' : Below (w.heap.size + 1) (w.alloc (.cells (boardC b) 24)) w1 := by simpa using hb1
        go_loopg [5, 6] 64 (fun n ov kv wr => ∃ (k : Nat) (A : Option Addr) (cap : Nat), k + n = 64 ∧ kv = .int .i64 k ∧ ov = .slice A ((sqTo k).filter (rHits b s)).length cap ∧
          Own (w.heap.size + 1) (.slice A ((sqTo k).filter (rHits b s)).length cap) ((sqTo k).filter (rHits b s)) wr ∧ Below (w.heap.size + 1) (w.alloc (.cells (boardC b) 24)) wr)
        case atStart => exact ⟨0, none, 0, by omega, rfl, rfl, Own.none _ _, hb1'⟩
        case round =>
          obtain ⟨k, A, cap, hk, rfl, rfl, ho, hbe⟩ := hrel
          have HFS := Lib.hid (filter_succ (rHits b s) k)
          have hfl := filter_len (rHits b s) k
          have HK := Lib.hid hk
          have hsz : w.heap.size + 1 ≤ wr.heap.size := by have := hbe.size; simpa using this
          have HX := Lib.hid (show wr.heap[w.heap.size]? = some (.cells (boardC b) 24) by rw [hbe.block _ (by omega)]; exact HG.out)
          by_cases g0 : gk = 0
          · have k64 : k = 64 := by omega
            subst k64
            clear hk g0
            go_wp2
            go_ret
            rw [E.out]
            exact ⟨A, cap, rfl, ho.mono (by omega), hw.out.trans (hbe.mono (by omega))⟩
          · have G := Lib.hid g0
            have q : k < 64 := by omega
            have HO := Lib.hid ho
            have HBE := Lib.hid hbe
            clear hk g0 ho hbe hb1 hb1'
            cases e : rHits b s k
            · have E := Lib.hid (show ((sqTo (k + 1)).filter (rHits b s)) = ((sqTo k).filter (rHits b s)) by rw [HFS.out, e]; simp)
              generalize ((sqTo k).filter (rHits b s)) = xs at *
              go_wp2_with (first | (refine load_row rfl 24 _ rfl _ rfl 24 _ (0, 0) _ HX.out Try.underlying24 rfl HZ.out ?_) | (go_at_call 45; refine (r_Hits b hb s s64 k _).mono ?_; rintro e w2 ⟨rfl, hb2⟩))
              go_roundg (gk - 1)
              case measure => have := G.out; omega
              case rel => exact ⟨k + 1, A, cap, by have := HK.out; have := G.out; omega, by go_num, by rw [E.out], by rw [E.out]; exact HO.out.below hb2, HBE.out.trans (hb2.mono (by omega))⟩
            · have E := Lib.hid (show ((sqTo (k + 1)).filter (rHits b s)) = ((sqTo k).filter (rHits b s)) ++ [(k : Int)] by rw [HFS.out, e]; rfl)
              generalize ((sqTo k).filter (rHits b s)) = xs at *
              go_wp2_with (first
                | (refine load_row rfl 24 _ rfl _ rfl 24 _ (0, 0) _ HX.out Try.underlying24 rfl HZ.out ?_)
                | (go_at_call 45; refine (r_Hits b hb s s64 k _).mono ?_; rintro e w2 ⟨rfl, hb2⟩; have HO2 := Lib.hid (HO.out.below hb2))
                | (at_builtin; refine append1 rfl _ _ rfl (w.heap.size + 1) (.slice A xs.length cap) xs rfl w2 HO2.out k rfl rfl (by omega) (by have := hb2.size; omega) ?_; intro A' cap' w3 hown1 hg1 hn1))
              go_roundg (gk - 1)
              case measure => have := G.out; omega
              case rel => exact ⟨k + 1, A', cap', by have := HK.out; have := G.out; omega, by go_num, by rw [E.out]; simp, by rw [E.out]; simpa using hown1, (HBE.out.trans (hb2.mono (by omega))).grown hg1 (by have := hb2.size; omega) (fun j hj => (HO.out.lt j hj).1)⟩
end Go.Proofs.Ytibaembmdcdbkaa
