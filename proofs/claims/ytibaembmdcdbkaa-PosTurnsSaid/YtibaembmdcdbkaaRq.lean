import Derived.Test.YtibaembmdcdbkaaRr
namespace Go.Proofs.Ytibaembmdcdbkaa
open Go.RowKit Alf

def byP (b : List Int) (s side : Int) (f : Int) : Bool := mSide (bd b f) == side && rHits b f s

set_option maxHeartbeats 1600000 in
set_option maxRecDepth 100000 in
theorem r7_By (b : List Int) (hb : BOk b) (s side : Int) (w : World) : Calls Try.prog 17 #[.agg (boardC b), .int .i64 s, .int .i64 side] w (Told w.heap.size w (rBy b s side)) := by
  have hw := Lib.hid (below_box w (.cells (boardC b) 24))
  have HZ := Lib.hid (board_info b hb)
  have HG := Lib.hid (heap_alloc_last w (.cells (boardC b) 24))
  by_cases g1 : s < 0
  · have E := Lib.hid (show rBy b s side = [] by unfold rBy; rw [sees_no (.inl g1)]; rfl)
    have b1 : decide (s < 0) = true := by simpa using g1
    go_enter Try.func17, Try.ntmps17
    go_wp2
    go_ret
    exact Told.none E.out hw.out
  · have b1 : decide (s < 0) = false := by simpa using g1
    by_cases g2 : 63 < s
    · have E := Lib.hid (show rBy b s side = [] by unfold rBy; rw [sees_no (.inr g2)]; rfl)
      have b2 : decide (63 < s) = true := by simpa using g2
      go_enter Try.func17, Try.ntmps17
      go_wp2
      go_ret
      exact Told.none E.out hw.out
    · have b2 : decide (63 < s) = false := by simpa using g2
      have hs := sees_mk (b := b) (s := s) (by omega) (by omega)
      cases q : bRight b
      · have E := Lib.hid (show rBy b s side = [] by unfold rBy; rw [hs, q]; rfl)
        clear hs g1 g2
        go_enter Try.func17, Try.ntmps17
        go_wp2_with (first | (refine load_row rfl 24 _ rfl _ rfl 24 _ (0, 0) _ HG.out Try.underlying24 rfl HZ.out ?_) | (go_at_call 43; refine (r3_Right b hb _).mono ?_; rintro e w1 ⟨rfl, hb1⟩))
        go_ret
        exact Told.none E.out (hw.out.trans (hb1.mono (by simp)))
      · have E := Lib.hid (show rBy b s side = (sqTo 64).filter (byP b s side) by unfold rBy; rw [hs, q]; rfl)
        clear hs g1 g2
        go_enter Try.func17, Try.ntmps17
        go_wp2_with (first | (refine load_row rfl 24 _ rfl _ rfl 24 _ (0, 0) _ HG.out Try.underlying24 rfl HZ.out ?_) | (go_at_call 43; refine (r3_Right b hb _).mono ?_; rintro e w1 ⟨rfl, hb1⟩))
        have hb1' : Below (w.heap.size + 1) (w.alloc (.cells (boardC b) 24)) w1 := by simpa using hb1
        go_loopg [7, 8] 64 (fun n ov kv wr => ∃ (k : Nat) (A : Option Addr) (cap : Nat), k + n = 64 ∧ kv = .int .i64 k ∧ ov = .slice A ((sqTo k).filter (byP b s side)).length cap ∧
          Own (w.heap.size + 1) (.slice A ((sqTo k).filter (byP b s side)).length cap) ((sqTo k).filter (byP b s side)) wr ∧ Below (w.heap.size + 1) (w.alloc (.cells (boardC b) 24)) wr)
        case atStart => exact ⟨0, none, 0, by omega, rfl, rfl, Own.none _ _, hb1'⟩
        case round =>
          obtain ⟨k, A, cap, hk, rfl, rfl, ho, hbe⟩ := hrel
          have HFS := Lib.hid (filter_succ (byP b s side) k)
          have hfl := filter_len (byP b s side) k
          have HK := Lib.hid hk
          have hsz : w.heap.size + 1 ≤ wr.heap.size := by have := hbe.size; simpa using this
          have HX := Lib.hid (show wr.heap[w.heap.size]? = some (.cells (boardC b) 24) by rw [hbe.block _ (by omega)]; exact HG.out)
          by_cases g0 : gk = 0
          · have k64 : k = 64 := by omega
            subst k64
            clear hk g0
            go_wp2
            go_ret
            rw [E.out]
            exact ⟨A, cap, rfl, ho.mono (by omega), hw.out.trans (hbe.mono (by omega))⟩
          · have G := Lib.hid g0
            have q : k < 64 := by omega
            obtain ⟨c1, c2⟩ := bd_bounds b hb k
            have hi : wr.cell? ⟨w.heap.size, k, none⟩ = some (.int .i8 (bd b k)) := by
              rw [hbe.cell (p := ⟨w.heap.size, k, none⟩) (by simp)]
              exact board_cell b hb k q w
            have HO := Lib.hid ho
            have HBE := Lib.hid hbe
            clear hk g0 ho hbe hb1 hb1'
            by_cases e1 : mSide (bd b k) = side
            · have b3 : (mSide (bd b k) == side) = true := by simpa using e1
              have EP := Lib.hid (show byP b s side k = rHits b k s by unfold byP; rw [b3]; rfl)
              clear e1
              cases e : rHits b k s
              · have E := Lib.hid (show ((sqTo (k + 1)).filter (byP b s side)) = ((sqTo k).filter (byP b s side)) by rw [HFS.out, EP.out, e]; simp)
                generalize ((sqTo k).filter (byP b s side)) = xs at *
                go_wp2_with (first
                  | (refine load_row rfl 24 _ rfl _ rfl 24 _ (0, 0) _ HX.out Try.underlying24 rfl HZ.out ?_)
                  | (go_at_call 44; refine (r_Side _ _).mono ?_; rintro e w' ⟨rfl, rfl⟩)
                  | (go_at_call 45; refine (r_Hits b hb k q s _).mono ?_; rintro e w2 ⟨rfl, hb2⟩))
                go_roundg (gk - 1)
                case measure => have := G.out; omega
                case rel => exact ⟨k + 1, A, cap, by have := HK.out; have := G.out; omega, by go_num, by rw [E.out], by rw [E.out]; exact HO.out.below hb2, HBE.out.trans (hb2.mono (by omega))⟩
              · have E := Lib.hid (show ((sqTo (k + 1)).filter (byP b s side)) = ((sqTo k).filter (byP b s side)) ++ [(k : Int)] by rw [HFS.out, EP.out, e]; rfl)
                generalize ((sqTo k).filter (byP b s side)) = xs at *
                go_wp2_with (first
                  | (refine load_row rfl 24 _ rfl _ rfl 24 _ (0, 0) _ HX.out Try.underlying24 rfl HZ.out ?_)
                  | (go_at_call 44; refine (r_Side _ _).mono ?_; rintro e w' ⟨rfl, rfl⟩)
                  | (go_at_call 45; refine (r_Hits b hb k q s _).mono ?_; rintro e w2 ⟨rfl, hb2⟩; have HO2 := Lib.hid (HO.out.below hb2))
                  | (at_builtin; refine append1 rfl _ _ rfl (w.heap.size + 1) (.slice A xs.length cap) xs rfl w2 HO2.out k rfl rfl (by omega) (by have := hb2.size; omega) ?_; intro A' cap' w3 hown1 hg1 hn1))
                go_roundg (gk - 1)
                case measure => have := G.out; omega
                case rel => exact ⟨k + 1, A', cap', by have := HK.out; have := G.out; omega, by go_num, by rw [E.out]; simp, by rw [E.out]; simpa using hown1, (HBE.out.trans (hb2.mono (by omega))).grown hg1 (by have := hb2.size; omega) (fun j hj => (HO.out.lt j hj).1)⟩
            · have b3 : (mSide (bd b k) == side) = false := by simpa using e1
              have E := Lib.hid (show ((sqTo (k + 1)).filter (byP b s side)) = ((sqTo k).filter (byP b s side)) by
                have EP : byP b s side k = false := by unfold byP; rw [b3]; rfl
                rw [HFS.out, EP]; simp)
              clear e1
              generalize ((sqTo k).filter (byP b s side)) = xs at *
              go_wp2_with (go_at_call 44; refine (r_Side _ _).mono ?_; rintro e w' ⟨rfl, rfl⟩)
              go_roundg (gk - 1)
              case measure => have := G.out; omega
              case rel => exact ⟨k + 1, A, cap, by have := HK.out; have := G.out; omega, by go_num, by rw [E.out], by rw [E.out]; exact HO.out, HBE.out⟩

def rKing (b : List Int) (side : Int) : Int := if side = 0 then findI b 6 else if side = 1 then findI b (-6) else -1
def rCheck (b : List Int) (side : Int) : Bool := decide (0 ≤ rKing b side) && decide (0 < (rBy b (rKing b side) (1 - side)).length)
theorem findI_head (b : List Int) (m : Int) : findI b m = match (squares.filter fun s => bd b s == m) with
    | [] => -1
    | s :: _ => s := by
  unfold findI
  rw [← List.head?_filter]
  cases squares.filter fun s => bd b s == m <;> rfl

set_option maxHeartbeats 800000 in
set_option maxRecDepth 100000 in
theorem r7_King (b : List Int) (hb : BOk b) (side : Int) (h0 : 0 ≤ side) (h1 : side ≤ 1) (w : World) : Calls Try.prog 47 #[.agg (boardC b), .int .i64 side] w fun e w' => e = .returned (.int .i64 (rKing b side)) ∧ Below w.heap.size w w' := by
  have hw := Lib.hid (below_box w (.cells (boardC b) 24))
  have HZ := Lib.hid (board_info b hb)
  have HG := Lib.hid (heap_alloc_last w (.cells (boardC b) 24))
  have body : ∀ m : Int, (side = 0 ∧ m = 6 ∨ side = 1 ∧ m = -6) → Calls Try.prog 47 #[.agg (boardC b), .int .i64 side] w fun e w' => e = .returned (.int .i64 (rKing b side)) ∧ Below w.heap.size w w' := by
    intro m hm
    have R := Lib.hid (r3_Where b hb m)
    have EF := Lib.hid (show rKing b side = match (squares.filter fun s => bd b s == m) with
        | [] => -1
        | s :: _ => s by
      rw [← findI_head]
      unfold rKing
      rcases hm with ⟨h, rfl⟩ | ⟨h, rfl⟩
      · rw [if_pos h]
      · rw [if_neg (by omega), if_pos h])
    generalize (squares.filter fun s => bd b s == m) = xs at *
    have b1 : decide (side < 0) = false := by simp; omega
    have b2 : decide (1 < side) = false := by simp; omega
    cases xs with
    | nil =>
      have E := Lib.hid (show rKing b side = -1 from EF.out)
      rcases hm with ⟨rfl, rfl⟩ | ⟨rfl, rfl⟩
      all_goals
        go_enter Try.func47, Try.ntmps47
        go_wp2_with (first | (refine load_row rfl 24 _ rfl _ rfl 24 _ (0, 0) _ HG.out Try.underlying24 rfl HZ.out ?_) | (go_at_call 67; refine (R.out _).mono ?_; rintro e w1 ⟨A, cap, rfl, hL, hb1⟩))
        go_ret
        exact ⟨re_int E.out.symm, hw.out.trans (hb1.mono (by simp))⟩
    | cons x xs =>
      have E := Lib.hid (show rKing b side = x from EF.out)
      rcases hm with ⟨rfl, rfl⟩ | ⟨rfl, rfl⟩
      all_goals
        go_enter Try.func47, Try.ntmps47
        go_wp2_with (first | (refine load_row rfl 24 _ rfl _ rfl 24 _ (0, 0) _ HG.out Try.underlying24 rfl HZ.out ?_) | (go_at_call 67; refine (R.out _).mono ?_; rintro e w1 ⟨A, cap, rfl, hL, hb1⟩; obtain ⟨g, rfl, _, _, _, hc⟩ := hL.cell (by simp); have hc0 : w1.cell? ⟨g, 0, none⟩ = some (.int .i64 x) := hc 0 (by simp); have hll : (0 : Int) < ((x :: xs).length : Int) := by rw [List.length_cons]; omega))
        go_ret
        exact ⟨re_int E.out.symm, hw.out.trans (hb1.mono (by simp))⟩
  by_cases h : side = 0
  · exact body 6 (.inl ⟨h, rfl⟩)
  · exact body (-6) (.inr ⟨by omega, rfl⟩)
end Go.Proofs.Ytibaembmdcdbkaa
