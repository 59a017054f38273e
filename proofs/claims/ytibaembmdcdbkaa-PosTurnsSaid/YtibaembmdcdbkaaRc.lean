import Derived.Test.YtibaembmdcdbkaaRq
namespace Go.Proofs.Ytibaembmdcdbkaa
open Go.RowKit Alf

set_option maxHeartbeats 800000 in
set_option maxRecDepth 100000 in
theorem r7_Check (b : List Int) (hb : BOk b) (side : Int) (h0 : 0 ≤ side) (h1 : side ≤ 1) (w : World) : Calls Try.prog 22 #[.agg (boardC b), .int .i64 side] w fun e w' => e = .returned (.bool (rCheck b side)) ∧ Below w.heap.size w w' := by
  have hw := Lib.hid (below_box w (.cells (boardC b) 24))
  have HZ := Lib.hid (board_info b hb)
  have HG := Lib.hid (heap_alloc_last w (.cells (boardC b) 24))
  have hbox : ∀ w1 : World, Below (w.heap.size + 1) (w.alloc (.cells (boardC b) 24)) w1 → w1.heap[w.heap.size]? = some (.cells (boardC b) 24) := fun w1 h => by
    rw [h.block _ (by omega)]; exact HG.out
  have HXX := Lib.hid hbox
  clear hbox
  by_cases g : 0 ≤ rKing b side
  · have E := Lib.hid (show rCheck b side = decide (0 < ((rBy b (rKing b side) (1 - side)).length : Int)) by unfold rCheck; rw [decide_eq_true g]; simp)
    have g1 : decide (0 ≤ rKing b side) = true := by simpa using g
    go_enter Try.func22, Try.ntmps22
    go_wp2_with (first
      | (refine load_row rfl 24 _ rfl _ rfl 24 _ (0, 0) _ HG.out Try.underlying24 rfl HZ.out ?_)
      | (go_at_call 47; refine (r7_King b hb side h0 h1 _).mono ?_; rintro e w1 ⟨rfl, hb1⟩; have HX1 := Lib.hid (HXX.out w1 (by simpa using hb1)))
      | (refine load_row rfl 24 _ rfl _ rfl 24 _ (0, 0) _ HX1.out Try.underlying24 rfl HZ.out ?_)
      | (go_at_call 17; refine (r7_By b hb _ _ _).mono ?_; rintro e w2 ⟨A, cap, rfl, hL, hb2⟩))
    go_ret
    have hsz := hb1.size
    simp at hsz
    exact ⟨re_bool (by rw [E.out]; simp), hw.out.trans ((hb1.mono (by simp)).trans (hb2.mono (by omega)))⟩
  · have E := Lib.hid (show rCheck b side = false by unfold rCheck; rw [decide_eq_false g]; rfl)
    have g1 : decide (0 ≤ rKing b side) = false := by simpa using g
    go_enter Try.func22, Try.ntmps22
    go_wp2_with (first
      | (refine load_row rfl 24 _ rfl _ rfl 24 _ (0, 0) _ HG.out Try.underlying24 rfl HZ.out ?_)
      | (go_at_call 47; refine (r7_King b hb side h0 h1 _).mono ?_; rintro e w1 ⟨rfl, hb1⟩))
    go_ret
    exact ⟨re_bool E.out.symm, hw.out.trans (hb1.mono (by simp))⟩

set_option maxHeartbeats 400000 in
set_option maxRecDepth 100000 in
theorem r_Has (B : Nat) (A : Option Addr) (n cap : Nat) (xs : List Int) (t : Int) (w : World) (h : Own B (.slice A n cap) xs w) (hn : n = xs.length) (hl : n ≤ 1000000) : Calls Try.prog 16 #[.slice A n cap, .int .i64 t] w fun e w' => e = .returned (.bool (xs.contains t)) ∧ w = w' := by
  subst hn
  have HO := Lib.hid h
  obtain ⟨r, hr⟩ : ∃ r, r = xs.contains t := ⟨_, rfl⟩
  rw [← hr]
  have HR := Lib.hid hr
  clear h hr
  go_enter Try.func16, Try.ntmps16
  go_wp2_with fail
  go_loop [5] (fun kv => ∃ k : Nat, k ≤ xs.length ∧ kv = .int .i64 k ∧ (xs.drop k).contains t = xs.contains t) (fun kv => xs.length - (intOf kv).toNat)
  case atStart => exact ⟨0, Nat.zero_le _, rfl, rfl⟩
  case round =>
    obtain ⟨k, hk, rfl, hc⟩ := hrel
    have HC := Lib.hid hc
    clear hc
    by_cases q : k < xs.length
    · have q' : decide (k < xs.length) = true := by simpa using q
      obtain ⟨g, rfl, _, _, _, hcell⟩ := HO.out.cell (by omega)
      have d := hcell k q
      obtain ⟨x, hx⟩ : ∃ x, xs[k]? = some x := ⟨_, List.getElem?_eq_getElem q⟩
      have ex : xs.getD k 0 = x := by rw [List.getD_eq_getElem?_getD, hx]; rfl
      rw [ex] at d
      have HD := Lib.hid (show xs.drop k = x :: xs.drop (k + 1) by
        rw [List.drop_eq_getElem_cons q]; congr 1; rw [List.getElem?_eq_getElem q] at hx; injection hx)
      clear hcell ex hx
      by_cases e : x = t
      · have b1 : (x == t) = true := by simpa using e
        have E := Lib.hid (show r = true by rw [HR.out, ← HC.out, HD.out]; simp [e])
        clear e
        go_wp2
        go_ret
        exact ⟨re_bool E.out.symm, rfl⟩
      · have b1 : (x == t) = false := by simpa using e
        have E := Lib.hid (show (xs.drop (k + 1)).contains t = xs.contains t by rw [← HC.out, HD.out]; simp; intro h; exact absurd h.symm e)
        clear e
        go_wp2
        go_round
        case rel => exact ⟨k + 1, by omega, by go_num, E.out⟩
        case measure => simp [intOf]; omega
    · have q' : decide (k < xs.length) = false := by simpa using q
      have E := Lib.hid (show r = false by rw [HR.out, ← HC.out, List.drop_eq_nil_of_le (by omega)]; rfl)
      go_wp2
      go_ret
      exact ⟨re_bool E.out.symm, rfl⟩

set_option maxHeartbeats 800000 in
set_option maxRecDepth 100000 in
theorem r_Same (B B' : Nat) (A A' : Option Addr) (n n' cap cap' : Nat) (xs ys : List Int) (w : World) (h : Own B (.slice A n cap) xs w) (h' : Own B' (.slice A' n' cap') ys w) (hn : n = xs.length) (hn' : n' = ys.length) (hl : n ≤ 1000000) (hl' : n' ≤ 1000000) :
    Calls Try.prog 18 #[.slice A n cap, .slice A' n' cap'] w fun e w' => e = .returned (.bool (decide (xs = ys))) ∧ ∃ m, w' = w.drewN m := by
  subst hn hn'
  have HO := Lib.hid h
  have HO' := Lib.hid h'
  obtain ⟨r, hr⟩ : ∃ r, r = decide (xs = ys) := ⟨_, rfl⟩
  rw [← hr]
  have HR := Lib.hid hr
  clear h h' hr
  by_cases q0 : xs.length = ys.length
  · have HQ := Lib.hid q0
    have q1 : (xs.length != ys.length) = false := by simpa using q0
    have q2 : ((xs.length : Int) != (ys.length : Int)) = false := by simp; omega
    clear q0
    go_enter Try.func18, Try.ntmps18
    go_wp2_with fail
    go_loopg [5] xs.length (fun m kv wr => ∃ k : Nat, k + m = xs.length ∧ kv = .int .i64 k ∧ (xs.take k = ys.take k) ∧ ∃ d, wr = w.drewN d)
    case atStart => exact ⟨0, by omega, rfl, by simp, 0, rfl⟩
    case round =>
      obtain ⟨k, hk, rfl, ht, d, rfl⟩ := hrel
      have HK := Lib.hid hk
      have HT := Lib.hid ht
      clear ht
      by_cases g0 : gk = 0
      · have q' : decide (k < xs.length) = false := by simp; omega
        have E := Lib.hid (show r = true by
          have := HT.out
          have hq := HQ.out
          rw [List.take_of_length_le (by omega), List.take_of_length_le (by omega)] at this
          rw [HR.out, this]; simp)
        clear hk g0
        go_wp2
        go_ret
        exact ⟨re_bool E.out.symm, d, rfl⟩
      · have q' : decide (k < xs.length) = true := by simp; omega
        have hkx : k < xs.length := by omega
        have hky : k < ys.length := by have := HQ.out; omega
        obtain ⟨g, rfl, _, _, _, hc⟩ := HO.out.cell (by omega)
        obtain ⟨g', rfl, _, _, _, hc'⟩ := HO'.out.cell (by omega)
        have e1 : (w.drewN d).cell? ⟨g, k, none⟩ = some (.int .i64 (xs.getD k 0)) := hc k hkx
        have e2 : (w.drewN d).cell? ⟨g', k, none⟩ = some (.int .i64 (ys.getD k 0)) := hc' k hky
        obtain ⟨x, hx⟩ : ∃ x, x = xs.getD k 0 := ⟨_, rfl⟩
        obtain ⟨y, hy⟩ : ∃ y, y = ys.getD k 0 := ⟨_, rfl⟩
        rw [← hx] at e1
        rw [← hy] at e2
        have HX := Lib.hid (show xs[k]? = some x by rw [hx, List.getD_eq_getElem?_getD, List.getElem?_eq_getElem hkx]; rfl)
        have HY := Lib.hid (show ys[k]? = some y by rw [hy, List.getD_eq_getElem?_getD, List.getElem?_eq_getElem hky]; rfl)
        have G := Lib.hid g0
        clear hk g0 hc hc' hx hy
        obtain ⟨wd, hwd⟩ : ∃ wd, wd = w.drewN d := ⟨_, rfl⟩
        rw [← hwd] at e1 e2 ⊢
        have HWD := Lib.hid hwd
        clear hwd
        by_cases e : x = y
        · have b1 : (x != y) = false := by simpa using e
          have E := Lib.hid (show xs.take (k + 1) = ys.take (k + 1) by
            rw [List.take_add_one, List.take_add_one, HT.out, HX.out, HY.out, e])
          clear e
          go_wp2_with fail
          go_quiet (fail)
          go_wp2
          go_roundg (gk - 1)
          case measure => have := G.out; omega
          case rel => exact ⟨k + 1, by have := HK.out; have := G.out; omega, by go_num, E.out, d + nq, by rw [HWD.out, World.drewN_drewN]⟩
        · have b1 : (x != y) = true := by simpa using e
          have E := Lib.hid (show r = false by
            rw [HR.out, decide_eq_false]
            intro h
            have h1 := HX.out
            rw [h, HY.out] at h1
            injection h1 with h1
            exact e h1.symm)
          clear e
          go_wp2_with fail
          go_quiet (fail)
          go_wp2
          go_ret
          exact ⟨re_bool E.out.symm, d + nq, by rw [HWD.out, World.drewN_drewN]⟩
  · have E := Lib.hid (show r = false by
      rw [HR.out, decide_eq_false]
      intro h
      exact q0 (by rw [h]))
    have q1 : (xs.length != ys.length) = true := by simpa using q0
    have q2 : ((xs.length : Int) != (ys.length : Int)) = true := by simp; omega
    clear q0
    go_enter Try.func18, Try.ntmps18
    go_wp2
    go_ret
    exact ⟨re_bool E.out.symm, 0, rfl⟩

theorem eye_New (w : World) : Calls Try.prog 13 #[] w fun e w' => ∃ a, e = .returned (.pointer (some a)) ∧ Below w.heap.size w w' := by
  go_enter Try.func13, Try.ntmps13
  go_wp2
  go_ret
  exact ⟨_, rfl, below_box _ _⟩
end Go.Proofs.Ytibaembmdcdbkaa
