import Derived.Test.YtibaembmdcdbkaaOf
namespace Go.Proofs.Ytibaembmdcdbkaa
open Go.RowKit Alf

/-! alfilref07.Hits -/
theorem OwnLL.elem {B n cap : Nat} {A : Option Addr} {ls : List (List Int)} {w : World} (h : OwnLL B (.slice A n cap) ls w) {i : Nat} {l : List Int} (hi : ls[i]? = some l) (hl : 0 < l.length) :
    ∃ g, A = some ⟨g, 0, Option.none⟩ ∧ ∃ gl cl, w.cell? ⟨g, i, Option.none⟩ = some (.slice (some ⟨gl, 0, Option.none⟩) l.length cl) ∧ ∀ k, k < l.length → w.cell? ⟨gl, k, Option.none⟩ = some (.int .i64 (l.getD k 0)) := by
  obtain ⟨vs, h1, h2⟩ := h
  obtain ⟨A', cl, h3, h4⟩ := h2 i l hi
  obtain ⟨gl, rfl, _, _, _, hc⟩ := h4.cell hl
  rcases h1.2 with ⟨e, e0⟩ | ⟨g, cap', cur, e, hb, hh, _⟩
  · have := (List.getElem?_eq_some_iff.1 hi).1; omega
  · injection e with e1 e2 e3
    subst e1
    refine ⟨g, rfl, gl, cl, ?_, hc⟩
    have := World.ownsRow.cells h1 (g := g) rfl i _ h3
    rwa [add_at] at this
theorem refOf_len (man s : Int) : (refOf man s).length ≤ 8 := by
  unfold refOf
  refine Nat.le_trans (List.length_filter_le _ _) ?_
  rw [List.length_map]; exact refD_len man
theorem refOf_mem (man s : Int) (l : List Int) (h : l ∈ refOf man s) : 0 < l.length ∧ l.length ≤ 64 ∧ ∀ t ∈ l, 0 ≤ t ∧ t < 64 := by
  unfold refOf at h
  obtain ⟨h1, h2⟩ := List.mem_filter.1 h
  obtain ⟨d, _, rfl⟩ := List.mem_map.1 h1
  refine ⟨by simpa using h2, ?_, fun t ht => ?_⟩
  · have hl := walkL_len 64 s d.1 d.2
    unfold refRay
    simp only
    split
    · rw [List.length_take]; omega
    · exact hl
  unfold refRay at ht
  simp only at ht
  split at ht
  · exact walkL_bd _ _ _ _ t (List.mem_of_mem_take ht)
  · exact walkL_bd _ _ _ _ t ht
theorem any_next {α : Type} {ls : List α} {i : Nat} {l : α} {p : α → Bool} (h : ls[i]? = some l) : (ls.drop i).any p = (p l || (ls.drop (i + 1)).any p) := by
  have hi : i < ls.length := (List.getElem?_eq_some_iff.1 h).1
  have e : ls.drop i = l :: ls.drop (i + 1) := by
    rw [List.drop_eq_getElem_cons hi]
    congr 1
    rw [List.getElem?_eq_getElem hi] at h
    injection h
  rw [e, List.any_cons]
theorem hit_next {b : List Int} {l : List Int} {j : Nat} {x t : Int} (h : l[j]? = some x) : hitRay b t (l.drop j) = if x == t then true else if bd b x == 0 then hitRay b t (l.drop (j + 1)) else false := by
  have hi : j < l.length := (List.getElem?_eq_some_iff.1 h).1
  have e : l.drop j = x :: l.drop (j + 1) := by
    rw [List.drop_eq_getElem_cons hi]
    congr 1
    rw [List.getElem?_eq_getElem hi] at h
    injection h
  rw [e]; rfl

set_option maxHeartbeats 1600000 in
set_option maxRecDepth 100000 in
theorem r_Hits (b : List Int) (hb : BOk b) (s : Nat) (hs : s < 64) (t : Int) (w : World) : Calls Try.prog 45 #[.agg (boardC b), .int .i64 s, .int .i64 t] w fun e w' => e = .returned (.bool (rHits b s t)) ∧ Below w.heap.size w w' := by
  have hw := Lib.hid (below_box w (.cells (boardC b) 24))
  have hc0 := board_cell b hb s hs w
  obtain ⟨c1, c2⟩ := bd_bounds b hb s
  have hsq : (s : Int) ∈ squares := (mem_squares _).2 ⟨by omega, by omega⟩
  have R := Lib.hid (r_Of (bd b s) s hsq)
  have EH := Lib.hid (show rHits b s t = (refOf (bd b s) s).any (hitRay b t) from rfl)
  have hm := Lib.hid (refOf_mem (bd b s) s)
  have LS := Lib.hid (refOf_len (bd b s) s)
  clear hsq
  go_enter Try.func45, Try.ntmps45
  go_wp2_with (go_at_call 82; refine (R.out _).mono ?_; rintro e w1 ⟨A, cap, rfl, hL, hb1⟩)
  generalize refOf (bd b s) s = ls at *
  have hbx : ∀ k : Nat, k < 64 → w1.cell? ⟨w.heap.size, k, none⟩ = some (.int .i8 (bd b k)) := fun k hk => by
    rw [hb1.cell (p := ⟨w.heap.size, k, none⟩) (by simp)]
    exact board_cell b hb k hk w
  have HBX := Lib.hid hbx
  have HLL := Lib.hid hL
  have HB1 := Lib.hid hb1
  clear hbx hL hb1 hc0 c1 c2 R
  have hls := LS.out
  go_loop [8] (fun iv => ∃ i : Nat, i ≤ ls.length ∧ iv = .int .i64 i ∧ (ls.drop i).any (hitRay b t) = rHits b s t) (fun iv => ls.length - (intOf iv).toNat)
  case atStart => exact ⟨0, Nat.zero_le _, rfl, EH.out.symm⟩
  case round =>
    obtain ⟨i, hi, rfl, hh⟩ := hrel
    have HH := Lib.hid hh
    clear hh
    by_cases q : i < ls.length
    · obtain ⟨l, hl⟩ : ∃ l, ls[i]? = some l := ⟨_, List.getElem?_eq_getElem q⟩
      obtain ⟨l0, hll, lb⟩ := hm.out l (List.mem_of_getElem? hl)
      obtain ⟨g, rfl, gl, cl, d1, d2⟩ := HLL.out.elem hl l0
      have ql : decide (i < ls.length) = true := by simpa using q
      have HL := Lib.hid hl
      have LB := Lib.hid lb
      have D2 := Lib.hid d2
      clear hl lb d2
      go_wp2_with fail
      go_loop [9] (fun kv => ∃ k : Nat, k ≤ l.length ∧ kv = .int .i64 k ∧ hitRay b t (l.drop k) = hitRay b t l) (fun kv => l.length - (intOf kv).toNat)
      case atStart => exact ⟨0, Nat.zero_le _, rfl, rfl⟩
      case round =>
        obtain ⟨k, hk, rfl, hr⟩ := hrel
        have HR := Lib.hid hr
        clear hr
        by_cases q2 : k < l.length
        · have q2' : decide (k < l.length) = true := by simpa using q2
          have d3 := D2.out k q2
          obtain ⟨x, hx⟩ : ∃ x, l[k]? = some x := ⟨_, List.getElem?_eq_getElem q2⟩
          have xb := LB.out x (List.mem_of_getElem? hx)
          have ex : l.getD k 0 = x := by rw [List.getD_eq_getElem?_getD, hx]; rfl
          rw [ex] at d3
          obtain ⟨x, rfl⟩ := Int.eq_ofNat_of_zero_le xb.1
          have d4 := HBX.out x (by omega)
          have x64 : (x : Int) < 64 := xb.2
          have HX := Lib.hid (hit_next (b := b) (t := t) hx)
          clear ex hx xb
          by_cases e1 : (x : Int) = t
          · have b1 : ((x : Int) == t) = true := by simpa using e1
            have E := Lib.hid (show rHits b s t = true by
              rw [← HH.out, any_next HL.out, ← HR.out, HX.out, b1]; rfl)
            clear e1
            go_wp2
            go_ret
            exact ⟨re_bool E.out.symm, hw.out.trans (HB1.out.mono (by simp))⟩
          · have b1 : ((x : Int) == t) = false := by simpa using e1
            clear e1
            by_cases e2 : bd b x = 0
            · have b2 : (bd b x != 0) = false := by simpa using e2
              have b3 := Lib.hid (show (bd b x == 0) = true by simpa using e2)
              clear e2
              go_wp2
              go_round
              case rel => exact ⟨k + 1, by omega, by go_num, by have h := HX.out; rw [b1, b3.out] at h; simp only [Bool.false_eq_true, if_false, if_true] at h; rw [← h]; exact HR.out⟩
              case measure => simp [intOf]; omega
            · have b2 : (bd b x != 0) = true := by simpa using e2
              have b3 := Lib.hid (show (bd b x == 0) = false by simpa using e2)
              clear e2
              go_wp2
              go_round
              case rel => exact ⟨i + 1, by omega, by go_num, by
                have h := HX.out
                rw [b1, b3.out] at h
                simp only [Bool.false_eq_true, if_false] at h
                have h2 := HH.out
                rw [any_next HL.out, ← HR.out, h, Bool.false_or] at h2
                exact h2⟩
              case measure => simp [intOf]; omega
        · have q2' : decide (k < l.length) = false := by simpa using q2
          go_wp2
          go_round
          case rel => exact ⟨i + 1, by omega, by go_num, by
            have h := HR.out
            rw [List.drop_eq_nil_of_le (by omega)] at h
            have h2 := HH.out
            rw [any_next HL.out, ← h] at h2
            simpa [hitRay] using h2⟩
          case measure => simp [intOf]; omega
    · have q' : decide (i < ls.length) = false := by simpa using q
      have E := Lib.hid (show rHits b s t = false by rw [← HH.out, List.drop_eq_nil_of_le (by omega)]; rfl)
      go_wp2
      go_ret
      exact ⟨re_bool E.out.symm, hw.out.trans (HB1.out.mono (by simp))⟩
end Go.Proofs.Ytibaembmdcdbkaa
