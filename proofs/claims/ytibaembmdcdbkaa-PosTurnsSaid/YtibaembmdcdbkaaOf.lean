import Derived.Test.YtibaembmdcdbkaaRs
import Derived.Test.YtibaembmdcdbkaaKg
namespace Go.Proofs.Ytibaembmdcdbkaa
open Go.RowKit Alf

/-! alfilref06.Of: a slice of slices -/
theorem infoL : (Try.prog.info? 28).map (fun i => (i.zero, i.size, i.bytes)) = some (some (.slice none 0 0), 1, 24) := by kernel_rfl
def OwnLL (B : Nat) (v : Value) (ls : List (List Int)) (w : World) : Prop :=
  ∃ vs : List Value, w.ownsRow B 28 1 v ls.length vs ∧ ∀ (i : Nat) (l : List Int), ls[i]? = some l → ∃ A cap, vs[i]? = some (.slice A l.length cap) ∧ Own B (.slice A l.length cap) l w
theorem OwnLL.none (B : Nat) (w : World) : OwnLL B (.slice none 0 0) [] w := ⟨[], World.ownsRow_nil _ _ _ _, fun i l h => by simp at h⟩
theorem OwnLL.form {B : Nat} {v : Value} {ls : List (List Int)} {w : World} (h : OwnLL B v ls w) : ∃ A cap, v = .slice A ls.length cap := by
  obtain ⟨vs, h, _⟩ := h
  rcases h.2 with ⟨rfl, h0⟩ | ⟨g, cap, cur, rfl, _⟩
  · exact ⟨Option.none, 0, by rw [h0]⟩
  · exact ⟨_, _, rfl⟩
theorem OwnLL.below {B : Nat} {v : Value} {ls : List (List Int)} {w w' : World} (h : OwnLL B v ls w) (hb : Below w.heap.size w w') : OwnLL B v ls w' := by
  obtain ⟨vs, h1, h2⟩ := h
  refine ⟨vs, h1.kept (grown_below hb Option.none) (by cases v.ownBlock <;> simp), fun i l hl => ?_⟩
  obtain ⟨A, cap, h3, h4⟩ := h2 i l hl
  exact ⟨A, cap, h3, h4.below hb⟩
theorem OwnLL.mono {B B' : Nat} {v : Value} {ls : List (List Int)} {w : World} (h : OwnLL B v ls w) (hB : B' ≤ B) : OwnLL B' v ls w := by
  obtain ⟨vs, h1, h2⟩ := h
  refine ⟨vs, ⟨h1.1, ?_⟩, fun i l hl => ?_⟩
  · rcases h1.2 with hn | ⟨g, cap, cur, e, hb, r⟩
    · exact .inl hn
    · exact .inr ⟨g, cap, cur, e, by omega, r⟩
  · obtain ⟨A, cap, h3, h4⟩ := h2 i l hl
    exact ⟨A, cap, h3, h4.mono hB⟩
theorem OwnLL.lt {B : Nat} {v : Value} {ls : List (List Int)} {w : World} (h : OwnLL B v ls w) : ∀ k, v.ownBlock = some k → B ≤ k ∧ k < w.heap.size := by
  obtain ⟨vs, h1, _⟩ := h
  exact h1.lt
/-- rows of other types lie elsewhere -/
theorem rows_apart {w : World} {B B' : Nat} {e e' : TypeId} {s s' n n' : Nat} {v v' : Value} {xs xs' : List Value} (h : w.ownsRow B e s v n xs) (h' : w.ownsRow B' e' s' v' n' xs') (hne : e ≠ e') : v.ownBlock = Option.none ∨ v.ownBlock ≠ v'.ownBlock := by
  rcases h.2 with ⟨rfl, _⟩ | ⟨g, cap, cur, rfl, _, hh, _⟩
  · exact .inl rfl
  · right
    intro he
    rcases h'.2 with ⟨rfl, _⟩ | ⟨g', cap', cur', rfl, _, hh', _⟩
    · simp [Value.ownBlock] at he
    · simp [Value.ownBlock] at he
      subst he
      rw [hh] at hh'
      injection hh' with hh'
      injection hh' with _ h2
      exact hne h2
theorem appendLL {ops : Array Oper} {rest : List Oper} {o : Oper} {a : Act} {w : World} {Q : Exit → Act → World → Prop} (hgd : o.guard = Option.none) (s x : Operand)
    (ho : o.op = .call { callee := .builtin .append, args := #[s, x], argTypes := #[84, 84] }) (B : Nat) (v : Value) (ls : List (List Int)) (hs : a.eval s = v) (w0 : World) (hown : OwnLL B v ls w0)
    (A : Option Addr) (cap : Nat) (l : List Int) (hl : Own B (.slice A l.length cap) l w0) (n : Nat) (hn : n = l.length)
    (hw : w = w0.alloc (.cells #[.slice A n cap] 28)) (hx : a.eval x = .slice (some ⟨w0.heap.size, 0, Option.none⟩) 1 1) (hlen : ls.length ≤ 1000000) (hB : B ≤ w0.heap.size)
    (h : ∀ A' cap' w', OwnLL B (.slice A' (ls.length + 1) cap') (ls ++ [l]) w' → w0.grownBy w' v.ownBlock → wpList Try.prog ops Q rest (a.put o.dst (.slice A' (ls.length + 1) cap')) w') : wpList Try.prog ops Q (o :: rest) a w := by
  obtain ⟨i0, hi, hz0, hz1, hz2⟩ := info_parts infoL
  subst hw hn
  obtain ⟨vs, hv1, hv2⟩ := hown
  refine appendGen hgd s x 84 ho B 28 i0 (.slice Option.none 0 0) Try.underlying84 hi hz0 (by rw [hz1]; rfl) (by omega) v ls.length vs hs (by rw [hz1]; exact hv1.alloc _)
    ⟨w0.heap.size, 0, Option.none⟩ 1 1 [.slice A l.length cap] hx (by omega) (by rw [hz1]; rfl) ?_ ?_ (by unfold maxLen; omega) (by rw [hz2]; omega) (by simp; omega) ?_
  · intro j u hj
    cases j with
    | zero => simp at hj; subst hj; rw [add_at, cell_of_row _ _ 0 _ _ _ (heap_alloc_last w0 _)]; rfl
    | succ j => simp at hj
  · intro u hu; simp at hu; subst hu; rfl
  · intro v' w' h2 h3 _
    rw [hz1] at h2
    have hg : w0.grownBy w' v.ownBlock := ⟨h3.os, h3.tape, h3.output, Nat.le_trans (by simp) h3.size, fun k hk hne => (h3.block k (by simp; omega) hne).trans (Below.heap_alloc w0 _ k hk)⟩
    have hvl : vs.length = ls.length := by have := hv1.1; omega
    have h2' : OwnLL B v' (ls ++ [l]) w' := by
      refine ⟨vs ++ [.slice A l.length cap], by rw [List.length_append]; exact h2, fun i m hm => ?_⟩
      rw [List.getElem?_append] at hm
      split at hm
      · rename_i hi'
        obtain ⟨A1, cap1, h5, h6⟩ := hv2 i m hm
        exact ⟨A1, cap1, by rw [List.getElem?_append_left (by omega)]; exact h5, h6.kept hg (rows_apart h6 hv1 (by decide))⟩
      · rename_i hi'
        have hi0 : i = ls.length := by
          apply Classical.byContradiction
          intro hne
          rw [List.getElem?_eq_none (by simp; omega)] at hm
          cases hm
        subst hi0
        simp at hm
        subst hm
        exact ⟨A, cap, by rw [← hvl]; simp, hl.kept hg (rows_apart hl hv1 (by decide))⟩
    obtain ⟨A', cap', e⟩ := h2'.form
    rw [List.length_append, List.length_singleton] at e
    subst e
    exact h A' cap' w' h2' hg
theorem Own.cap {B g n cap : Nat} {xs : List Int} {w : World} (h : Own B (.slice (some ⟨g, 0, Option.none⟩) n cap) xs w) : xs.length ≤ cap ∧ cap ≤ maxLen := by
  rcases h.2 with ⟨e, _⟩ | ⟨g', cap', cur, e, hb, hh, hnc, hcm, _⟩
  · cases e
  · injection e with e1 e2 e3
    subst e3
    exact ⟨hnc, hcm⟩
theorem Own.take1 {B g n cap : Nat} {xs : List Int} {w : World} (h : Own B (.slice (some ⟨g, 0, Option.none⟩) n cap) xs w) (h1 : 1 ≤ xs.length) : Own B (.slice (some ⟨g, 0, Option.none⟩) (xs.take 1).length cap) (xs.take 1) w := by
  rcases h.2 with ⟨e, _⟩ | ⟨g', cap', cur, e, hb, hh, hnc, hcm, hcs, htk⟩
  · cases e
  · injection e with e1 e2 e3
    injection e1 with e1
    injection e1 with e1
    subst e1 e3
    have hl : (xs.take 1).length = 1 := by rw [List.length_take]; omega
    refine ⟨by simp, .inr ⟨g, cap, cur, rfl, hb, hh, by rw [hl]; omega, hcm, hcs, ?_⟩⟩
    rw [hl, List.map_take, ← htk, List.take_take]
    congr 1
    omega

def ToldLL (B : Nat) (w : World) (ls : List (List Int)) (e : Ending) (w' : World) : Prop := ∃ A cap, e = .returned (.slice A ls.length cap) ∧ OwnLL B (.slice A ls.length cap) ls w' ∧ Below B w w'
theorem stepI_get (man : Int) (j : Nat) (d : Int × Int) (h : (refD man)[j]? = some d) : (stepI man).getD (2 * j) 0 = d.1 ∧ (stepI man).getD (2 * j + 1) 0 = d.2 ∧ 2 * j + 1 < (stepI man).length := by
  unfold stepI
  generalize refD man = ds at *
  induction ds generalizing j with
  | nil => cases h
  | cons x ds ih =>
    cases j with
    | zero =>
      simp only [List.getElem?_cons_zero, Option.some.injEq] at h
      subst h
      exact ⟨rfl, rfl, by simp⟩
    | succ j =>
      have h' : ds[j]? = some d := by simpa using h
      obtain ⟨h1, h2, h3⟩ := ih j h'
      simp only [List.flatMap_cons]
      refine ⟨?_, ?_, ?_⟩
      · rw [show 2 * (j + 1) = 2 * j + 1 + 1 by omega]; simpa using h1
      · rw [show 2 * (j + 1) + 1 = 2 * j + 1 + 1 + 1 by omega]; simpa using h2
      · simp only [List.length_append, List.length_cons, List.length_nil]; omega
theorem stepI_len (man : Int) : (stepI man).length = 2 * (refD man).length := by
  unfold stepI
  generalize refD man = ds
  induction ds with
  | nil => rfl
  | cons x ds ih => simp only [List.flatMap_cons, List.length_append, List.length_cons, List.length_nil, ih]; omega
theorem refD_len (man : Int) : (refD man).length ≤ 8 := by
  unfold refD
  split
  · exact stepsD_len man
  · simp
theorem refD_all (man : Int) : ∀ d ∈ refD man, d ∈ allD := by
  intro d hd
  unfold refD at hd
  split at hd
  · exact stepsD_all man d hd
  · cases hd

def ofTo (man s : Int) (j : Nat) : List (List Int) := (((refD man).take j).map (refRay man s)).filter fun l => decide (0 < l.length)
theorem ofTo_succ (man s : Int) (j : Nat) (d : Int × Int) (h : (refD man)[j]? = some d) : ofTo man s (j + 1) = ofTo man s j ++ if 0 < (refRay man s d).length then [refRay man s d] else [] := by
  unfold ofTo
  have hj : j < (refD man).length := (List.getElem?_eq_some_iff.1 h).1
  rw [List.take_succ_eq_append_getElem hj, List.map_append, List.filter_append]
  congr 1
  rw [List.getElem?_eq_getElem hj] at h
  injection h with h
  simp only [List.map_cons, List.map_nil, h]
  by_cases e : 0 < (refRay man s d).length <;> simp [e]

set_option maxHeartbeats 1600000 in
set_option maxRecDepth 100000 in
theorem r_Of (man s : Int) (hs : s ∈ squares) (w : World) : Calls Try.prog 82 #[.int .i64 man, .int .i64 s] w (ToldLL w.heap.size w (refOf man s)) := by
  have hdl := refD_len man
  have hsl := stepI_len man
  have HSL := Lib.hid hsl
  clear hsl
  go_enter Try.func82, Try.ntmps82
  go_wp2_with (go_at_call 103; refine (r_Steps _ _).mono ?_; rintro e w1 ⟨A, cap, rfl, hS, hb1⟩)
  go_loopg [5, 7, 8] (refD man).length (fun m ov iv _ wr => ∃ (j : Nat) (Ao : Option Addr) (co : Nat), j + m = (refD man).length ∧ iv = .int .i64 (2 * (j : Int)) ∧ ov = .slice Ao (ofTo man s j).length co ∧ OwnLL w1.heap.size (.slice Ao (ofTo man s j).length co) (ofTo man s j) wr ∧
    Below w1.heap.size w1 wr)
  case atStart => exact ⟨0, none, 0, by omega, rfl, rfl, OwnLL.none _ _, Below.refl _ _⟩
  case round =>
    obtain ⟨j, Ao, co, hj, rfl, rfl, ho, hbe⟩ := hrel
    have HJ := Lib.hid hj
    have hS1 := Lib.hid (hS.below hbe)
    have hsz := hbe.size
    have hof : (ofTo man s j).length ≤ 8 := by
      unfold ofTo
      refine Nat.le_trans (List.length_filter_le _ _) ?_
      rw [List.length_map, List.length_take]; omega
    by_cases g0 : gk = 0
    · have e1 : decide (2 * (j : Int) < ((stepI man).length : Int)) = false := by have := HSL.out; simp; omega
      have E := Lib.hid (show refOf man s = ofTo man s j by unfold ofTo refOf; rw [List.take_of_length_le (by omega)])
      have j8 : j ≤ 8 := by omega
      clear hj g0
      go_wp2
      go_ret
      rw [E.out]
      exact ⟨Ao, co, rfl, ho.mono hb1.size, hb1.trans (hbe.mono hb1.size)⟩
    · obtain ⟨d, hd⟩ : ∃ d, (refD man)[j]? = some d := ⟨_, List.getElem?_eq_getElem (by omega)⟩
      obtain ⟨d1, d2, d3⟩ := stepI_get man j d hd
      have hda := refD_all man d (List.mem_of_getElem? hd)
      have e1 : decide (2 * (j : Int) < ((stepI man).length : Int)) = true := by simp; omega
      obtain ⟨g, rfl, _, _, hgl, hc⟩ := hS1.out.cell (by omega)
      have c1 := hc (2 * j) (by omega)
      have c2 := hc (2 * j + 1) d3
      rw [d1] at c1
      rw [d2] at c2
      have j7 : j ≤ 7 := by omega
      have i2 : ((2 * (j : Int)) : Int) + 1 < ((stepI man).length : Int) := by omega
      clear hj hc d1 d2
      have c1' : ({ heap := wr.heap, tape := wr.tape, drawn := wr.drawn + 1, os := wr.os, output := wr.output } : World).cell? ⟨g, 2 * j, none⟩ = some (.int .i64 d.1) := c1
      have c2' : ({ heap := wr.heap, tape := wr.tape, drawn := wr.drawn + 1, os := wr.os, output := wr.output } : World).cell? ⟨g, 2 * j + 1, none⟩ = some (.int .i64 d.2) := c2
      have t0 : 2 * (j : Int) < ((stepI man).length : Int) := by omega
      have t1 : 0 ≤ 2 * (j : Int) := by omega
      have t2 : 0 ≤ 2 * (j : Int) + 1 := by omega
      have n1 : (2 * (j : Int)).toNat = 2 * j := by omega
      have n2 : (2 * (j : Int) + 1).toNat = 2 * j + 1 := by omega
      have wr1 : IntKind.i64.wrap (2 * (j : Int) + 1) = 2 * (j : Int) + 1 := IntWalk.i64_in _ (by omega)
      go_wp2_with fail
      go_still_tail 10, (by kernel_rfl)
      have R := r_Ray s d.1 d.2 hda hs
      have OT := Lib.hid (ofTo_succ man s j d hd)
      have RR := Lib.hid (show refRay man s d = if 1 < (walkL 64 s d.1 d.2).length ∧ slidesR man = false then (walkL 64 s d.1 d.2).take 1 else walkL 64 s d.1 d.2 from rfl)
      have L7 := walk_len d hda s hs
      have HR := Lib.hid R
      have H0 := Lib.hid ho
      have HBE := Lib.hid hbe
      have G := Lib.hid g0
      clear c1 c2 c1' c2' t0 t1 t2 n1 n2 wr1 R hS1 hS ho hbe g0 hd d3 hda e1 hgl i2
      generalize walkL 64 s d.1 d.2 = L at *
      change wpList _ _ _ _ _ _
      by_cases l0 : L = []
      · subst l0
        have E := Lib.hid (show ofTo man s (j + 1) = ofTo man s j by rw [OT.out, RR.out]; simp)
        go_wp2_with (go_at_call 104; refine (HR.out _).mono ?_; rintro e w2 ⟨A2, cap2, rfl, hW, hb2⟩)
        go_roundg (gk - 1)
        case measure => have := G.out; omega
        case rel => exact ⟨j + 1, Ao, co, by have := HJ.out; have := G.out; omega, by go_num, by rw [E.out], by rw [E.out]; exact OwnLL.below (w := wr.drew) H0.out hb2, HBE.out.trans (((Below.refl w1.heap.size wr).drew).trans (hb2.mono hsz))⟩
      · have l1 : 0 < L.length := List.length_pos_iff.2 l0
        by_cases l2 : 1 < L.length
        · cases sl : slidesR man
          · have E := Lib.hid (show ofTo man s (j + 1) = ofTo man s j ++ [L.take 1] by
              have r : refRay man s d = L.take 1 := by rw [RR.out]; exact if_pos ⟨l2, sl⟩
              rw [OT.out, r, if_pos (by rw [List.length_take]; omega)])
            have lt1 := Lib.hid (show 1 = (L.take 1).length by rw [List.length_take]; omega)
            go_wp2_with (first
              | (go_at_call 104; refine (HR.out _).mono ?_; rintro e w2 ⟨A2, cap2, rfl, hW, hb2⟩; obtain ⟨g2, rfl, _, _, _, _⟩ := hW.cell l1; have cp1 := hW.cap.1; have cp2 := hW.cap.2; unfold maxLen at cp2; have HLL := Lib.hid (OwnLL.below (w := wr.drew) H0.out hb2); have HT := Lib.hid (Own.mono (B' := w1.heap.size) hW hsz))
              | (go_at_call 105; refine (r_Slides _ _).mono ?_; rintro e w' ⟨rfl, rfl⟩)
              | (at_builtin; refine appendLL rfl _ _ rfl w1.heap.size (.slice Ao (ofTo man s j).length co) (ofTo man s j) rfl w2 HLL.out (some ⟨g2, 0, none⟩) cap2 (L.take 1) (HT.out.take1 l1) 1 lt1.out rfl rfl (by omega) (by have := hb2.size; simp at this; omega) ?_; intro A3 cap3 w3 hLL3 hg3))
            go_roundg (gk - 1)
            case measure => have := G.out; omega
            case rel => exact ⟨j + 1, A3, cap3, by have := HJ.out; have := G.out; omega, by go_num, by rw [E.out]; simp, by rw [E.out]; simpa using hLL3, (HBE.out.trans (((Below.refl w1.heap.size wr).drew).trans (hb2.mono hsz))).grown hg3 (by have := hb2.size; simp at this; omega) (fun k hk => (HLL.out.lt k hk).1)⟩
          · have E := Lib.hid (show ofTo man s (j + 1) = ofTo man s j ++ [L] by
              have r : refRay man s d = L := by rw [RR.out]; exact if_neg (fun h => by rw [sl] at h; cases h.2)
              rw [OT.out, r, if_pos l1])
            go_wp2_with (first
              | (go_at_call 104; refine (HR.out _).mono ?_; rintro e w2 ⟨A2, cap2, rfl, hW, hb2⟩; obtain ⟨g2, rfl, _, _, _, _⟩ := hW.cell l1; have cp1 := hW.cap.1; have cp2 := hW.cap.2; unfold maxLen at cp2; have HLL := Lib.hid (OwnLL.below (w := wr.drew) H0.out hb2); have HT := Lib.hid (Own.mono (B' := w1.heap.size) hW hsz))
              | (go_at_call 105; refine (r_Slides _ _).mono ?_; rintro e w' ⟨rfl, rfl⟩)
              | (at_builtin; refine appendLL rfl _ _ rfl w1.heap.size (.slice Ao (ofTo man s j).length co) (ofTo man s j) rfl w2 HLL.out (some ⟨g2, 0, none⟩) cap2 L HT.out L.length rfl rfl rfl (by omega) (by have := hb2.size; simp at this; omega) ?_; intro A3 cap3 w3 hLL3 hg3))
            go_roundg (gk - 1)
            case measure => have := G.out; omega
            case rel => exact ⟨j + 1, A3, cap3, by have := HJ.out; have := G.out; omega, by go_num, by rw [E.out]; simp, by rw [E.out]; simpa using hLL3, (HBE.out.trans (((Below.refl w1.heap.size wr).drew).trans (hb2.mono hsz))).grown hg3 (by have := hb2.size; simp at this; omega) (fun k hk => (HLL.out.lt k hk).1)⟩
        · have E := Lib.hid (show ofTo man s (j + 1) = ofTo man s j ++ [L] by
            have r : refRay man s d = L := by rw [RR.out]; exact if_neg (fun h => l2 h.1)
            rw [OT.out, r, if_pos l1])
          · go_wp2_with (first
              | (go_at_call 104; refine (HR.out _).mono ?_; rintro e w2 ⟨A2, cap2, rfl, hW, hb2⟩; obtain ⟨g2, rfl, _, _, _, _⟩ := hW.cell l1; have cp1 := hW.cap.1; have cp2 := hW.cap.2; unfold maxLen at cp2; have HLL := Lib.hid (OwnLL.below (w := wr.drew) H0.out hb2); have HT := Lib.hid (Own.mono (B' := w1.heap.size) hW hsz))
              | (go_at_call 105; refine (r_Slides _ _).mono ?_; rintro e w' ⟨rfl, rfl⟩)
              | (at_builtin; refine appendLL rfl _ _ rfl w1.heap.size (.slice Ao (ofTo man s j).length co) (ofTo man s j) rfl w2 HLL.out (some ⟨g2, 0, none⟩) cap2 L HT.out L.length rfl rfl rfl (by omega) (by have := hb2.size; simp at this; omega) ?_; intro A3 cap3 w3 hLL3 hg3))
            go_roundg (gk - 1)
            case measure => have := G.out; omega
            case rel => exact ⟨j + 1, A3, cap3, by have := HJ.out; have := G.out; omega, by go_num, by rw [E.out]; simp, by rw [E.out]; simpa using hLL3, (HBE.out.trans (((Below.refl w1.heap.size wr).drew).trans (hb2.mono hsz))).grown hg3 (by have := hb2.size; simp at this; omega) (fun k hk => (HLL.out.lt k hk).1)⟩
end Go.Proofs.Ytibaembmdcdbkaa
