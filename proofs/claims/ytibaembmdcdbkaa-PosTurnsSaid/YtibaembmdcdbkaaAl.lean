import Derived.Test.YtibaembmdcdbkaaWk
import Derived.Test.YtibaembmdcdbkaaSt
namespace Go.Proofs.Ytibaembmdcdbkaa
open Go.RowKit Alf

/-! rays.Along: what it does to a captured slice of whole numbers -/
def OutIs (c : Nat) (v : Value) (xs : List Int) (w : World) : Prop := w.heap[c]? = some (.cells #[v] 28 (0, 0)) ∧ Own (c + 1) v xs w
structure OutStep (c : Nat) (v v' : Value) (w w' : World) : Prop where
  os : w'.os = w.os
  tape : w'.tape = w.tape
  output : w'.output = w.output
  size : w.heap.size ≤ w'.heap.size
  block : ∀ k, k < w.heap.size → k ≠ c → v.ownBlock ≠ some k → w'.heap[k]? = w.heap[k]?
  row : ∀ k, v'.ownBlock = some k → v.ownBlock = some k ∨ w.heap.size ≤ k
theorem OutStep.of_below {c : Nat} {v : Value} {w w' : World} (h : Below w.heap.size w w') : OutStep c v v w w' :=
  ⟨h.os, h.tape, h.output, h.size, fun k hk _ _ => h.block k hk, fun _ hk => .inl hk⟩
theorem OutStep.trans {c : Nat} {v v1 v2 : Value} {w w1 w2 : World} (h : OutStep c v v1 w w1) (k : OutStep c v1 v2 w1 w2) : OutStep c v v2 w w2 := by
  refine ⟨k.os.trans h.os, k.tape.trans h.tape, k.output.trans h.output, Nat.le_trans h.size k.size, fun i hi hc hv => ?_, fun i hi => ?_⟩
  · rw [k.block i (Nat.lt_of_lt_of_le hi h.size) hc ?_]
    · exact h.block i hi hc hv
    · intro e
      rcases h.row i e with e' | e'
      · exact hv e'
      · omega
  · rcases k.row i hi with e | e
    · exact h.row i e
    · exact .inr (Nat.le_trans h.size e)
/-- what is kept apart from the captured slice -/
def Apart (c : Nat) (v u : Value) : Prop := ∀ k, u.ownBlock = some k → k ≠ c ∧ v.ownBlock ≠ some k
def Keeps (keep : List (Nat × Obj)) (c : Nat) (v : Value) (w : World) : Prop := ∀ p ∈ keep, w.heap[p.1]? = some p.2 ∧ p.1 ≠ c ∧ v.ownBlock ≠ some p.1
theorem row_move {w w' : World} {base : Nat} {e : TypeId} {size : Nat} {v : Value} {n : Nat} {xs : List Value} (h : w.ownsRow base e size v n xs) (hk : ∀ k, v.ownBlock = some k → w'.heap[k]? = w.heap[k]?) : w'.ownsRow base e size v n xs := by
  refine ⟨h.1, ?_⟩
  rcases h.2 with hn | ⟨g, cap, cur, rfl, hb, hg, r⟩
  · exact .inl hn
  · exact .inr ⟨g, cap, cur, rfl, hb, by rw [hk g rfl]; exact hg, r⟩
theorem row_step {c : Nat} {v v' : Value} {w w' : World} (s : OutStep c v v' w w') {base : Nat} {e : TypeId} {size : Nat} {u : Value} {n : Nat} {xs : List Value} (h : w.ownsRow base e size u n xs) (ha : Apart c v u) : w'.ownsRow base e size u n xs :=
  row_move h fun k hk => s.block k (h.lt k hk).2 (ha k hk).1 (ha k hk).2
theorem Apart.step {c : Nat} {v v' : Value} {w w' : World} (s : OutStep c v v' w w') {base : Nat} {e : TypeId} {size : Nat} {u : Value} {n : Nat} {xs : List Value} (h : w.ownsRow base e size u n xs) (ha : Apart c v u) : Apart c v' u := by
  intro k hk
  refine ⟨(ha k hk).1, fun e => ?_⟩
  rcases s.row k e with e | e
  · exact (ha k hk).2 e
  · have := (h.lt k hk).2; omega
theorem Keeps.step {keep : List (Nat × Obj)} {c : Nat} {v v' : Value} {w w' : World} (s : OutStep c v v' w w') (h : Keeps keep c v w) : Keeps keep c v' w' := by
  intro p hp
  obtain ⟨h1, h2, h3⟩ := h p hp
  have hl := lt_of_block h1
  refine ⟨by rw [s.block p.1 hl h2 h3]; exact h1, h2, fun e => ?_⟩
  rcases s.row p.1 e with e | e
  · exact h3 e
  · omega
theorem OutIs.below {c : Nat} {v : Value} {xs : List Int} {w w' : World} (h : OutIs c v xs w) (hb : Below w.heap.size w w') : OutIs c v xs w' :=
  ⟨by rw [hb.block c (lt_of_block h.1)]; exact h.1, h.2.below hb⟩
/-- a row that was made just now lies apart -/
theorem apart_new {c : Nat} {v u : Value} {xs : List Int} {w w' : World} (h : OutIs c v xs w) {e : TypeId} {size n : Nat} {ys : List Value} (hu : w'.ownsRow w.heap.size e size u n ys) : Apart c v u := by
  intro k hk
  have h1 := (hu.lt k hk).1
  have h2 := lt_of_block h.1
  refine ⟨by omega, fun e => ?_⟩
  have := (h.2.lt k e).2
  omega
theorem walkL_bd (n : Nat) (s df dr : Int) : ∀ t ∈ walkL n s df dr, 0 ≤ t ∧ t < 64 := by
  induction n generalizing s with
  | zero => simp [walkL]
  | succ n ih =>
    intro t ht
    simp only [walkL] at ht
    split at ht
    · cases ht
    · rename_i q
      split at ht
      · cases ht
      · rcases List.mem_cons.1 ht with rfl | h
        · exact stepSq_bd q
        · exact ih _ t h

theorem stepsD_len (man : Int) : (stepsD man).length ≤ 8 := by
  unfold stepsD
  (repeat' split) <;> first | decide | simp
theorem stepC_get (ds : List (Int × Int)) (i : Nat) (d : Int × Int) (h : ds[i]? = some d) : (stepC ds)[i * 2]? = some (.int .i64 d.1) ∧ (stepC ds)[i * 2 + 1]? = some (.int .i64 d.2) := by
  induction ds generalizing i with
  | nil => cases h
  | cons x ds ih =>
    cases i with
    | zero =>
      simp only [List.getElem?_cons_zero, Option.some.injEq] at h
      subst h
      exact ⟨rfl, rfl⟩
    | succ i =>
      have h' : ds[i]? = some d := by simpa using h
      obtain ⟨h1, h2⟩ := ih i h'
      have e : stepC (x :: ds) = .int .i64 x.1 :: .int .i64 x.2 :: stepC ds := rfl
      rw [e]
      refine ⟨?_, ?_⟩
      · rw [show (i + 1) * 2 = i * 2 + 1 + 1 by omega]; simpa using h1
      · rw [show (i + 1) * 2 + 1 = i * 2 + 1 + 1 + 1 by omega]; simpa using h2
theorem OwnS.elem {B n cap : Nat} {A : Option Addr} {ds : List (Int × Int)} {w : World} (h : OwnS B (.slice A n cap) ds w) {i : Nat} (hi : i < ds.length) :
    ∃ g, A = some ⟨g, 0, none⟩ ∧ ∃ d, ds[i]? = some d ∧ w.cell? ⟨g, i * 2, none⟩ = some (.int .i64 d.1) ∧ w.cell? ⟨g, i * 2 + 1, none⟩ = some (.int .i64 d.2) := by
  rcases h.2 with ⟨e, e0⟩ | ⟨g, cap', cur, e, hb, hh, _⟩
  · omega
  · injection e with e1 e2 e3
    subst e1
    obtain ⟨d, hd⟩ : ∃ d, ds[i]? = some d := ⟨_, List.getElem?_eq_getElem hi⟩
    obtain ⟨h1, h2⟩ := stepC_get ds i d hd
    refine ⟨g, rfl, d, hd, ?_, ?_⟩
    · have := h.cells _ _ h1; rwa [add_at] at this
    · have := h.cells _ _ h2; rwa [add_at] at this
theorem along_next {α : Type} {ds : List α} {i : Nat} {d : α} {F : α → List Int} {f : List Int → Int → List Int} {xs1 xs2 tot : List Int} (hd : ds[i]? = some d) (h : ((ds.drop i).flatMap F).foldl f xs1 = tot) (h2 : (F d).foldl f xs1 = xs2) :
    ((ds.drop (i + 1)).flatMap F).foldl f xs2 = tot := by
  have hi : i < ds.length := (List.getElem?_eq_some_iff.1 hd).1
  have e : ds.drop i = d :: ds.drop (i + 1) := by
    rw [List.drop_eq_getElem_cons hi]
    congr 1
    rw [List.getElem?_eq_getElem hi] at hd
    injection hd
  rw [e, List.flatMap_cons, List.foldl_append, h2] at h
  exact h
theorem thru_next {go : Int → Bool} {l : List Int} {j : Nat} {t : Int} (h : l[j]? = some t) : thru go (l.drop j) = t :: if go t then thru go (l.drop (j + 1)) else [] := by
  have hi : j < l.length := (List.getElem?_eq_some_iff.1 h).1
  have e : l.drop j = t :: l.drop (j + 1) := by
    rw [List.drop_eq_getElem_cons hi]
    congr 1
    rw [List.getElem?_eq_getElem hi] at h
    injection h
  rw [e]; rfl
/-- what is asked of a function that goes along -/
def OnCalls (g : FuncId) (cap : Array Value) (c : Nat) (keep : List (Nat × Obj)) (go : Int → Bool) (f : List Int → Int → List Int) : Prop :=
  ∀ (t : Int) (v : Value) (xs : List Int) (W : World), 0 ≤ t → t < 64 → xs.length ≤ 10000 → OutIs c v xs W → Keeps keep c v W →
    Calls Try.prog g (#[.int .i64 t] ++ cap) W fun e W' => e = .returned (.bool (go t)) ∧ ∃ v', OutIs c v' (f xs t) W' ∧ OutStep c v v' W W'
def AlongPost (c : Nat) (v : Value) (ys : List Int) (w : World) (e : Ending) (w' : World) : Prop :=
  e = .returned (.tuple #[]) ∧ ∃ v', OutIs c v' ys w' ∧ OutStep c v v' w w'

set_option maxHeartbeats 800000 in
set_option maxRecDepth 100000 in
theorem rays_along (man s : Int) (g : FuncId) (cap : Array Value) (c : Nat) (keep : List (Nat × Obj)) (go : Int → Bool) (f : List Int → Int → List Int) (hf : ∀ xs t, (f xs t).length ≤ xs.length + 1)
    (hon : OnCalls g cap c keep go f) (hent : ∀ args (W : World), (callFunc g args).run Try.prog W = .ok (.enter g args) W) (v : Value) (xs : List Int) (w : World) (hxs : xs.length ≤ 5000) (hout : OutIs c v xs w) (hkeep : Keeps keep c v w) :
    Calls Try.prog 38 #[.int .i64 man, .int .i64 s, .func (.func g) #[] cap] w (AlongPost c v ((alongL go man s).foldl f xs) w) := by
  have hl : (stepsD man).length ≤ 8 := stepsD_len man
  have HON := Lib.hid hon
  have HF := Lib.hid hf
  have HO := Lib.hid hout
  have HK := Lib.hid hkeep
  have HX := Lib.hid hxs
  clear hon hf hout hkeep hxs
  go_enter Try.func38, Try.ntmps38
  go_wp2_with (go_at_call 76; refine (rays_steps _ _).mono ?_; rintro e w1 ⟨A, capS, rfl, hS, hb1⟩)
  have ap0 := apart_new HO.out hS
  go_loopg [19] (stepsD man).length (fun m iv wr => ∃ (i : Nat) (v1 : Value) (xs1 : List Int), i + m = (stepsD man).length ∧ iv = .int .i64 i ∧ OutIs c v1 xs1 wr ∧ OutStep c v v1 w wr ∧
    OwnS w.heap.size (.slice A (stepsD man).length capS) (stepsD man) wr ∧ Apart c v1 (.slice A (stepsD man).length capS) ∧ Keeps keep c v1 wr ∧ xs1.length ≤ 5000 + 64 * i ∧
    (((stepsD man).drop i).flatMap fun d => thru go (walkL (stepsN man) s d.1 d.2)).foldl f xs1 = (alongL go man s).foldl f xs)
  case atStart => exact ⟨0, v, xs, by omega, rfl, HO.out.below hb1, .of_below hb1, hS, ap0, HK.out.step (.of_below hb1), by have := HX.out; omega, rfl⟩
  case round =>
    obtain ⟨i, v1, xs1, hi, rfl, ho, hst, hS1, hap, hkp, hxl, hfin⟩ := hrel
    have HFIN := Lib.hid hfin
    have HO1 := Lib.hid ho
    have HST := Lib.hid hst
    have HS1 := Lib.hid hS1
    have HAP := Lib.hid hap
    have HKP := Lib.hid hkp
    have HI := Lib.hid hi
    clear hfin ho hst hS1 hap hkp
    by_cases g0 : gk = 0
    · have e1 : decide (i < (stepsD man).length) = false := by simp; omega
      have E := Lib.hid (show (alongL go man s).foldl f xs = xs1 by
        rw [← HFIN.out, List.drop_eq_nil_of_le (by omega)]; rfl)
      clear hi g0
      go_wp2
      go_end0
      exact ⟨rfl, v1, by rw [E.out]; exact HO1.out, HST.out⟩
    · have hlt : i < (stepsD man).length := by omega
      have e1 : decide (i < (stepsD man).length) = true := by simp; omega
      obtain ⟨gb, rfl, d, hd, c0, c1⟩ := HS1.out.elem hlt
      have HD := Lib.hid hd
      have G := Lib.hid g0
      have i8 : i < 8 := by omega
      clear hd hi g0
      go_wp2_with (go_at_call 77; refine (rays_walk _ _ _ _ (by rcases stepsN_or man with q | q <;> omega) _).mono ?_; rintro e w2 ⟨A2, cap2, rfl, hW, hb2⟩)
      have hB : Below wr.heap.size wr w2 := (below_box wr _).trans (hb2.mono (by simp))
      have hO2 := HO1.out.below hB
      have hW1 : Own wr.heap.size (.slice A2 (walkL (stepsN man) s d.1 d.2).length cap2) (walkL (stepsN man) s d.1 d.2) w2 := hW.mono (by simp)
      have hApW := apart_new HO1.out hW1
      have hK2 := HKP.out.step (.of_below hB)
      have hS2 := HS1.out.below hB
      have hT2 := HST.out.trans (.of_below hB)
      have hW64 : (walkL (stepsN man) s d.1 d.2).length ≤ 64 := Nat.le_trans (walkL_len _ _ _ _) (by rcases stepsN_or man with q | q <;> omega)
      have HB := Lib.hid hB
      have HO2 := Lib.hid hO2
      have HW1 := Lib.hid hW1
      have HAPW := Lib.hid hApW
      have HK2 := Lib.hid hK2
      have HS2 := Lib.hid hS2
      have HT2 := Lib.hid hT2
      clear hB hO2 hW1 hApW hK2 hS2 hT2 hW hb2 c0 c1
      obtain ⟨gk0, rfl⟩ : ∃ k : Nat, k = gk := ⟨_, rfl⟩
      obtain ⟨wo, rfl⟩ : ∃ k : World, k = wr := ⟨_, rfl⟩
      go_loopg [28] (walkL (stepsN man) s d.1 d.2).length (fun m jv wr => ∃ (j : Nat) (v2 : Value) (xs2 : List Int), j + m = (walkL (stepsN man) s d.1 d.2).length ∧ jv = .int .i64 j ∧ OutIs c v2 xs2 wr ∧ OutStep c v v2 w wr ∧
        OwnS w.heap.size (.slice (some ⟨gb, 0, none⟩) (stepsD man).length capS) (stepsD man) wr ∧ Apart c v2 (.slice (some ⟨gb, 0, none⟩) (stepsD man).length capS) ∧
        Own wo.heap.size (.slice A2 (walkL (stepsN man) s d.1 d.2).length cap2) (walkL (stepsN man) s d.1 d.2) wr ∧ Apart c v2 (.slice A2 (walkL (stepsN man) s d.1 d.2).length cap2) ∧
        Keeps keep c v2 wr ∧ xs2.length ≤ 5000 + 64 * i + j ∧ (thru go ((walkL (stepsN man) s d.1 d.2).drop j)).foldl f xs2 = (thru go (walkL (stepsN man) s d.1 d.2)).foldl f xs1)
      case atStart => exact ⟨0, v1, xs1, by omega, rfl, HO2.out, HT2.out, HS2.out, HAP.out, HW1.out, HAPW.out, HK2.out, hxl, rfl⟩
      case round =>
        obtain ⟨j, v2, xs2, hj, rfl, ho, hst, hS3, hap, hw3, hapw, hkp, hxl2, hfin⟩ := hrel
        have HJ := Lib.hid hj
        have HFIN2 := Lib.hid hfin
        have HO3 := Lib.hid ho
        have HST3 := Lib.hid hst
        have HS3 := Lib.hid hS3
        have HAP3 := Lib.hid hap
        have HW3 := Lib.hid hw3
        have HAPW3 := Lib.hid hapw
        have HK3 := Lib.hid hkp
        clear hfin ho hst hS3 hap hw3 hapw hkp
        by_cases g1 : gk = 0
        · have e2 : decide (j < (walkL (stepsN man) s d.1 d.2).length) = false := by simp; omega
          have G1 := Lib.hid g1
          clear hj g1
          go_wp2
          go_roundg (gk0 - 1)
          case measure => have := G.out; omega
          case rel =>
            have hj' := HJ.out
            have g1' := G1.out
            exact ⟨i + 1, v2, xs2, by have := HI.out; have := G.out; omega, by go_num, HO3.out, HST3.out, HS3.out, HAP3.out, HK3.out, by omega,
              along_next HD.out HFIN.out (by have h := HFIN2.out; rw [List.drop_eq_nil_of_le (by omega)] at h; exact h.symm)⟩
        · have hjl : j < (walkL (stepsN man) s d.1 d.2).length := by omega
          have e2 : decide (j < (walkL (stepsN man) s d.1 d.2).length) = true := by simp; omega
          have G1 := Lib.hid g1
          clear hj g1
          obtain ⟨gw, rfl, _, _, hgw, hcell⟩ := HW3.out.cell (by omega)
          have c2 := hcell j hjl
          obtain ⟨t, ht⟩ : ∃ t, t = (walkL (stepsN man) s d.1 d.2).getD j 0 := ⟨_, rfl⟩
          rw [← ht] at c2
          have htj : (walkL (stepsN man) s d.1 d.2)[j]? = some t := by rw [ht, List.getD_eq_getElem?_getD, List.getElem?_eq_getElem hjl]; rfl
          have htb := walkL_bd _ _ _ _ t (List.mem_of_getElem? htj)
          have HTJ := Lib.hid htj
          have hxb : xs2.length ≤ 10000 := by omega
          have C := HON.out t v2 xs2 wr htb.1 htb.2 hxb HO3.out HK3.out
          have HC := Lib.hid C
          have j64 : j < 64 := by omega
          clear hcell ht htj C htb hgw
          cases q : go t
          · go_wp2_with fail
            refine HC.out.mono ?_
            rintro e w4 ⟨rfl, v4, h4, s4⟩
            go_wp2_with fail
            go_roundg (gk0 - 1)
            case measure => have := G.out; omega
            case rel =>
              have hfl := HF.out xs2 t
              exact ⟨i + 1, v4, f xs2 t, by have := HI.out; have := G.out; omega, by go_num, h4, HST3.out.trans s4, row_step s4 HS3.out HAP3.out, Apart.step s4 HS3.out HAP3.out, HK3.out.step s4, by omega,
                along_next HD.out HFIN.out (by have h := HFIN2.out; rw [thru_next HTJ.out, q] at h; exact h.symm)⟩
          · go_wp2_with fail
            refine HC.out.mono ?_
            rintro e w4 ⟨rfl, v4, h4, s4⟩
            go_wp2_with fail
            go_roundg (gk - 1)
            case measure => have := G1.out; omega
            case rel =>
              have hfl := HF.out xs2 t
              exact ⟨j + 1, v4, f xs2 t, by have := HJ.out; have := G1.out; omega, by go_num, h4, HST3.out.trans s4, row_step s4 HS3.out HAP3.out, Apart.step s4 HS3.out HAP3.out, row_step s4 HW3.out HAPW3.out, Apart.step s4 HW3.out HAPW3.out, HK3.out.step s4, by omega,
                by have h := HFIN2.out; rw [thru_next HTJ.out, q, if_pos rfl] at h; exact h⟩
end Go.Proofs.Ytibaembmdcdbkaa
