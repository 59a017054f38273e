import Derived.Test.YtibaembmdcdbkaaBy
import Derived.StillTailTactics
namespace Go.Proofs.Ytibaembmdcdbkaa
open Go.RowKit Alf

/-! where a king stands; who is in check -/
def findI (b : List Int) (m : Int) : Int := match squares.find? (fun s => bd b s == m) with
  | some s => s
  | none => -1
def pKing (b : List Int) (side : Int) : Int := if mMake 6 side = 0 then -1 else findI b (mMake 6 side)
theorem squares_get (k : Nat) (h : k < 64) : squares[k]? = some (k : Int) := by
  simp [squares, h]
theorem findI_at (b : List Int) (m : Int) (k : Nat) (hk : k < 64) (h : ∀ j : Nat, j < k → ¬ bd b j = m) (e : bd b k = m) : findI b m = k := by
  unfold findI
  have : squares.find? (fun s => bd b s == m) = some (k : Int) := by
    rw [List.find?_eq_some_iff_getElem]
    refine ⟨by simpa using e, k, by simpa [squares] using hk, ?_, fun j hj => ?_⟩
    · have := squares_get k hk; rw [List.getElem?_eq_getElem (by simpa [squares] using hk)] at this; injection this
    · have hj' : j < 64 := by omega
      have := squares_get j hj'
      rw [List.getElem?_eq_getElem (by simpa [squares] using hj')] at this
      injection this with this
      rw [this]
      simpa using h j hj
  rw [this]
theorem findI_none (b : List Int) (m : Int) (h : ∀ j : Nat, j < 64 → ¬ bd b j = m) : findI b m = -1 := by
  unfold findI
  have : squares.find? (fun s => bd b s == m) = none := by
    rw [List.find?_eq_none]
    intro s hs
    have := (mem_squares s).1 hs
    have := h s.toNat (by omega)
    rw [Int.toNat_of_nonneg (by omega)] at this
    simpa using this
  rw [this]

set_option maxHeartbeats 400000 in
set_option maxRecDepth 100000 in
theorem board_King (b : List Int) (hb : BOk b) (side : Int) (w : World) : Calls Try.prog 46 #[.agg (boardC b), .int .i64 side] w fun e w' => e = .returned (.int .i64 (pKing b side)) ∧ Below w.heap.size w w' := by
  have HZ := Lib.hid (board_info b hb)
  have HG := Lib.hid (heap_alloc_last w (.cells (boardC b) 24))
  have hw := Lib.hid (below_box w (.cells (boardC b) 24))
  obtain ⟨m, hm⟩ : ∃ m, m = mMake 6 side := ⟨_, rfl⟩
  have M := men_Make 6 side
  rw [← hm] at M
  have HM := Lib.hid M
  have EK := Lib.hid (show pKing b side = if m = 0 then -1 else findI b m by unfold pKing; rw [hm])
  clear M hm
  by_cases z : m = 0
  · have E := Lib.hid (show pKing b side = -1 by rw [EK.out, if_pos z])
    have z1 : (m != 0) = false := by simpa using z
    clear z
    go_enter Try.func46, Try.ntmps46
    go_wp2_with (first | (go_at_call 50; refine (HM.out _).mono ?_; rintro e w' ⟨rfl, rfl⟩) | (refine load_row rfl 24 _ rfl _ rfl 24 _ (0, 0) _ HG.out Try.underlying24 rfl HZ.out ?_))
    go_loop [11] (fun i => ∃ k : Nat, k ≤ 64 ∧ i = .int .i64 k) (fun i => 64 - (intOf i).toNat)
    case atStart => exact ⟨0, by omega, rfl⟩
    case round =>
      obtain ⟨k, h64, rfl⟩ := hrel
      by_cases q : k < 64
      · have hi := board_index b hb k q
        go_wp2
        go_round
        case rel => exact ⟨k + 1, by omega, by go_num⟩
        case measure => simp [intOf]; omega
      · obtain rfl : k = 64 := by omega
        go_wp2
        go_ret
        exact ⟨re_int E.out.symm, hw.out⟩
  · have E0 := Lib.hid (show pKing b side = findI b m by rw [EK.out, if_neg z])
    have z1 : (m != 0) = true := by simpa using z
    clear z
    go_enter Try.func46, Try.ntmps46
    go_wp2_with (first | (go_at_call 50; refine (HM.out _).mono ?_; rintro e w' ⟨rfl, rfl⟩) | (refine load_row rfl 24 _ rfl _ rfl 24 _ (0, 0) _ HG.out Try.underlying24 rfl HZ.out ?_))
    go_loop [11] (fun i => ∃ k : Nat, k ≤ 64 ∧ i = .int .i64 k ∧ ∀ j : Nat, j < k → ¬ bd b j = m) (fun i => 64 - (intOf i).toNat)
    case atStart => exact ⟨0, by omega, rfl, fun j h => by omega⟩
    case round =>
      obtain ⟨k, h64, rfl, hno⟩ := hrel
      have H := Lib.hid hno
      clear hno
      by_cases q : k < 64
      · have hi := board_index b hb k q
        obtain ⟨c1, c2⟩ := bd_bounds b hb k
        by_cases q1 : bd b k = m
        · have E := Lib.hid (show findI b m = k from findI_at b m k q H.out q1)
          have b1 : (bd b k == m) = true := by simpa using q1
          clear q1
          go_wp2
          go_ret
          exact ⟨re_int (by rw [E0.out, E.out]), hw.out⟩
        · have b1 : (bd b k == m) = false := by simpa using q1
          have Q1 := Lib.hid q1
          clear q1
          go_wp2
          go_round
          case rel => exact ⟨k + 1, by omega, by go_num, fun j h => by
            by_cases e : j = k
            · subst e; exact Q1.out
            · exact H.out j (by omega)⟩
          case measure => simp [intOf]; omega
      · obtain rfl : k = 64 := by omega
        have E := Lib.hid (show findI b m = -1 from findI_none b m H.out)
        go_wp2
        go_ret
        exact ⟨re_int (by rw [E0.out, E.out]), hw.out⟩

theorem still_load_row {P : Program} {ops : Array Oper} {rest : List Oper} {o : Oper} {a : Act} {w : World} {Q : Act → Prop} (hgd : Region.wanted o (yielded ops a.tmps) = true) (ty : TypeId) (x : Operand) (ho : o.op = .load ty x)
    (g : Nat) (hx : a.eval x = .pointer (some ⟨g, 0, none⟩)) (t : TypeId) (cs : Array Value) (fr : Nat × Nat) (d : TypeDesc) (hg : w.heap[g]? = some (.cells cs t fr))
    (hu : P.underlying ty = some d) (hd : (match d with | .struct _ | .array _ _ => true | _ => false) = true) (hi : (P.info? ty).map (·.size) = some cs.size)
    (h : wpStill P ops w Q rest (a.put o.dst (.agg cs))) : wpStill P ops w Q (o :: rest) a :=
  wpStill_step fun _ hK => by
    rw [if_pos hgd]
    unfold Oper.still execOp
    simp only [ho, hx, Instr.loadAt, Instr.sureAddr, Sem.run_bind, Sem.run_pure, Result.andThen_ok, run_loadVar_row w g t ty cs fr d hg hu hd hi]
    exact ⟨rfl, hK _ h⟩

theorem Drawn_below (w : World) (n : Nat) {B : Nat} : Below B w (w.drewN n) := ⟨rfl, rfl, rfl, Nat.le_refl _, fun _ _ => rfl⟩
def pCheck (b : List Int) (side : Int) : Bool := decide (0 ≤ pKing b side) && pStruck b (pKing b side) (mOther side)

set_option maxHeartbeats 400000 in
set_option maxRecDepth 100000 in
theorem eye_Check (a : Addr) (b : List Int) (hb : BOk b) (side : Int) (w : World) : Calls Try.prog 21 #[.pointer (some a), .agg (boardC b), .int .i64 side] w fun e w' => e = .returned (.bool (pCheck b side)) ∧ Below w.heap.size w w' := by
  have HZ := Lib.hid (board_info b hb)
  have HG := Lib.hid (heap_alloc_last w (.cells (boardC b) 24))
  have hw := Lib.hid (below_box w (.cells (boardC b) 24))
  have hbox : ∀ w1 : World, Below (w.heap.size + 1) (w.alloc (.cells (boardC b) 24)) w1 → w1.heap[w.heap.size]? = some (.cells (boardC b) 24) := fun w1 h => by
    rw [h.block _ (by omega)]; exact HG.out
  have HX := Lib.hid hbox
  clear hbox
  by_cases g : 0 ≤ pKing b side
  · have E := Lib.hid (show pCheck b side = pStruck b (pKing b side) (mOther side) by unfold pCheck; rw [decide_eq_true g]; rfl)
    have g1 : decide (0 ≤ pKing b side) = true := by simpa using g
    go_enter Try.func21, Try.ntmps21
    go_wp2_with (first
      | (refine load_row rfl 24 _ rfl _ rfl 24 _ (0, 0) _ HG.out Try.underlying24 rfl HZ.out ?_)
      | (go_at_call 46; refine (board_King b hb side _).mono ?_; rintro e w1 ⟨rfl, hb1⟩; have HX1 := Lib.hid (HX.out w1 (by simpa using hb1))))
    go_still_tail 8, (by kernel_rfl)
    refine still_load_row rfl 24 _ rfl _ rfl 24 _ (0, 0) _ HX1.out Try.underlying24 rfl HZ.out ?_
    repeat still_step
    still_call ((men_Other _ _).mono fun e w' h => ⟨h.1, h.2.symm⟩)
    refine wpStill_nil ?_
    change wpList _ _ _ _ _ _
    go_wp2_with (go_at_call 20; refine (eye_Struck a b hb _ _ _).mono ?_; rintro e w2 ⟨rfl, hb2⟩)
    go_ret
    have hsz := hb1.size
    simp at hsz
    exact ⟨re_bool E.out.symm, hw.out.trans ((hb1.mono (by simp)).trans (((Below.refl w.heap.size w1).drew).trans (hb2.mono (by show w.heap.size ≤ w1.heap.size; omega))))⟩
  · have E := Lib.hid (show pCheck b side = false by unfold pCheck; rw [decide_eq_false g]; rfl)
    have g1 : decide (0 ≤ pKing b side) = false := by simpa using g
    go_enter Try.func21, Try.ntmps21
    go_wp2_with (first
      | (refine load_row rfl 24 _ rfl _ rfl 24 _ (0, 0) _ HG.out Try.underlying24 rfl HZ.out ?_)
      | (go_at_call 46; refine (board_King b hb side _).mono ?_; rintro e w1 ⟨rfl, hb1⟩))
    go_quiet (fail)
    go_wp2
    go_ret
    exact ⟨re_bool E.out.symm, hw.out.trans ((hb1.mono (by simp)).trans (Drawn_below w1 nq))⟩
end Go.Proofs.Ytibaembmdcdbkaa
