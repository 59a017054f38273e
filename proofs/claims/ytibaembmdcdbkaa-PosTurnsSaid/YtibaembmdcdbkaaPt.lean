import Derived.Test.YtibaembmdcdbkaaPk
namespace Go.Proofs.Ytibaembmdcdbkaa
open Go.RowKit Alf

/-! touch -/
def touchB (b : List Int) : Bool := decide (farI (pKing b 0) (pKing b 1) ≤ 1)
set_option maxHeartbeats 800000 in
set_option maxRecDepth 100000 in
theorem pos_touch (b : List Int) (hb : BOk b) (t c e : Int) (w : World) : Calls Try.prog 55 #[.agg (posC b t c e)] w fun x w' => x = .returned (.bool (touchB b)) ∧ Below w.heap.size w w' := by
  have HA := Lib.hid (Lies.start w (posO b t c e))
  have HB := Lib.hid hb
  have E := Lib.hid (show touchB b = decide (farI (pKing b 0) (pKing b 1) ≤ 1) from rfl)
  clear hb
  go_enter Try.func55, Try.ntmps55
  go_wp2_with fail
  refine wp_region_sp (fun w' => Lies w (posO b t c e) w') [.val (.pointer (some ⟨w.heap.size, 0, none⟩)), .val (.agg (boardC b)), .val (.int .i64 (pKing b 0)), .val (.pointer (some ⟨w.heap.size, 0, none⟩)), .val (.agg (boardC b)), .val (.int .i64 (pKing b 1)), .val (.int .i64 (farI (pKing b 0) (pKing b 1))), .val (.bool (decide (farI (pKing b 0) (pKing b 1) ≤ 1))), .val (.bool (decide (farI (pKing b 0) (pKing b 1) ≤ 1)))] _
    (fun u => by simp only [putAll, Nat.reduceAdd, Act.put, List.setIfInBounds_toArray, List.set_cons_zero, List.set_cons_succ]; exact rfl) (by kernel_rfl) (by kernel_rfl) (by kernel_rfl) (by kernel_rfl)
    (HA.out.step ((Below.refl _ _).drew)) (fun _ _ hs hs' => hs.step hs') ?_ ?_
  · repeat' (first | exact Ops.nil | refine Ops.cons (fun u w2 K hS hd hK => ?_) ?_)
    all_goals (simp only [Deps, Sp.at, Sp.holds, Region.binds, true_implies, and_true] at hd hK)
    all_goals first
      | (refine sp_at _ rfl (by first | rfl | (simp only [hd]; rfl)) w.heap.size _ rfl (by simp only [hd]; rfl) b t c e HB.out hS.obj ?_; exact hK.out _ _ (Below.refl _ _) rfl)
      | (try simp only [hd] at hK ⊢
         go_simp
         first
           | exact hK.out _ _ (Below.refl _ _) rfl
           | (go_at_call 46; refine (board_King b HB.out _ _).mono ?_; rintro x w3 ⟨rfl, hb3⟩; exact hK.out _ _ hb3 rfl)
           | (go_at_call 86; refine (sq_Far _ _ _).mono ?_; rintro x w3 ⟨rfl, rfl⟩; exact hK.out _ _ (Below.refl _ _) rfl))
  · intro u w2 hS hall
    simp only [AllSp, Sp.holds, and_true, Nat.reduceAdd] at hall
    simp only [hall]
    go_wp2
    go_ret
    exact ⟨re_bool E.out.symm, hS.below⟩

/-! the square of the pawn that went two squares -/
def passI (b : List Int) (t e : Int) : Int :=
  if e < 0 ∨ 63 < e then -1
  else if t = 0 ∧ e / 8 = 5 ∧ bd b e = 0 ∧ bd b (e + 8) = 0 ∧ bd b (e - 8) = -1 then e - 8
  else if t = 1 ∧ e / 8 = 2 ∧ bd b e = 0 ∧ bd b (e - 8) = 0 ∧ bd b (e + 8) = 1 then e + 8
  else -1
theorem passI_nat (b : List Int) (t : Int) (n : Nat) (hn : n < 64) : passI b t n = if t = 0 ∧ n / 8 = 5 ∧ bd b n = 0 ∧ bd b ((n + 8 : Nat) : Int) = 0 ∧ bd b ((n - 8 : Nat) : Int) = -1 then ((n - 8 : Nat) : Int) else if t = 1 ∧ n / 8 = 2 ∧ bd b n = 0 ∧ bd b ((n - 8 : Nat) : Int) = 0 ∧ bd b ((n + 8 : Nat) : Int) = 1 then ((n + 8 : Nat) : Int) else -1 := by
  unfold passI
  rw [if_neg (by omega)]
  by_cases h5 : n / 8 = 5
  · have e1 : ((n : Int) / 8 = 5) := by omega
    have e2 : ((n : Int) - 8) = ((n - 8 : Nat) : Int) := by omega
    have e3 : ((n : Int) + 8) = ((n + 8 : Nat) : Int) := by omega
    simp only [e1, e2, e3, h5]
    simp
  · by_cases h2 : n / 8 = 2
    · have e2 : ((n : Int) - 8) = ((n - 8 : Nat) : Int) := by omega
      have e3 : ((n : Int) + 8) = ((n + 8 : Nat) : Int) := by omega
      have e4 : ((n : Int) / 8 = 2) := by omega
      simp only [e2, e3, e4, h2]
      simp
    · have e1 : ¬ ((n : Int) / 8 = 5) := by omega
      have e4 : ¬ ((n : Int) / 8 = 2) := by omega
      simp [e1, e4, h5, h2]
end Go.Proofs.Ytibaembmdcdbkaa
