import Derived.Test.YtibaembmdcdbkaaRb
namespace Go.Proofs.Ytibaembmdcdbkaa
open Go.RowKit Alf

/-! castles, touch -/
def castP (b : List Int) (c : Int) (h : Home) : Bool := !(hasR c h.right && !(backedB b h.right))
def castB (b : List Int) (c : Int) : Bool := homesL.all (castP b c)
theorem and_has : ∀ c : Fin 16, ∀ h ∈ homesL.map (·.right), (bits .and .i64 ((c.val : Nat) : Int) h != 0) = hasR ((c.val : Nat) : Int) h := by decide +kernel
theorem home_right {k : Nat} {h : Home} (hh : homesL[k]? = some h) : h.right ∈ homesL.map (·.right) := List.mem_map_of_mem (List.mem_of_getElem? hh)

set_option maxHeartbeats 1600000 in
set_option maxRecDepth 100000 in
theorem pos_castles (b : List Int) (hb : BOk b) (t c e : Int) (c0 : 0 ≤ c) (c15 : c ≤ 15) (w : World) : Calls Try.prog 56 #[.agg (posC b t c e)] w fun x w' => x = .returned (.bool (castB b c)) ∧ Below w.heap.size w w' := by
  have HA := Lib.hid (Lies.start w (posO b t c e))
  have HB := Lib.hid hb
  have HZ := Lib.hid (pos_info b hb t c e)
  have HC := Lib.hid (show ∀ h ∈ homesL.map (·.right), (bits .and .i64 c h != 0) = hasR c h by
    obtain ⟨n, rfl⟩ := Int.eq_ofNat_of_zero_le c0
    exact and_has ⟨n, by omega⟩)
  go_enter Try.func56, Try.ntmps56
  go_wp2_with (go_at_call 63; refine (pos_homes _).mono ?_; rintro x w1 ⟨rfl, hb1⟩; have HA := Lib.hid (HA.out.step hb1))
  clear hb1 hb c0 c15
  go_loopg [6] 4 (fun m kv wr => ∃ k : Nat, k + m = 4 ∧ kv = .int .i64 k ∧ Lies w (posO b t c e) wr ∧ ∀ (j : Nat) (h' : Home), j < k → homesL[j]? = some h' → castP b c h' = true)
  case atStart => exact ⟨0, by omega, rfl, HA.out, fun j h' hj => by omega⟩
  case round =>
    obtain ⟨k, hk, rfl, hA, hno⟩ := hrel
    have HA := Lib.hid hA
    have HN := Lib.hid hno
    have HK := Lib.hid hk
    clear hA hno
    by_cases g0 : gk = 0
    · obtain rfl : k = 4 := by omega
      have E := Lib.hid (show castB b c = true by
        unfold castB
        rw [List.all_eq_true]
        intro h hm
        obtain ⟨j, hj, e⟩ := List.mem_iff_getElem.1 hm
        exact HN.out j h (by simpa [homesL] using hj) (by rw [List.getElem?_eq_getElem hj, e]))
      clear hk g0
      go_wp2
      go_ret
      exact ⟨re_bool E.out.symm, HA.out.below⟩
    · have q : decide ((k : Int) < 4) = true := by simp; omega
      have hk2 : k < 4 := by omega
      obtain ⟨h, hh⟩ : ∃ h, homesL[k]? = some h := ⟨_, List.getElem?_eq_getElem (by simp [homesL]; omega)⟩
      have hi := home_index k h hh
      have HH := Lib.hid hh
      have HG := Lib.hid g0
      have hand := HC.out h.right (home_right hh)
      have HA2 := Lib.hid (HA.out.step (below_box wr (homeO h)))
      obtain ⟨_, hcc, _⟩ := lies_pos HB.out HA2.out
      have hnext : castP b c h = true → ∀ (j : Nat) (h' : Home), j < k + 1 → homesL[j]? = some h' → castP b c h' = true := fun hp j h' hj hj2 => by
        by_cases e : j = k
        · subst e
          have := HH.out.symm.trans hj2
          injection this with this
          rw [← this]; exact hp
        · exact HN.out j h' (by omega) hj2
      have HX := Lib.hid hnext
      clear hk g0 hh hnext
      cases r : hasR c h.right
      · have HP := Lib.hid (show castP b c h = true by unfold castP; rw [r]; rfl)
        rw [r] at hand
        go_wp2
        go_roundg (gk - 1)
        case measure => have := HG.out; omega
        case rel => exact ⟨k + 1, by have := HK.out; have := HG.out; omega, by go_num, HA2.out, HX.out HP.out⟩
      · rw [r] at hand
        cases r2 : backedB b h.right
        · have E := Lib.hid (show castB b c = false by
            unfold castB
            rw [List.all_eq_false]
            exact ⟨h, List.mem_of_getElem? HH.out, by unfold castP; rw [r, r2]; simp⟩)
          go_wp2_with (first
            | (refine load_row rfl 37 _ rfl _ rfl 37 _ (0, 0) _ HA2.out.obj Try.underlying37 rfl HZ.out ?_)
            | (go_at_call 29; refine (pos_Backed b HB.out t c e _ _).mono ?_; rw [r2]; rintro x w2 ⟨rfl, hb2⟩))
          go_ret
          exact ⟨re_bool E.out.symm, (HA2.out.step hb2).below⟩
        · have HP := Lib.hid (show castP b c h = true by unfold castP; rw [r, r2]; rfl)
          go_wp2_with (first
            | (refine load_row rfl 37 _ rfl _ rfl 37 _ (0, 0) _ HA2.out.obj Try.underlying37 rfl HZ.out ?_)
            | (go_at_call 29; refine (pos_Backed b HB.out t c e _ _).mono ?_; rw [r2]; rintro x w2 ⟨rfl, hb2⟩))
          go_roundg (gk - 1)
          case measure => have := HG.out; omega
          case rel => exact ⟨k + 1, by have := HK.out; have := HG.out; omega, by go_num, HA2.out.step hb2, HX.out HP.out⟩
end Go.Proofs.Ytibaembmdcdbkaa
