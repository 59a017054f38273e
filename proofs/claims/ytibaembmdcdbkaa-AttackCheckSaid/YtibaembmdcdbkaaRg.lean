import Derived.Test.YtibaembmdcdbkaaMm
import Derived.OrdersHeld
import Derived.Deep.RegionHeld
import Derived.StillTail
namespace Go.Proofs.Ytibaembmdcdbkaa
open Go.RowKit Alf

/-! A region that draws its order: each operation, WHENEVER it comes up, leaves what is said of it: so does the region. No order is branched over. -/
/-- the frame behind operations that have left u 0, u 1, .. -/
def putAll : List Oper → Nat → (Nat → Value) → Act → Act
  | [], _, _, a => a
  | o :: os, k, u, a => putAll os (k + 1) u (a.put o.dst (u k))
/-- no two operations write the same temporary -/
def apartD : List Oper → Bool
  | [] => true
  | o :: os => (match o.dst with | none => true | some d => os.all fun o' => o'.dst != some d) && apartD os
def upd (u : Nat → Value) (i : Nat) (v : Value) : Nat → Value := fun j => if j = i then v else u j

theorem put_put (a : Act) (d : Option Tmp) (u v : Value) : (a.put d u).put d v = a.put d v := by
  cases d with
  | none => rfl
  | some d => simp [Act.put]
theorem put_self (a : Act) (t : Nat) : a.put (some t) (a.tmps.getD t undef) = a := by
  cases a with
  | mk tm df =>
    simp only [Act.put]
    congr 1
    apply Array.ext_getElem?
    intro i
    rw [Array.getElem?_setIfInBounds]
    split
    · rename_i h
      subst h
      split
      · rename_i h; simp [h]
      · rename_i h; simp at h; simp [h]
    · rfl
theorem putAll_upd_lt (os : List Oper) : ∀ (k : Nat) (u : Nat → Value) (i : Nat) (v : Value) (a : Act), i < k → putAll os k (upd u i v) a = putAll os k u a := by
  induction os with
  | nil => intros; rfl
  | cons o os ih =>
    intro k u i v a h
    unfold putAll
    rw [ih _ _ _ _ _ (by omega)]
    unfold upd
    rw [if_neg (by omega)]
theorem putAll_put (os : List Oper) : ∀ (k : Nat) (u : Nat → Value) (d : Option Tmp) (v : Value) (a : Act), (∀ t, d = some t → ∀ o ∈ os, o.dst ≠ some t) → (putAll os k u a).put d v = putAll os k u (a.put d v) := by
  induction os with
  | nil => intros; rfl
  | cons o os ih =>
    intro k u d v a h
    unfold putAll
    rw [ih _ _ _ _ _ (fun t ht o' ho' => h t ht o' (List.mem_cons_of_mem _ ho'))]
    congr 1
    exact Act.put_comm _ _ _ (fun t e => fun e2 => by
      have := h t e2 o (List.mem_cons_self ..)
      exact this e)
theorem putAll_set (os : List Oper) (ha : apartD os = true) : ∀ (k : Nat) (u : Nat → Value) (j : Nat) (o : Oper) (v : Value) (a : Act), os[j]? = some o → (putAll os k u a).put o.dst v = putAll os k (upd u (k + j) v) a := by
  induction os with
  | nil => intro k u j o v a h; simp at h
  | cons o0 os ih =>
    unfold apartD at ha
    rw [Bool.and_eq_true] at ha
    intro k u j o v a h
    cases j with
    | zero =>
      simp at h
      subst h
      unfold putAll
      rw [putAll_put _ _ _ _ _ _ (fun t e o' ho' => by
        have h1 := ha.1
        rw [e] at h1
        simp only [List.all_eq_true] at h1
        simpa using h1 o' ho'), put_put, Nat.add_zero, putAll_upd_lt _ _ _ _ _ _ (by omega)]
      simp [upd]
    | succ j =>
      simp at h
      unfold putAll
      rw [ih ha.2 (k + 1) u j o v _ h]
      congr 1
      · congr 1; omega
      · unfold upd; rw [if_neg (by omega)]
theorem putAll_id (os : List Oper) : ∀ (k : Nat) (u : Nat → Value) (a : Act), (∀ j o t, os[j]? = some o → o.dst = some t → u (k + j) = a.tmps.getD t undef) → putAll os k u a = a := by
  induction os with
  | nil => intros; rfl
  | cons o os ih =>
    intro k u a h
    unfold putAll
    have e : a.put o.dst (u k) = a := by
      cases q : o.dst with
      | none => rfl
      | some t => rw [show u k = a.tmps.getD t undef from h 0 o t rfl q]; exact put_self a t
    rw [e]
    exact ih _ _ _ (fun j o' t h1 h2 => by rw [← h (j + 1) o' t (by simpa using h1) h2]; congr 1; omega)

def fwd : List Oper → Nat → Bool
  | [], _ => true
  | o :: os, k => o.after.all (fun e => !Region.binds .any e || decide (e.on < k)) && fwd os (k + 1)
theorem fwd_spec (os : List Oper) : ∀ (k : Nat), fwd os k = true → ∀ j o, os[j]? = some o → ∀ e ∈ o.after, Region.binds .any e = true → e.on < k + j := by
  induction os with
  | nil => intro k _ j o h; simp at h
  | cons o0 os ih =>
    intro k hf j o h e he hbd
    unfold fwd at hf
    rw [Bool.and_eq_true] at hf
    cases j with
    | zero =>
      simp at h
      subst h
      simpa [hbd] using Array.all_eq_true_iff_forall_mem.1 hf.1 e he
    | succ j => have := ih _ hf.2 j o (by simpa using h) e he hbd; omega

section
variable {P : Program} {ops : Array Oper} {Q : Exit → Act → World → Prop}

theorem wpAny_spec (S : World → Prop) (L : World → World → Prop) (R : Nat → Value → World → Prop) (a0 : Act) (hR : ∀ j v w w', R j v w → L w w' → R j v w')
    (hd : apartD ops.toList = true) (hf : fwd ops.toList 0 = true)
    (hop : ∀ i o, ops[i]? = some o → ∀ u w, S w → (∀ e ∈ o.after, Region.binds .any e = true → R e.on (u e.on) w) → wpOp P ops Q i (fun a' w' => ∃ v, a' = (putAll ops.toList 0 u a0).put o.dst v ∧ S w' ∧ L w w' ∧ R i v w') (putAll ops.toList 0 u a0) w)
    (hend : ∀ u w, S w → (∀ j, j < ops.size → R j (u j) w) → Q .normal (putAll ops.toList 0 u a0) w) :
    ∀ (fuel : Nat) (listed : Array Bool) (u : Nat → Value) (w : World), listed.size = ops.size → listed.count false = fuel → S w → (∀ j, listed.getD j false = true → R j (u j) w) →
      wpAny P .any ops Q fuel listed (putAll ops.toList 0 u a0) w := by
  intro fuel
  induction fuel with
  | zero =>
    intro listed u w hs hc hS hl
    have hall : ∀ j, j < ops.size → listed.getD j false = true := fun j hj => by
      have hj' : j < listed.size := by omega
      have := Array.count_eq_zero.1 hc
      cases q : listed.getD j false
      · exfalso
        apply this
        rw [Array.mem_iff_getElem]
        exact ⟨j, hj', by simpa [hj'] using q⟩
      · rfl
    refine ⟨?_, hend u w hS (fun j hj => hl j (hall j hj))⟩
    rw [List.eq_nil_iff_forall_not_mem]
    intro j hj
    obtain ⟨h0, o, ho, _⟩ := mem_ready.1 hj
    have hj := (Array.getElem?_eq_some_iff.1 ho).1
    have := hall j hj
    have hj' : j < listed.size := by omega
    simp [hj'] at h0 this
    rw [h0] at this
    cases this
  | succ fuel ih =>
    intro listed u w hs hc hS hl
    refine ⟨fun h0 => ?_, fun i hi => ?_⟩
    · exfalso
      have hall : ∀ n j, j < n → j < ops.size → listed.getD j false = true := by
        intro n
        induction n with
        | zero => intro j h; omega
        | succ n ihn =>
          intro j h1 h2
          by_cases q : j < n
          · exact ihn j q h2
          · cases q2 : listed.getD j false
            · exfalso
              have hj' : j < listed.size := by omega
              have hmem : j ∈ Region.ready .any ops listed := by
                rw [mem_ready]
                refine ⟨by simpa [hj'] using q2, ops[j], Array.getElem?_eq_getElem h2, fun e he hbd => ?_⟩
                have := fwd_spec _ _ hf j ops[j] (by simp [h2]) e he hbd
                exact ihn e.on (by omega) (by omega)
              rw [h0] at hmem
              cases hmem
            · rfl
      have hz : listed.count false = 0 := by
        rw [Array.count_eq_zero]
        intro hm
        obtain ⟨j, hj, e⟩ := Array.mem_iff_getElem.1 hm
        have := hall (j + 1) j (by omega) (by omega)
        simp [hj] at this
        rw [this] at e
        cases e
      omega
    · obtain ⟨h0, o, ho, hdep⟩ := mem_ready.1 hi
      have hio := (Array.getElem?_eq_some_iff.1 ho).1
      have hil : i < listed.size := by omega
      refine wpOp_mono ?_ (hop i o ho u w hS (fun e he hb => hl _ (hdep e he hb)))
      rintro a' w' ⟨v, rfl, hS', hL, hRv⟩
      have hset := putAll_set ops.toList hd 0 u i o v a0 (by simpa using ho)
      rw [Nat.zero_add] at hset
      rw [hset]
      refine ih _ _ _ (by simpa using hs) ?_ hS' ?_
      · have e1 : listed.setIfInBounds i true = listed.set i true hil := by simp [Array.setIfInBounds, hil]
        rw [e1, Array.count_set]
        have e2 : listed[i] = false := by simpa [hil] using h0
        simp [e2]
        omega
      · intro j hj
        unfold upd
        by_cases q : j = i
        · subst q; rw [if_pos rfl]; exact hRv
        · rw [if_neg q]
          rw [getD_set_ne _ (Ne.symm q)] at hj
          exact hR _ _ _ _ (hl j hj) hL

/-- what is said of what an operation leaves -/
inductive Sp
  | val (x : Value)
  | own (B : Nat) (xs : List Int)
  | ptr
  | lies (B : Nat) (o : Obj)
  | free
def Sp.holds : Sp → Value → World → Prop
  | .val x, v, _ => v = x
  | .own B xs, v, w => ∃ A cap, v = .slice A xs.length cap ∧ Own B (.slice A xs.length cap) xs w
  | .ptr, v, _ => ∃ a, v = .pointer (some a)
  | .lies B o, v, w => ∃ g, v = .pointer (some ⟨g, 0, none⟩) ∧ B ≤ g ∧ w.heap[g]? = some o
  | .free, _, _ => True
theorem Sp.kept {s : Sp} {v : Value} {w w' : World} (h : s.holds v w) (hb : Below w.heap.size w w') : s.holds v w' := by
  cases s with
  | val x => exact h
  | own B xs => obtain ⟨A, cap, e, ho⟩ := h; exact ⟨A, cap, e, ho.below hb⟩
  | ptr => exact h
  | lies B o => obtain ⟨g, e, hB, ho⟩ := h; exact ⟨g, e, hB, by rw [hb.block g (Array.getElem?_eq_some_iff.1 ho).1]; exact ho⟩
  | free => trivial
def Sp.at : List Sp → Nat → Sp
  | [], _ => .free
  | s :: _, 0 => s
  | _ :: ss, k + 1 => Sp.at ss k
/-- what is known of the operations that an operation waits for -/
def Deps (sp : List Sp) (u : Nat → Value) (w : World) : List Edge → Prop
  | [] => True
  | e :: es => (Region.binds .any e = true → (Sp.at sp e.on).holds (u e.on) w) ∧ Deps sp u w es
theorem deps_of {sp : List Sp} {u : Nat → Value} {w : World} (es : List Edge) (h : ∀ e ∈ es, Region.binds .any e = true → (Sp.at sp e.on).holds (u e.on) w) : Deps sp u w es := by
  induction es with
  | nil => trivial
  | cons e es ih => exact ⟨h e (List.mem_cons_self ..), ih (fun e he => h e (List.mem_cons_of_mem _ he))⟩
/-- all the operations' duties; F u: the frame in which the operations have left u 0, u 1, .. -/
def Ops (P : Program) (ops : Array Oper) (Q : Exit → Act → World → Prop) (S : World → Prop) (sp : List Sp) (F : (Nat → Value) → Act) : Nat → List Oper → Prop
  | _, [] => True
  | k, o :: os => (∀ (u : Nat → Value) (w : World) (K : Act → World → Prop), S w → Deps sp u w o.after.toList → Shut (∀ v w', Below w.heap.size w w' → (Sp.at sp k).holds v w' → K ((F u).put o.dst v) w') →
      if Region.wanted o (yielded ops (F u).tmps) = true then Oper.wp P o (F u) w K Q else K ((F u).put o.dst undef) w) ∧ Ops P ops Q S sp F (k + 1) os
theorem Ops.nil {S : World → Prop} {sp : List Sp} {F : (Nat → Value) → Act} {k : Nat} : Ops P ops Q S sp F k [] := trivial
theorem Ops.cons {S : World → Prop} {sp : List Sp} {F : (Nat → Value) → Act} {k : Nat} {o : Oper} {os : List Oper} (h : ∀ (u : Nat → Value) (w : World) (K : Act → World → Prop), S w → Deps sp u w o.after.toList → Shut (∀ v w', Below w.heap.size w w' → (Sp.at sp k).holds v w' → K ((F u).put o.dst v) w') →
      if Region.wanted o (yielded ops (F u).tmps) = true then Oper.wp P o (F u) w K Q else K ((F u).put o.dst undef) w) (hs : Ops P ops Q S sp F (k + 1) os) : Ops P ops Q S sp F k (o :: os) := ⟨h, hs⟩
theorem Ops.at {S : World → Prop} {sp : List Sp} {F : (Nat → Value) → Act} (os : List Oper) : ∀ (k : Nat), Ops P ops Q S sp F k os → ∀ j o, os[j]? = some o → ∀ (u : Nat → Value) (w : World) (K : Act → World → Prop), S w → Deps sp u w o.after.toList → Shut (∀ v w', Below w.heap.size w w' → (Sp.at sp (k + j)).holds v w' → K ((F u).put o.dst v) w') →
      if Region.wanted o (yielded ops (F u).tmps) = true then Oper.wp P o (F u) w K Q else K ((F u).put o.dst undef) w := by
  induction os with
  | nil => intro k _ j o h; simp at h
  | cons o0 os ih =>
    intro k h j o ho
    cases j with
    | zero => simp at ho; subst ho; exact h.1
    | succ j =>
      have := ih (k + 1) h.2 j o (by simpa using ho)
      rw [show k + 1 + j = k + (j + 1) by omega] at this
      exact this
/-- an operation that yields its value and leaves the world -/
theorem sp_load {o : Oper} {a : Act} {w : World} {K : Act → World → Prop} (ty : TypeId) (x : Operand) (ho : o.op = .load ty x) (hw : Region.wanted o (yielded ops a.tmps) = true)
    (g : Nat) (hx : a.eval x = .pointer (some ⟨g, 0, none⟩)) (t : TypeId) (cs : Array Value) (fr : Nat × Nat) (d : TypeDesc) (hg : w.heap[g]? = some (.cells cs t fr))
    (hu : P.underlying ty = some d) (hd : (match d with | .struct _ | .array _ _ => true | _ => false) = true) (hi : (P.info? ty).map (·.size) = some cs.size)
    (h : K (a.put o.dst (.agg cs)) w) : if Region.wanted o (yielded ops a.tmps) = true then Oper.wp P o a w K Q else K (a.put o.dst undef) w := by
  rw [if_pos hw]
  exact wp_load_row ty x ho g hx t cs fr d hg hu hd hi h
def AllSp (u : Nat → Value) (w : World) : Nat → List Sp → Prop
  | _, [] => True
  | k, s :: ss => s.holds (u k) w ∧ AllSp u w (k + 1) ss
theorem allSp_of {u : Nat → Value} {w : World} (n : Nat) (sp : List Sp) : ∀ k, k + sp.length ≤ n → (∀ j, k ≤ j → j < n → (Sp.at sp (j - k)).holds (u j) w) → AllSp u w k sp := by
  induction sp with
  | nil => intros; trivial
  | cons s ss ih =>
    intro k hk h
    simp at hk
    refine ⟨?_, ih (k + 1) (by omega) (fun j h1 h2 => ?_)⟩
    · have := h k (Nat.le_refl _) (by omega)
      rw [Nat.sub_self] at this
      exact this
    · have := h j (by omega) h2
      rw [show j - k = (j - (k + 1)) + 1 by omega] at this
      exact this

theorem wp_region_sp {id : Nat} {a0 : Act} {w0 : World} (S : World → Prop) (sp : List Sp) (F : (Nat → Value) → Act) (hF : ∀ u, putAll ops.toList 0 u a0 = F u) (hm : P.follows .mixedOrders = true) (hd : apartD ops.toList = true) (hf : fwd ops.toList 0 = true) (hlen : decide (sp.length ≤ ops.size) = true)
    (hS0 : S w0.drew) (hS : ∀ w w', S w → Below w.heap.size w w' → S w') (hops : Ops P ops Q S sp F 0 ops.toList)
    (hend : ∀ u w, S w → AllSp u w 0 sp → Q .normal (F u) w) : (Code.region id ops true).wp P Q a0 w0 := by
  refine wp_region_any hm ?_
  have hinit := putAll_id ops.toList 0 (fun j => match ops[j]? with | some o => (match o.dst with | some t => a0.tmps.getD t undef | none => undef) | none => undef) a0 (fun j o t h1 h2 => by
    rw [Nat.zero_add]
    have : ops[j]? = some o := by simpa using h1
    simp only [this, h2])
  have := wpAny_spec (P := P) (ops := ops) (Q := Q) S (fun w w' => Below w.heap.size w w') (fun j => (Sp.at sp j).holds) a0 (fun j v w w' h hb => Sp.kept h hb) hd hf ?_ ?_ ops.size (Array.replicate ops.size false)
    (fun j => match ops[j]? with | some o => (match o.dst with | some t => a0.tmps.getD t undef | none => undef) | none => undef) w0.drew (by simp) (by simp) hS0 ?_
  · rw [hinit] at this
    exact this
  · intro i o ho u w hSw hdep
    refine wpOp_step ho (fun K hK => ?_)
    rw [hF]
    exact Ops.at ops.toList 0 hops i o (by simpa using ho) u w K hSw (deps_of _ (fun e he => hdep e (by simpa using he))) (fun v w' hb hh => hK _ _ ⟨v, by rw [hF], hS _ _ hSw hb, hb, by rw [Nat.zero_add] at hh; exact hh⟩)
  · intro u w hSw hall
    rw [hF]
    exact hend u w hSw (allSp_of ops.size sp 0 (by simpa using hlen) (fun j _ h2 => by rw [Nat.sub_zero]; exact hall j h2))
  · intro j hj
    exfalso
    by_cases q : j < ops.size
    · simp [q] at hj
    · simp [q] at hj
theorem count_cut (l : List Bool) (n : Nat) : l.count false = (l.take n).count false + (l.drop n).count false := by
  rw [← List.count_append, List.take_append_drop]

/-- the same for the first n operations; the others, that wait for all of them and for one another, come behind them in their order -/
theorem wpAny_specT (S : World → Prop) (L : World → World → Prop) (R : Nat → Value → World → Prop) (l : List Oper) (n : Nat) (a0 : Act) (hR : ∀ j v w w', R j v w → L w w' → R j v w') (hn : n < l.length)
    (hd : apartD (l.take n) = true) (hf : fwd l 0 = true) (hsink : Region.sinkB .any l.toArray n = true) (hchain : Region.chainB .any l.toArray n = true) (hseq : Region.seqB .any l.toArray (l.length - n) n (List.replicate n true ++ List.replicate (l.length - n) false).toArray = true)
    (hop : ∀ i o, (l.take n)[i]? = some o → ∀ u w, S w → (∀ e ∈ o.after, Region.binds .any e = true → R e.on (u e.on) w) → wpOp P l.toArray Q i (fun a' w' => ∃ v, a' = (putAll (l.take n) 0 u a0).put o.dst v ∧ S w' ∧ L w w' ∧ R i v w') (putAll (l.take n) 0 u a0) w)
    (hend : ∀ u w, S w → (∀ j, j < n → R j (u j) w) → wpList P l.toArray Q (l.drop n) (putAll (l.take n) 0 u a0) w) :
    ∀ (f : Nat) (listed : Array Bool) (u : Nat → Value) (w : World), HeadInv .any l.toArray n listed → listed.count false = f + (l.length - n) → S w → (∀ j, listed.getD j false = true → R j (u j) w) →
      wpAny P .any l.toArray Q (f + (l.length - n)) listed (putAll (l.take n) 0 u a0) w := by
  intro f
  have hcnt : ∀ listed : Array Bool, HeadInv .any l.toArray n listed → listed.count false = (listed.toList.take n).count false + (l.length - n) := by
    intro listed inv
    have hsz := inv.size
    simp at hsz
    rw [← Array.count_toList, count_cut _ n]
    congr 1
    have : listed.toList.drop n = List.replicate (l.length - n) false := by
      apply List.ext_getElem?
      intro j
      rw [List.getElem?_drop, List.getElem?_replicate]
      by_cases q : j < l.length - n
      · rw [if_pos q]
        have := inv.tail (n + j) (by omega) (by simp; omega)
        have hj : n + j < listed.size := by omega
        simp [hj] at this
        simp [hj, this]
      · rw [if_neg q]
        simp; omega
    rw [this]
    simp
  induction f with
  | zero =>
    intro listed u w inv hc hS hl
    have hsz := inv.size
    simp at hsz
    have h0 : (listed.toList.take n).count false = 0 := by have := hcnt listed inv; omega
    have hhead : ∀ j, j < n → listed.getD j false = true := fun j hj => by
      have hj' : j < listed.size := by omega
      cases q : listed.getD j false
      · exfalso
        apply List.count_eq_zero.1 h0
        rw [List.mem_iff_getElem]
        exact ⟨j, by simp; omega, by simpa [hj'] using q⟩
      · rfl
    have hlisted : listed = (List.replicate n true ++ List.replicate (l.length - n) false).toArray := by
      apply Array.ext_getElem?
      intro j
      simp only [List.getElem?_toArray]
      by_cases q : j < n
      · rw [List.getElem?_append_left (by simpa using q)]
        have := hhead j q
        have hj' : j < listed.size := by omega
        simp [hj'] at this
        simp [hj', q, this]
      · rw [List.getElem?_append_right (by simpa using q)]
        by_cases q2 : j < l.length
        · have := inv.tail j (by omega) (by simpa using q2)
          have hj' : j < listed.size := by omega
          simp [hj'] at this
          simp [hj', this, List.getElem?_replicate]; omega
        · rw [Array.getElem?_eq_none (by omega), List.getElem?_replicate, if_neg (by simp only [List.length_replicate]; omega)]
    have hw := hend u w hS (fun j hj => hl j (hhead j hj))
    subst hlisted
    have := wpAny_of_seq (P := P) (md := .any) (ops := l.toArray) (Q' := Q) (l.drop n) n _ _ w (fun j => by simp [List.getElem?_drop]) (by rw [List.length_drop]; exact hseq) hw
    rw [List.length_drop] at this
    rw [Nat.zero_add]
    exact this
  | succ f ih =>
    intro listed u w inv hc hS hl
    have hsz := inv.size
    simp at hsz
    have hex : ∃ i, i < n ∧ listed.getD i true = false := by
      have h0 : 0 < (listed.toList.take n).count false := by have := hcnt listed inv; omega
      have hm := List.count_pos_iff.1 h0
      obtain ⟨j, hj, e⟩ := List.mem_iff_getElem.1 hm
      simp at hj
      refine ⟨j, by omega, ?_⟩
      have hj' : j < listed.size := by omega
      simpa [hj'] using e
    obtain ⟨i0, hi0, hu0⟩ := hex
    have hlt : ∀ t ∈ Region.ready .any l.toArray listed, t < n := fun t ht => by
      rcases Nat.lt_or_ge t n with h | h
      · exact h
      · exact absurd ht (tail_waits hsink hchain (by simpa using hn) inv _ i0 rfl hi0 hu0 t h)
    rw [show f + 1 + (l.length - n) = (f + (l.length - n)) + 1 by omega]
    refine ⟨fun h0 => ?_, fun i hi => ?_⟩
    · exfalso
      have hall : ∀ m j, j < m → j < l.length → listed.getD j false = true := by
        intro m
        induction m with
        | zero => intro j h; omega
        | succ m ihm =>
          intro j h1 h2
          by_cases q : j < m
          · exact ihm j q h2
          · cases q2 : listed.getD j false
            · exfalso
              have hj' : j < listed.size := by omega
              have hmem : j ∈ Region.ready .any l.toArray listed := by
                rw [mem_ready]
                refine ⟨by simpa [hj'] using q2, l[j], by simp [h2], fun e he hbd => ?_⟩
                have := fwd_spec _ _ hf j l[j] (by simp [h2]) e he hbd
                exact ihm e.on (by omega) (by omega)
              rw [h0] at hmem
              cases hmem
            · rfl
      have := hall (i0 + 1) i0 (by omega) (by omega)
      have hj' : i0 < listed.size := by omega
      simp [hj'] at this hu0
      rw [hu0] at this
      cases this
    · have hin := hlt i hi
      obtain ⟨h0, o, ho, hdep⟩ := mem_ready.1 hi
      have hio : i < l.length := by have := (Array.getElem?_eq_some_iff.1 ho).1; simpa using this
      have hil : i < listed.size := by omega
      have hoh : (l.take n)[i]? = some o := by rw [List.getElem?_take, if_pos hin]; simpa using ho
      refine wpOp_mono ?_ (hop i o hoh u w hS (fun e he hb => hl _ (hdep e he hb)))
      rintro a' w' ⟨v, rfl, hS', hL, hRv⟩
      have hset := putAll_set (l.take n) hd 0 u i o v a0 hoh
      rw [Nat.zero_add] at hset
      rw [hset]
      refine ih _ _ _ (inv.set hi hin) ?_ hS' ?_
      · have e1 : listed.setIfInBounds i true = listed.set i true hil := by simp [Array.setIfInBounds, hil]
        rw [e1, Array.count_set]
        have e2 : listed[i] = false := by simpa [hil] using h0
        simp [e2]
        omega
      · intro j hj
        unfold upd
        by_cases q : j = i
        · subst q; rw [if_pos rfl]; exact hRv
        · rw [if_neg q]
          rw [getD_set_ne _ (Ne.symm q)] at hj
          exact hR _ _ _ _ (hl j hj) hL

def tailB (l : List Oper) (n : Nat) : Bool :=
  decide (n < l.length) && apartD (l.take n) && fwd l 0 && Region.sinkB .any l.toArray n && Region.chainB .any l.toArray n && Region.seqB .any l.toArray (l.length - n) n (List.replicate n true ++ List.replicate (l.length - n) false).toArray
theorem wp_region_tail {id : Nat} {a0 : Act} {w0 : World} {l : List Oper} (n : Nat) (S : World → Prop) (sp : List Sp) (F : (Nat → Value) → Act) (hF : ∀ u, putAll (l.take n) 0 u a0 = F u) (hm : P.follows .mixedOrders = true) (hB : tailB l n = true) (hlen : decide (sp.length ≤ n) = true)
    (hS0 : S w0.drew) (hS : ∀ w w', S w → Below w.heap.size w w' → S w') (hops : Ops P l.toArray Q S sp F 0 (l.take n))
    (hend : ∀ u w, S w → AllSp u w 0 sp → wpList P l.toArray Q (l.drop n) (F u) w) : (Code.region id l.toArray true).wp P Q a0 w0 := by
  unfold tailB at hB
  simp only [Bool.and_eq_true, decide_eq_true_eq] at hB
  obtain ⟨⟨⟨⟨⟨hn, hd⟩, hf⟩, hs⟩, hc⟩, hq⟩ := hB
  refine wp_region_any hm ?_
  have hinit := putAll_id (l.take n) 0 (fun j => match (l.take n)[j]? with | some o => (match o.dst with | some t => a0.tmps.getD t undef | none => undef) | none => undef) a0 (fun j o t h1 h2 => by
    rw [Nat.zero_add]
    simp only [h1, h2])
  have inv0 : HeadInv .any l.toArray n (Array.replicate l.toArray.size false) :=
    ⟨by simp, fun j oj _ hl => (by rw [getD_replicate_false] at hl; cases hl), fun t _ ht => getD_in (by simpa using ht) (getD_replicate_false _ _)⟩
  have := wpAny_specT (P := P) (Q := Q) S (fun w w' => Below w.heap.size w w') (fun j => (Sp.at sp j).holds) l n a0 (fun j v w w' h hb => Sp.kept h hb) hn hd hf hs hc hq ?_ ?_ n (Array.replicate l.toArray.size false)
    (fun j => match (l.take n)[j]? with | some o => (match o.dst with | some t => a0.tmps.getD t undef | none => undef) | none => undef) w0.drew inv0 (by simp; omega) hS0 ?_
  · rw [hinit, show n + (l.length - n) = l.toArray.size by simp; omega] at this
    exact this
  · intro i o ho u w hSw hdep
    have ho' : l.toArray[i]? = some o := by
      rw [List.getElem?_take] at ho
      split at ho
      · simpa using ho
      · cases ho
    refine wpOp_step ho' (fun K hK => ?_)
    rw [hF]
    exact Ops.at (l.take n) 0 hops i o ho u w K hSw (deps_of _ (fun e he => hdep e (by simpa using he))) (fun v w' hb hh => hK _ _ ⟨v, by rw [hF], hS _ _ hSw hb, hb, by rw [Nat.zero_add] at hh; exact hh⟩)
  · intro u w hSw hall
    rw [hF]
    exact hend u w hSw (allSp_of n sp 0 (by simpa using hlen) (fun j _ h2 => by rw [Nat.sub_zero]; exact hall j h2))
  · intro j hj
    rw [getD_replicate_false] at hj
    cases hj
end
end Go.Proofs.Ytibaembmdcdbkaa
