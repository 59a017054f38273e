/-
  No cell of these rows narrows 'for every input' (looked for: loops, veiled, ifaces, maps, wideKeys, modest, calm, conditions, laid).
  DERIVED. THE GIVEN ROWS OF THIS SEAT. 9 by the template 'for every input the law returns true; each argument reads behind the call as it read before'; 0 by the template 'total and deterministic' (their statements: YtibaembmdcdbkaaTotals.lean).
  GIVEN WITH THE SEED: the statements are not yours to turn. If you find one false, say at which input.
  Laid BY PROGRAM, IN A SANDBOX (cutbox-rows.mjs): the forced cells as the released guide's own fill.sh prints them over the translation 6db3d0b456bf385e… (all of the seat's roots in one cut). By AI agents, Wed Nov 11 2026. No macro, syntax, notation, axiom, sorry.
-/
import Derived.Test.YtibaembmdcdbkaaChecked
import GoSem.Claim
import GoSem.ClaimJoined
import GoSem.ClaimMapViews
import Derived.JoinedTies
import Derived.KernelRfl
namespace Go.Proofs.Ytibaembmdcdbkaa
/- THE CELL 'sum', in the pinned program and in every row, IS THE sha256 OF THE DUMP (.gsa) THAT YtibaembmdcdbkaaProg.lean LOADS. Nothing in Lean hashes anything: it is a label: what it is worth is what the hold of that sum in a sandbox is worth. -/
noncomputable def Try.pinned : Pinned := { name := "ytibaembmdcdbkaa", sum := "6db3d0b456bf385e3671433e8704a594d71caae97f2dff04c05b4478382ab22d", checked := Try.checked }
namespace Rows
def none {H : Type} : Left H := { results := [], args := [] }

/-- 'alfillaw07.AttackBoth': WHATEVER THE INPUT: true; the input reads as it did. -/
def attackBothSpec : ChangeSpec := { name := "attackBoth", fn := fun _ => fun
  | [d1, d2] => { results := [.lit (.bool true)], args := [d1, d2] }
  | _ => none }
def attackBothRow : OpenClaim := { program := "ytibaembmdcdbkaa", sum := "6db3d0b456bf385e3671433e8704a594d71caae97f2dff04c05b4478382ab22d", func := "alfil/alfillaw07.AttackBoth", spec := "attackBoth", unfollowed := true, recurses := true, apart := false }
def AttackBothSaid : Prop := attackBothRow.holds Try.pinned (OpenSpec.ofChange attackBothSpec)

/-- ITS FALSE NEIGHBOUR: 'it returns false'. Refute it at one input. -/
def attackBothWrong : ChangeSpec := { name := "attackBoth", fn := fun _ => fun
  | [d1, d2] => { results := [.lit (.bool false)], args := [d1, d2] }
  | _ => none }
def AttackBothWrongFalsely : Prop := attackBothRow.holds Try.pinned (OpenSpec.ofChange attackBothWrong)

/-- 'alfillaw07.AttackStrikes': WHATEVER THE INPUT: true; the input reads as it did. -/
def attackStrikesSpec : ChangeSpec := { name := "attackStrikes", fn := fun _ => fun
  | [d1, d2, d3] => { results := [.lit (.bool true)], args := [d1, d2, d3] }
  | _ => none }
def attackStrikesRow : OpenClaim := { program := "ytibaembmdcdbkaa", sum := "6db3d0b456bf385e3671433e8704a594d71caae97f2dff04c05b4478382ab22d", func := "alfil/alfillaw07.AttackStrikes", spec := "attackStrikes", unfollowed := true, recurses := true, apart := false }
def AttackStrikesSaid : Prop := attackStrikesRow.holds Try.pinned (OpenSpec.ofChange attackStrikesSpec)

/-- ITS FALSE NEIGHBOUR: 'it returns false'. Refute it at one input. -/
def attackStrikesWrong : ChangeSpec := { name := "attackStrikes", fn := fun _ => fun
  | [d1, d2, d3] => { results := [.lit (.bool false)], args := [d1, d2, d3] }
  | _ => none }
def AttackStrikesWrongFalsely : Prop := attackStrikesRow.holds Try.pinned (OpenSpec.ofChange attackStrikesWrong)

/-- 'alfillaw07.AttackCheck': WHATEVER THE INPUT: true; the input reads as it did. -/
def attackCheckSpec : ChangeSpec := { name := "attackCheck", fn := fun _ => fun
  | [d] => { results := [.lit (.bool true)], args := [d] }
  | _ => none }
def attackCheckRow : OpenClaim := { program := "ytibaembmdcdbkaa", sum := "6db3d0b456bf385e3671433e8704a594d71caae97f2dff04c05b4478382ab22d", func := "alfil/alfillaw07.AttackCheck", spec := "attackCheck", unfollowed := true, recurses := true, apart := false }
def AttackCheckSaid : Prop := attackCheckRow.holds Try.pinned (OpenSpec.ofChange attackCheckSpec)

/-- ITS FALSE NEIGHBOUR: 'it returns false'. Refute it at one input. -/
def attackCheckWrong : ChangeSpec := { name := "attackCheck", fn := fun _ => fun
  | [d] => { results := [.lit (.bool false)], args := [d] }
  | _ => none }
def AttackCheckWrongFalsely : Prop := attackCheckRow.holds Try.pinned (OpenSpec.ofChange attackCheckWrong)

/-- 'alfillaw07.AttackNil': WHATEVER THE INPUT: true; the input reads as it did. -/
def attackNilSpec : ChangeSpec := { name := "attackNil", fn := fun _ => fun
  | [d1, d2] => { results := [.lit (.bool true)], args := [d1, d2] }
  | _ => none }
def attackNilRow : OpenClaim := { program := "ytibaembmdcdbkaa", sum := "6db3d0b456bf385e3671433e8704a594d71caae97f2dff04c05b4478382ab22d", func := "alfil/alfillaw07.AttackNil", spec := "attackNil", unfollowed := true, recurses := true, apart := false }
def AttackNilSaid : Prop := attackNilRow.holds Try.pinned (OpenSpec.ofChange attackNilSpec)

/-- ITS FALSE NEIGHBOUR: 'it returns false'. Refute it at one input. -/
def attackNilWrong : ChangeSpec := { name := "attackNil", fn := fun _ => fun
  | [d1, d2] => { results := [.lit (.bool false)], args := [d1, d2] }
  | _ => none }
def AttackNilWrongFalsely : Prop := attackNilRow.holds Try.pinned (OpenSpec.ofChange attackNilWrong)

/-- 'alfillaw08.PosWrong': WHATEVER THE INPUT: true; the input reads as it did. -/
def posWrongSpec : ChangeSpec := { name := "posWrong", fn := fun _ => fun
  | [d] => { results := [.lit (.bool true)], args := [d] }
  | _ => none }
def posWrongRow : OpenClaim := { program := "ytibaembmdcdbkaa", sum := "6db3d0b456bf385e3671433e8704a594d71caae97f2dff04c05b4478382ab22d", func := "alfil/alfillaw08.PosWrong", spec := "posWrong", unfollowed := true, recurses := true, apart := false }
def PosWrongSaid : Prop := posWrongRow.holds Try.pinned (OpenSpec.ofChange posWrongSpec)

/-- ITS FALSE NEIGHBOUR: 'it returns false'. Refute it at one input. -/
def posWrongWrong : ChangeSpec := { name := "posWrong", fn := fun _ => fun
  | [d] => { results := [.lit (.bool false)], args := [d] }
  | _ => none }
def PosWrongWrongFalsely : Prop := posWrongRow.holds Try.pinned (OpenSpec.ofChange posWrongWrong)

/-- 'alfillaw08.PosBacked': WHATEVER THE INPUT: true; the input reads as it did. -/
def posBackedSpec : ChangeSpec := { name := "posBacked", fn := fun _ => fun
  | [d1, d2] => { results := [.lit (.bool true)], args := [d1, d2] }
  | _ => none }
def posBackedRow : OpenClaim := { program := "ytibaembmdcdbkaa", sum := "6db3d0b456bf385e3671433e8704a594d71caae97f2dff04c05b4478382ab22d", func := "alfil/alfillaw08.PosBacked", spec := "posBacked", unfollowed := true, recurses := true, apart := false }
def PosBackedSaid : Prop := posBackedRow.holds Try.pinned (OpenSpec.ofChange posBackedSpec)

/-- ITS FALSE NEIGHBOUR: 'it returns false'. Refute it at one input. -/
def posBackedWrong : ChangeSpec := { name := "posBacked", fn := fun _ => fun
  | [d1, d2] => { results := [.lit (.bool false)], args := [d1, d2] }
  | _ => none }
def PosBackedWrongFalsely : Prop := posBackedRow.holds Try.pinned (OpenSpec.ofChange posBackedWrong)

/-- 'alfillaw08.PosSame': WHATEVER THE INPUT: true; the input reads as it did. -/
def posSameSpec : ChangeSpec := { name := "posSame", fn := fun _ => fun
  | [d1, d2, d3] => { results := [.lit (.bool true)], args := [d1, d2, d3] }
  | _ => none }
def posSameRow : OpenClaim := { program := "ytibaembmdcdbkaa", sum := "6db3d0b456bf385e3671433e8704a594d71caae97f2dff04c05b4478382ab22d", func := "alfil/alfillaw08.PosSame", spec := "posSame", unfollowed := true, recurses := true, apart := false }
def PosSameSaid : Prop := posSameRow.holds Try.pinned (OpenSpec.ofChange posSameSpec)

/-- ITS FALSE NEIGHBOUR: 'it returns false'. Refute it at one input. -/
def posSameWrong : ChangeSpec := { name := "posSame", fn := fun _ => fun
  | [d1, d2, d3] => { results := [.lit (.bool false)], args := [d1, d2, d3] }
  | _ => none }
def PosSameWrongFalsely : Prop := posSameRow.holds Try.pinned (OpenSpec.ofChange posSameWrong)

/-- 'alfillaw08.PosOf': WHATEVER THE INPUT: true; the input reads as it did. -/
def posOfSpec : ChangeSpec := { name := "posOf", fn := fun _ => fun
  | [d1, d2] => { results := [.lit (.bool true)], args := [d1, d2] }
  | _ => none }
def posOfRow : OpenClaim := { program := "ytibaembmdcdbkaa", sum := "6db3d0b456bf385e3671433e8704a594d71caae97f2dff04c05b4478382ab22d", func := "alfil/alfillaw08.PosOf", spec := "posOf", unfollowed := true, recurses := true, apart := false }
def PosOfSaid : Prop := posOfRow.holds Try.pinned (OpenSpec.ofChange posOfSpec)

/-- ITS FALSE NEIGHBOUR: 'it returns false'. Refute it at one input. -/
def posOfWrong : ChangeSpec := { name := "posOf", fn := fun _ => fun
  | [d1, d2] => { results := [.lit (.bool false)], args := [d1, d2] }
  | _ => none }
def PosOfWrongFalsely : Prop := posOfRow.holds Try.pinned (OpenSpec.ofChange posOfWrong)

/-- 'alfillaw08.PosTurns': WHATEVER THE INPUT: true; the input reads as it did. -/
def posTurnsSpec : ChangeSpec := { name := "posTurns", fn := fun _ => fun
  | [d] => { results := [.lit (.bool true)], args := [d] }
  | _ => none }
def posTurnsRow : OpenClaim := { program := "ytibaembmdcdbkaa", sum := "6db3d0b456bf385e3671433e8704a594d71caae97f2dff04c05b4478382ab22d", func := "alfil/alfillaw08.PosTurns", spec := "posTurns", unfollowed := true, recurses := true, apart := false }
def PosTurnsSaid : Prop := posTurnsRow.holds Try.pinned (OpenSpec.ofChange posTurnsSpec)

/-- ITS FALSE NEIGHBOUR: 'it returns false'. Refute it at one input. -/
def posTurnsWrong : ChangeSpec := { name := "posTurns", fn := fun _ => fun
  | [d] => { results := [.lit (.bool false)], args := [d] }
  | _ => none }
def PosTurnsWrongFalsely : Prop := posTurnsRow.holds Try.pinned (OpenSpec.ofChange posTurnsWrong)

/- THE SECOND FORM. 'bulk': how many values and letters a reading holds, each counted each time it is reached (what is shared counts as often as it is met; a slice's spare places count too). A statement '..UptoSaid' is the law's where the arguments, and the package variables that the reading takes, are together of bulk at most 1048576: NARROWER than '..Said'. Prove '..Said' where nothing that the law and all that it calls make is longer than what came in: it says more and counts as full. Else prove '..UptoSaid'. A law counts once. -/
mutual
def uptoBulk {H : Type} : DataW H → Nat
  | .lit (.string bytes) => bytes.length + 1
  | .lit _ => 1
  | .nil => 1
  | .ptr d => uptoBulk d + 1
  | .slice elems spare => uptoBulkAll elems + uptoBulkAll spare + 1
  | .agg parts => uptoBulkAll parts + 1
  | .iface _ d => uptoBulk d + 1
  | .map entries => uptoBulkEntries entries + 1
  | .held _ => 1
def uptoBulkAll {H : Type} : List (DataW H) → Nat
  | [] => 0
  | d :: r => uptoBulk d + uptoBulkAll r
def uptoBulkEntries {H : Type} : List (Lit × DataW H) → Nat
  | [] => 0
  | x :: r => uptoBulkEntry x + uptoBulkEntries r
def uptoBulkEntry {H : Type} : Lit × DataW H → Nat
  | (.string bytes, d) => bytes.length + uptoBulk d + 1
  | (_, d) => uptoBulk d + 1
 end
def uptoSmall : (H : Type) → List (DataW H) → Bool := fun _ ds => decide (uptoBulkAll ds ≤ 1048576)
def OpenSpec.upto (s : _root_.Go.ChangeSpec) : _root_.Go.OpenSpec := { _root_.Go.OpenSpec.ofChange s with cond := some uptoSmall }

/-- 'alfillaw07.AttackBoth', WHERE WHAT IT READS IS OF BULK AT MOST 1048576: true; the input reads as it did. -/
def attackBothUptoRow : OpenClaim := { program := "ytibaembmdcdbkaa", sum := "6db3d0b456bf385e3671433e8704a594d71caae97f2dff04c05b4478382ab22d", func := "alfil/alfillaw07.AttackBoth", spec := "attackBoth", unfollowed := true, recurses := true, apart := false, narrowed := true }
def AttackBothUptoSaid : Prop := attackBothUptoRow.holds Try.pinned (OpenSpec.upto attackBothSpec)

/-- 'alfillaw07.AttackStrikes', WHERE WHAT IT READS IS OF BULK AT MOST 1048576: true; the input reads as it did. -/
def attackStrikesUptoRow : OpenClaim := { program := "ytibaembmdcdbkaa", sum := "6db3d0b456bf385e3671433e8704a594d71caae97f2dff04c05b4478382ab22d", func := "alfil/alfillaw07.AttackStrikes", spec := "attackStrikes", unfollowed := true, recurses := true, apart := false, narrowed := true }
def AttackStrikesUptoSaid : Prop := attackStrikesUptoRow.holds Try.pinned (OpenSpec.upto attackStrikesSpec)

/-- 'alfillaw07.AttackCheck', WHERE WHAT IT READS IS OF BULK AT MOST 1048576: true; the input reads as it did. -/
def attackCheckUptoRow : OpenClaim := { program := "ytibaembmdcdbkaa", sum := "6db3d0b456bf385e3671433e8704a594d71caae97f2dff04c05b4478382ab22d", func := "alfil/alfillaw07.AttackCheck", spec := "attackCheck", unfollowed := true, recurses := true, apart := false, narrowed := true }
def AttackCheckUptoSaid : Prop := attackCheckUptoRow.holds Try.pinned (OpenSpec.upto attackCheckSpec)

/-- 'alfillaw07.AttackNil', WHERE WHAT IT READS IS OF BULK AT MOST 1048576: true; the input reads as it did. -/
def attackNilUptoRow : OpenClaim := { program := "ytibaembmdcdbkaa", sum := "6db3d0b456bf385e3671433e8704a594d71caae97f2dff04c05b4478382ab22d", func := "alfil/alfillaw07.AttackNil", spec := "attackNil", unfollowed := true, recurses := true, apart := false, narrowed := true }
def AttackNilUptoSaid : Prop := attackNilUptoRow.holds Try.pinned (OpenSpec.upto attackNilSpec)

/-- 'alfillaw08.PosWrong', WHERE WHAT IT READS IS OF BULK AT MOST 1048576: true; the input reads as it did. -/
def posWrongUptoRow : OpenClaim := { program := "ytibaembmdcdbkaa", sum := "6db3d0b456bf385e3671433e8704a594d71caae97f2dff04c05b4478382ab22d", func := "alfil/alfillaw08.PosWrong", spec := "posWrong", unfollowed := true, recurses := true, apart := false, narrowed := true }
def PosWrongUptoSaid : Prop := posWrongUptoRow.holds Try.pinned (OpenSpec.upto posWrongSpec)

/-- 'alfillaw08.PosBacked', WHERE WHAT IT READS IS OF BULK AT MOST 1048576: true; the input reads as it did. -/
def posBackedUptoRow : OpenClaim := { program := "ytibaembmdcdbkaa", sum := "6db3d0b456bf385e3671433e8704a594d71caae97f2dff04c05b4478382ab22d", func := "alfil/alfillaw08.PosBacked", spec := "posBacked", unfollowed := true, recurses := true, apart := false, narrowed := true }
def PosBackedUptoSaid : Prop := posBackedUptoRow.holds Try.pinned (OpenSpec.upto posBackedSpec)

/-- 'alfillaw08.PosSame', WHERE WHAT IT READS IS OF BULK AT MOST 1048576: true; the input reads as it did. -/
def posSameUptoRow : OpenClaim := { program := "ytibaembmdcdbkaa", sum := "6db3d0b456bf385e3671433e8704a594d71caae97f2dff04c05b4478382ab22d", func := "alfil/alfillaw08.PosSame", spec := "posSame", unfollowed := true, recurses := true, apart := false, narrowed := true }
def PosSameUptoSaid : Prop := posSameUptoRow.holds Try.pinned (OpenSpec.upto posSameSpec)

/-- 'alfillaw08.PosOf', WHERE WHAT IT READS IS OF BULK AT MOST 1048576: true; the input reads as it did. -/
def posOfUptoRow : OpenClaim := { program := "ytibaembmdcdbkaa", sum := "6db3d0b456bf385e3671433e8704a594d71caae97f2dff04c05b4478382ab22d", func := "alfil/alfillaw08.PosOf", spec := "posOf", unfollowed := true, recurses := true, apart := false, narrowed := true }
def PosOfUptoSaid : Prop := posOfUptoRow.holds Try.pinned (OpenSpec.upto posOfSpec)

/-- 'alfillaw08.PosTurns', WHERE WHAT IT READS IS OF BULK AT MOST 1048576: true; the input reads as it did. -/
def posTurnsUptoRow : OpenClaim := { program := "ytibaembmdcdbkaa", sum := "6db3d0b456bf385e3671433e8704a594d71caae97f2dff04c05b4478382ab22d", func := "alfil/alfillaw08.PosTurns", spec := "posTurns", unfollowed := true, recurses := true, apart := false, narrowed := true }
def PosTurnsUptoSaid : Prop := posTurnsUptoRow.holds Try.pinned (OpenSpec.upto posTurnsSpec)

end Rows
end Go.Proofs.Ytibaembmdcdbkaa
