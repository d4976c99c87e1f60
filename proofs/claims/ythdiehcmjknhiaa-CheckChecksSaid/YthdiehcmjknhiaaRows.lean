/-
  No cell of these rows narrows 'for every input' (looked for: loops, veiled, ifaces, maps, wideKeys, modest, calm, conditions, laid).
  DERIVED. THE GIVEN ROWS OF THIS SEAT. 12 by the template 'for every input the law returns true; each argument reads behind the call as it read before'; 0 by the template 'total and deterministic' (their statements: YthdiehcmjknhiaaTotals.lean).
  GIVEN WITH THE SEED: the statements are not yours to turn. If you find one false, say at which input.
  Laid BY PROGRAM, IN A SANDBOX (cutbox-rows.mjs): the forced cells as the released guide's own fill.sh prints them over the translation 9658ba3180e7f249… (all of the seat's roots in one cut). By AI agents, Wed Nov 11 2026. No macro, syntax, notation, axiom, sorry.
-/
import Derived.Test.YthdiehcmjknhiaaChecked
import GoSem.Claim
import GoSem.ClaimJoined
import GoSem.ClaimMapViews
import Derived.JoinedTies
import Derived.KernelRfl
namespace Go.Proofs.Ythdiehcmjknhiaa
/- THE CELL 'sum', in the pinned program and in every row, IS THE sha256 OF THE DUMP (.gsa) THAT YthdiehcmjknhiaaProg.lean LOADS. Nothing in Lean hashes anything: it is a label: what it is worth is what the hold of that sum in a sandbox is worth. -/
noncomputable def Try.pinned : Pinned := { name := "ythdiehcmjknhiaa", sum := "9658ba3180e7f249ed35f8e2b7bc0d772676c883a57d622b0380abe3767a188f", checked := Try.checked }
namespace Rows
def none {H : Type} : Left H := { results := [], args := [] }

/-- 'tumuluslaw11.WalkObjects': WHATEVER THE INPUT: true; the input reads as it did. -/
def walkObjectsSpec : ChangeSpec := { name := "walkObjects", fn := fun _ => fun
  | [d1, d2, d3, d4, d5, d6] => { results := [.lit (.bool true)], args := [d1, d2, d3, d4, d5, d6] }
  | _ => none }
def walkObjectsRow : OpenClaim := { program := "ythdiehcmjknhiaa", sum := "9658ba3180e7f249ed35f8e2b7bc0d772676c883a57d622b0380abe3767a188f", func := "tumulus/tumuluslaw11.WalkObjects", spec := "walkObjects", unfollowed := true, recurses := true, apart := false }
def WalkObjectsSaid : Prop := walkObjectsRow.holds Try.pinned (OpenSpec.ofChange walkObjectsSpec)

/-- ITS FALSE NEIGHBOUR: 'it returns false'. Refute it at one input. -/
def walkObjectsWrong : ChangeSpec := { name := "walkObjects", fn := fun _ => fun
  | [d1, d2, d3, d4, d5, d6] => { results := [.lit (.bool false)], args := [d1, d2, d3, d4, d5, d6] }
  | _ => none }
def WalkObjectsWrongFalsely : Prop := walkObjectsRow.holds Try.pinned (OpenSpec.ofChange walkObjectsWrong)

/-- 'tumuluslaw11.WalkBreaks': WHATEVER THE INPUT: true; the input reads as it did. -/
def walkBreaksSpec : ChangeSpec := { name := "walkBreaks", fn := fun _ => fun
  | [d1, d2, d3] => { results := [.lit (.bool true)], args := [d1, d2, d3] }
  | _ => none }
def walkBreaksRow : OpenClaim := { program := "ythdiehcmjknhiaa", sum := "9658ba3180e7f249ed35f8e2b7bc0d772676c883a57d622b0380abe3767a188f", func := "tumulus/tumuluslaw11.WalkBreaks", spec := "walkBreaks", unfollowed := true, recurses := true, apart := false }
def WalkBreaksSaid : Prop := walkBreaksRow.holds Try.pinned (OpenSpec.ofChange walkBreaksSpec)

/-- ITS FALSE NEIGHBOUR: 'it returns false'. Refute it at one input. -/
def walkBreaksWrong : ChangeSpec := { name := "walkBreaks", fn := fun _ => fun
  | [d1, d2, d3] => { results := [.lit (.bool false)], args := [d1, d2, d3] }
  | _ => none }
def WalkBreaksWrongFalsely : Prop := walkBreaksRow.holds Try.pinned (OpenSpec.ofChange walkBreaksWrong)

/-- 'tumuluslaw11.WalkSums': WHATEVER THE INPUT: true; the input reads as it did. -/
def walkSumsSpec : ChangeSpec := { name := "walkSums", fn := fun _ => fun
  | [d1, d2, d3] => { results := [.lit (.bool true)], args := [d1, d2, d3] }
  | _ => none }
def walkSumsRow : OpenClaim := { program := "ythdiehcmjknhiaa", sum := "9658ba3180e7f249ed35f8e2b7bc0d772676c883a57d622b0380abe3767a188f", func := "tumulus/tumuluslaw11.WalkSums", spec := "walkSums", unfollowed := true, recurses := true, apart := false }
def WalkSumsSaid : Prop := walkSumsRow.holds Try.pinned (OpenSpec.ofChange walkSumsSpec)

/-- ITS FALSE NEIGHBOUR: 'it returns false'. Refute it at one input. -/
def walkSumsWrong : ChangeSpec := { name := "walkSums", fn := fun _ => fun
  | [d1, d2, d3] => { results := [.lit (.bool false)], args := [d1, d2, d3] }
  | _ => none }
def WalkSumsWrongFalsely : Prop := walkSumsRow.holds Try.pinned (OpenSpec.ofChange walkSumsWrong)

/-- 'tumuluslaw11.WalkLess': WHATEVER THE INPUT: true; the input reads as it did. -/
def walkLessSpec : ChangeSpec := { name := "walkLess", fn := fun _ => fun
  | [d1, d2, d3] => { results := [.lit (.bool true)], args := [d1, d2, d3] }
  | _ => none }
def walkLessRow : OpenClaim := { program := "ythdiehcmjknhiaa", sum := "9658ba3180e7f249ed35f8e2b7bc0d772676c883a57d622b0380abe3767a188f", func := "tumulus/tumuluslaw11.WalkLess", spec := "walkLess", unfollowed := true, recurses := true, apart := false }
def WalkLessSaid : Prop := walkLessRow.holds Try.pinned (OpenSpec.ofChange walkLessSpec)

/-- ITS FALSE NEIGHBOUR: 'it returns false'. Refute it at one input. -/
def walkLessWrong : ChangeSpec := { name := "walkLess", fn := fun _ => fun
  | [d1, d2, d3] => { results := [.lit (.bool false)], args := [d1, d2, d3] }
  | _ => none }
def WalkLessWrongFalsely : Prop := walkLessRow.holds Try.pinned (OpenSpec.ofChange walkLessWrong)

/-- 'tumuluslaw12.CheckWhole': WHATEVER THE INPUT: true; the input reads as it did. -/
def checkWholeSpec : ChangeSpec := { name := "checkWhole", fn := fun _ => fun
  | [d1, d2, d3, d4] => { results := [.lit (.bool true)], args := [d1, d2, d3, d4] }
  | _ => none }
def checkWholeRow : OpenClaim := { program := "ythdiehcmjknhiaa", sum := "9658ba3180e7f249ed35f8e2b7bc0d772676c883a57d622b0380abe3767a188f", func := "tumulus/tumuluslaw12.CheckWhole", spec := "checkWhole", unfollowed := true, recurses := true, apart := false }
def CheckWholeSaid : Prop := checkWholeRow.holds Try.pinned (OpenSpec.ofChange checkWholeSpec)

/-- ITS FALSE NEIGHBOUR: 'it returns false'. Refute it at one input. -/
def checkWholeWrong : ChangeSpec := { name := "checkWhole", fn := fun _ => fun
  | [d1, d2, d3, d4] => { results := [.lit (.bool false)], args := [d1, d2, d3, d4] }
  | _ => none }
def CheckWholeWrongFalsely : Prop := checkWholeRow.holds Try.pinned (OpenSpec.ofChange checkWholeWrong)

/-- 'tumuluslaw12.CheckLess': WHATEVER THE INPUT: true; the input reads as it did. -/
def checkLessSpec : ChangeSpec := { name := "checkLess", fn := fun _ => fun
  | [d1, d2, d3, d4] => { results := [.lit (.bool true)], args := [d1, d2, d3, d4] }
  | _ => none }
def checkLessRow : OpenClaim := { program := "ythdiehcmjknhiaa", sum := "9658ba3180e7f249ed35f8e2b7bc0d772676c883a57d622b0380abe3767a188f", func := "tumulus/tumuluslaw12.CheckLess", spec := "checkLess", unfollowed := true, recurses := true, apart := false }
def CheckLessSaid : Prop := checkLessRow.holds Try.pinned (OpenSpec.ofChange checkLessSpec)

/-- ITS FALSE NEIGHBOUR: 'it returns false'. Refute it at one input. -/
def checkLessWrong : ChangeSpec := { name := "checkLess", fn := fun _ => fun
  | [d1, d2, d3, d4] => { results := [.lit (.bool false)], args := [d1, d2, d3, d4] }
  | _ => none }
def CheckLessWrongFalsely : Prop := checkLessRow.holds Try.pinned (OpenSpec.ofChange checkLessWrong)

/-- 'tumuluslaw12.CheckChecks': WHATEVER THE INPUT: true; the input reads as it did. -/
def checkChecksSpec : ChangeSpec := { name := "checkChecks", fn := fun _ => fun
  | [d1, d2, d3, d4, d5, d6, d7, d8] => { results := [.lit (.bool true)], args := [d1, d2, d3, d4, d5, d6, d7, d8] }
  | _ => none }
def checkChecksRow : OpenClaim := { program := "ythdiehcmjknhiaa", sum := "9658ba3180e7f249ed35f8e2b7bc0d772676c883a57d622b0380abe3767a188f", func := "tumulus/tumuluslaw12.CheckChecks", spec := "checkChecks", unfollowed := true, recurses := true, apart := false }
def CheckChecksSaid : Prop := checkChecksRow.holds Try.pinned (OpenSpec.ofChange checkChecksSpec)

/-- ITS FALSE NEIGHBOUR: 'it returns false'. Refute it at one input. -/
def checkChecksWrong : ChangeSpec := { name := "checkChecks", fn := fun _ => fun
  | [d1, d2, d3, d4, d5, d6, d7, d8] => { results := [.lit (.bool false)], args := [d1, d2, d3, d4, d5, d6, d7, d8] }
  | _ => none }
def CheckChecksWrongFalsely : Prop := checkChecksRow.holds Try.pinned (OpenSpec.ofChange checkChecksWrong)

/-- 'tumuluslaw12.CheckMoved': WHATEVER THE INPUT: true; the input reads as it did. -/
def checkMovedSpec : ChangeSpec := { name := "checkMoved", fn := fun _ => fun
  | [d1, d2, d3, d4] => { results := [.lit (.bool true)], args := [d1, d2, d3, d4] }
  | _ => none }
def checkMovedRow : OpenClaim := { program := "ythdiehcmjknhiaa", sum := "9658ba3180e7f249ed35f8e2b7bc0d772676c883a57d622b0380abe3767a188f", func := "tumulus/tumuluslaw12.CheckMoved", spec := "checkMoved", unfollowed := true, recurses := true, apart := false }
def CheckMovedSaid : Prop := checkMovedRow.holds Try.pinned (OpenSpec.ofChange checkMovedSpec)

/-- ITS FALSE NEIGHBOUR: 'it returns false'. Refute it at one input. -/
def checkMovedWrong : ChangeSpec := { name := "checkMoved", fn := fun _ => fun
  | [d1, d2, d3, d4] => { results := [.lit (.bool false)], args := [d1, d2, d3, d4] }
  | _ => none }
def CheckMovedWrongFalsely : Prop := checkMovedRow.holds Try.pinned (OpenSpec.ofChange checkMovedWrong)

/-- 'tumuluslaw13.ReachCloses': WHATEVER THE INPUT: true; the input reads as it did. -/
def reachClosesSpec : ChangeSpec := { name := "reachCloses", fn := fun _ => fun
  | [d1, d2, d3, d4] => { results := [.lit (.bool true)], args := [d1, d2, d3, d4] }
  | _ => none }
def reachClosesRow : OpenClaim := { program := "ythdiehcmjknhiaa", sum := "9658ba3180e7f249ed35f8e2b7bc0d772676c883a57d622b0380abe3767a188f", func := "tumulus/tumuluslaw13.ReachCloses", spec := "reachCloses", unfollowed := true, recurses := true, apart := false }
def ReachClosesSaid : Prop := reachClosesRow.holds Try.pinned (OpenSpec.ofChange reachClosesSpec)

/-- ITS FALSE NEIGHBOUR: 'it returns false'. Refute it at one input. -/
def reachClosesWrong : ChangeSpec := { name := "reachCloses", fn := fun _ => fun
  | [d1, d2, d3, d4] => { results := [.lit (.bool false)], args := [d1, d2, d3, d4] }
  | _ => none }
def ReachClosesWrongFalsely : Prop := reachClosesRow.holds Try.pinned (OpenSpec.ofChange reachClosesWrong)

/-- 'tumuluslaw13.ReachAll': WHATEVER THE INPUT: true; the input reads as it did. -/
def reachAllSpec : ChangeSpec := { name := "reachAll", fn := fun _ => fun
  | [d1, d2, d3, d4] => { results := [.lit (.bool true)], args := [d1, d2, d3, d4] }
  | _ => none }
def reachAllRow : OpenClaim := { program := "ythdiehcmjknhiaa", sum := "9658ba3180e7f249ed35f8e2b7bc0d772676c883a57d622b0380abe3767a188f", func := "tumulus/tumuluslaw13.ReachAll", spec := "reachAll", unfollowed := true, recurses := true, apart := false }
def ReachAllSaid : Prop := reachAllRow.holds Try.pinned (OpenSpec.ofChange reachAllSpec)

/-- ITS FALSE NEIGHBOUR: 'it returns false'. Refute it at one input. -/
def reachAllWrong : ChangeSpec := { name := "reachAll", fn := fun _ => fun
  | [d1, d2, d3, d4] => { results := [.lit (.bool false)], args := [d1, d2, d3, d4] }
  | _ => none }
def ReachAllWrongFalsely : Prop := reachAllRow.holds Try.pinned (OpenSpec.ofChange reachAllWrong)

/-- 'tumuluslaw13.ReachFrom': WHATEVER THE INPUT: true; the input reads as it did. -/
def reachFromSpec : ChangeSpec := { name := "reachFrom", fn := fun _ => fun
  | [d1, d2, d3, d4, d5] => { results := [.lit (.bool true)], args := [d1, d2, d3, d4, d5] }
  | _ => none }
def reachFromRow : OpenClaim := { program := "ythdiehcmjknhiaa", sum := "9658ba3180e7f249ed35f8e2b7bc0d772676c883a57d622b0380abe3767a188f", func := "tumulus/tumuluslaw13.ReachFrom", spec := "reachFrom", unfollowed := true, recurses := true, apart := false }
def ReachFromSaid : Prop := reachFromRow.holds Try.pinned (OpenSpec.ofChange reachFromSpec)

/-- ITS FALSE NEIGHBOUR: 'it returns false'. Refute it at one input. -/
def reachFromWrong : ChangeSpec := { name := "reachFrom", fn := fun _ => fun
  | [d1, d2, d3, d4, d5] => { results := [.lit (.bool false)], args := [d1, d2, d3, d4, d5] }
  | _ => none }
def ReachFromWrongFalsely : Prop := reachFromRow.holds Try.pinned (OpenSpec.ofChange reachFromWrong)

/-- 'tumuluslaw13.ReachJoins': WHATEVER THE INPUT: true; the input reads as it did. -/
def reachJoinsSpec : ChangeSpec := { name := "reachJoins", fn := fun _ => fun
  | [d1, d2, d3, d4, d5] => { results := [.lit (.bool true)], args := [d1, d2, d3, d4, d5] }
  | _ => none }
def reachJoinsRow : OpenClaim := { program := "ythdiehcmjknhiaa", sum := "9658ba3180e7f249ed35f8e2b7bc0d772676c883a57d622b0380abe3767a188f", func := "tumulus/tumuluslaw13.ReachJoins", spec := "reachJoins", unfollowed := true, recurses := true, apart := false }
def ReachJoinsSaid : Prop := reachJoinsRow.holds Try.pinned (OpenSpec.ofChange reachJoinsSpec)

/-- ITS FALSE NEIGHBOUR: 'it returns false'. Refute it at one input. -/
def reachJoinsWrong : ChangeSpec := { name := "reachJoins", fn := fun _ => fun
  | [d1, d2, d3, d4, d5] => { results := [.lit (.bool false)], args := [d1, d2, d3, d4, d5] }
  | _ => none }
def ReachJoinsWrongFalsely : Prop := reachJoinsRow.holds Try.pinned (OpenSpec.ofChange reachJoinsWrong)

/- THE SECOND FORM. 'bulk': how many values and letters a reading holds, each counted each time it is reached (what is shared counts as often as it is met; a slice's spare places count too). A statement '..UptoSaid' is the law's where the arguments, and the package variables that the reading takes, are together of bulk at most 1048576: NARROWER than '..Said'. Prove '..Said' where nothing that the law and all that it calls make is longer than what came in: it says more and counts as full. Else prove '..UptoSaid'. A law counts once. -/
mutual
def uptoBulk {H : Type} : DataW H → Nat
  | .lit (.string bytes) => bytes.length + 1
  | .lit _ => 1
  | .nil => 1
  | .ptr d => uptoBulk d + 1
  | .slice elems spare => uptoBulkAll elems + uptoBulkAll spare + 1
  | .agg parts => uptoBulkAll parts + 1
  | .iface _ d => uptoBulk d + 1
  | .map entries => uptoBulkEntries entries + 1
  | .held _ => 1
def uptoBulkAll {H : Type} : List (DataW H) → Nat
  | [] => 0
  | d :: r => uptoBulk d + uptoBulkAll r
def uptoBulkEntries {H : Type} : List (Lit × DataW H) → Nat
  | [] => 0
  | x :: r => uptoBulkEntry x + uptoBulkEntries r
def uptoBulkEntry {H : Type} : Lit × DataW H → Nat
  | (.string bytes, d) => bytes.length + uptoBulk d + 1
  | (_, d) => uptoBulk d + 1
 end
def uptoSmall : (H : Type) → List (DataW H) → Bool := fun _ ds => decide (uptoBulkAll ds ≤ 1048576)
def OpenSpec.upto (s : _root_.Go.ChangeSpec) : _root_.Go.OpenSpec := { _root_.Go.OpenSpec.ofChange s with cond := some uptoSmall }

/-- 'tumuluslaw11.WalkObjects', WHERE WHAT IT READS IS OF BULK AT MOST 1048576: true; the input reads as it did. -/
def walkObjectsUptoRow : OpenClaim := { program := "ythdiehcmjknhiaa", sum := "9658ba3180e7f249ed35f8e2b7bc0d772676c883a57d622b0380abe3767a188f", func := "tumulus/tumuluslaw11.WalkObjects", spec := "walkObjects", unfollowed := true, recurses := true, apart := false, narrowed := true }
def WalkObjectsUptoSaid : Prop := walkObjectsUptoRow.holds Try.pinned (OpenSpec.upto walkObjectsSpec)

/-- 'tumuluslaw11.WalkBreaks', WHERE WHAT IT READS IS OF BULK AT MOST 1048576: true; the input reads as it did. -/
def walkBreaksUptoRow : OpenClaim := { program := "ythdiehcmjknhiaa", sum := "9658ba3180e7f249ed35f8e2b7bc0d772676c883a57d622b0380abe3767a188f", func := "tumulus/tumuluslaw11.WalkBreaks", spec := "walkBreaks", unfollowed := true, recurses := true, apart := false, narrowed := true }
def WalkBreaksUptoSaid : Prop := walkBreaksUptoRow.holds Try.pinned (OpenSpec.upto walkBreaksSpec)

/-- 'tumuluslaw11.WalkSums', WHERE WHAT IT READS IS OF BULK AT MOST 1048576: true; the input reads as it did. -/
def walkSumsUptoRow : OpenClaim := { program := "ythdiehcmjknhiaa", sum := "9658ba3180e7f249ed35f8e2b7bc0d772676c883a57d622b0380abe3767a188f", func := "tumulus/tumuluslaw11.WalkSums", spec := "walkSums", unfollowed := true, recurses := true, apart := false, narrowed := true }
def WalkSumsUptoSaid : Prop := walkSumsUptoRow.holds Try.pinned (OpenSpec.upto walkSumsSpec)

/-- 'tumuluslaw11.WalkLess', WHERE WHAT IT READS IS OF BULK AT MOST 1048576: true; the input reads as it did. -/
def walkLessUptoRow : OpenClaim := { program := "ythdiehcmjknhiaa", sum := "9658ba3180e7f249ed35f8e2b7bc0d772676c883a57d622b0380abe3767a188f", func := "tumulus/tumuluslaw11.WalkLess", spec := "walkLess", unfollowed := true, recurses := true, apart := false, narrowed := true }
def WalkLessUptoSaid : Prop := walkLessUptoRow.holds Try.pinned (OpenSpec.upto walkLessSpec)

/-- 'tumuluslaw12.CheckWhole', WHERE WHAT IT READS IS OF BULK AT MOST 1048576: true; the input reads as it did. -/
def checkWholeUptoRow : OpenClaim := { program := "ythdiehcmjknhiaa", sum := "9658ba3180e7f249ed35f8e2b7bc0d772676c883a57d622b0380abe3767a188f", func := "tumulus/tumuluslaw12.CheckWhole", spec := "checkWhole", unfollowed := true, recurses := true, apart := false, narrowed := true }
def CheckWholeUptoSaid : Prop := checkWholeUptoRow.holds Try.pinned (OpenSpec.upto checkWholeSpec)

/-- 'tumuluslaw12.CheckLess', WHERE WHAT IT READS IS OF BULK AT MOST 1048576: true; the input reads as it did. -/
def checkLessUptoRow : OpenClaim := { program := "ythdiehcmjknhiaa", sum := "9658ba3180e7f249ed35f8e2b7bc0d772676c883a57d622b0380abe3767a188f", func := "tumulus/tumuluslaw12.CheckLess", spec := "checkLess", unfollowed := true, recurses := true, apart := false, narrowed := true }
def CheckLessUptoSaid : Prop := checkLessUptoRow.holds Try.pinned (OpenSpec.upto checkLessSpec)

/-- 'tumuluslaw12.CheckChecks', WHERE WHAT IT READS IS OF BULK AT MOST 1048576: true; the input reads as it did. -/
def checkChecksUptoRow : OpenClaim := { program := "ythdiehcmjknhiaa", sum := "9658ba3180e7f249ed35f8e2b7bc0d772676c883a57d622b0380abe3767a188f", func := "tumulus/tumuluslaw12.CheckChecks", spec := "checkChecks", unfollowed := true, recurses := true, apart := false, narrowed := true }
def CheckChecksUptoSaid : Prop := checkChecksUptoRow.holds Try.pinned (OpenSpec.upto checkChecksSpec)

/-- 'tumuluslaw12.CheckMoved', WHERE WHAT IT READS IS OF BULK AT MOST 1048576: true; the input reads as it did. -/
def checkMovedUptoRow : OpenClaim := { program := "ythdiehcmjknhiaa", sum := "9658ba3180e7f249ed35f8e2b7bc0d772676c883a57d622b0380abe3767a188f", func := "tumulus/tumuluslaw12.CheckMoved", spec := "checkMoved", unfollowed := true, recurses := true, apart := false, narrowed := true }
def CheckMovedUptoSaid : Prop := checkMovedUptoRow.holds Try.pinned (OpenSpec.upto checkMovedSpec)

/-- 'tumuluslaw13.ReachCloses', WHERE WHAT IT READS IS OF BULK AT MOST 1048576: true; the input reads as it did. -/
def reachClosesUptoRow : OpenClaim := { program := "ythdiehcmjknhiaa", sum := "9658ba3180e7f249ed35f8e2b7bc0d772676c883a57d622b0380abe3767a188f", func := "tumulus/tumuluslaw13.ReachCloses", spec := "reachCloses", unfollowed := true, recurses := true, apart := false, narrowed := true }
def ReachClosesUptoSaid : Prop := reachClosesUptoRow.holds Try.pinned (OpenSpec.upto reachClosesSpec)

/-- 'tumuluslaw13.ReachAll', WHERE WHAT IT READS IS OF BULK AT MOST 1048576: true; the input reads as it did. -/
def reachAllUptoRow : OpenClaim := { program := "ythdiehcmjknhiaa", sum := "9658ba3180e7f249ed35f8e2b7bc0d772676c883a57d622b0380abe3767a188f", func := "tumulus/tumuluslaw13.ReachAll", spec := "reachAll", unfollowed := true, recurses := true, apart := false, narrowed := true }
def ReachAllUptoSaid : Prop := reachAllUptoRow.holds Try.pinned (OpenSpec.upto reachAllSpec)

/-- 'tumuluslaw13.ReachFrom', WHERE WHAT IT READS IS OF BULK AT MOST 1048576: true; the input reads as it did. -/
def reachFromUptoRow : OpenClaim := { program := "ythdiehcmjknhiaa", sum := "9658ba3180e7f249ed35f8e2b7bc0d772676c883a57d622b0380abe3767a188f", func := "tumulus/tumuluslaw13.ReachFrom", spec := "reachFrom", unfollowed := true, recurses := true, apart := false, narrowed := true }
def ReachFromUptoSaid : Prop := reachFromUptoRow.holds Try.pinned (OpenSpec.upto reachFromSpec)

/-- 'tumuluslaw13.ReachJoins', WHERE WHAT IT READS IS OF BULK AT MOST 1048576: true; the input reads as it did. -/
def reachJoinsUptoRow : OpenClaim := { program := "ythdiehcmjknhiaa", sum := "9658ba3180e7f249ed35f8e2b7bc0d772676c883a57d622b0380abe3767a188f", func := "tumulus/tumuluslaw13.ReachJoins", spec := "reachJoins", unfollowed := true, recurses := true, apart := false, narrowed := true }
def ReachJoinsUptoSaid : Prop := reachJoinsUptoRow.holds Try.pinned (OpenSpec.upto reachJoinsSpec)

end Rows
end Go.Proofs.Ythdiehcmjknhiaa
