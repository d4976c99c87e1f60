/-
  No cell of these rows narrows 'for every input' (looked for: loops, veiled, ifaces, maps, wideKeys, modest, calm, conditions, laid).
  DERIVED. THE GIVEN ROWS OF THIS SEAT. 12 by the template 'for every input the law returns true; each argument reads behind the call as it read before'; 0 by the template 'total and deterministic' (their statements: YtaophnicdbmojaaTotals.lean).
  GIVEN WITH THE SEED: the statements are not yours to turn. If you find one false, say at which input.
  Laid BY PROGRAM, IN A SANDBOX (cutbox-rows.mjs): the forced cells as the released guide's own fill.sh prints them over the translation 3bd86570cd235111… (all of the seat's roots in one cut). By AI agents, Wed Nov 11 2026. No macro, syntax, notation, axiom, sorry.
-/
import Derived.Test.YtaophnicdbmojaaChecked
import GoSem.Claim
import GoSem.ClaimJoined
import GoSem.ClaimMapViews
import Derived.JoinedTies
import Derived.KernelRfl
namespace Go.Proofs.Ytaophnicdbmojaa
/- THE CELL 'sum', in the pinned program and in every row, IS THE sha256 OF THE DUMP (.gsa) THAT YtaophnicdbmojaaProg.lean LOADS. Nothing in Lean hashes anything: it is a label: what it is worth is what the hold of that sum in a sandbox is worth. -/
noncomputable def Try.pinned : Pinned := { name := "ytaophnicdbmojaa", sum := "3bd86570cd2351119fa9feffcf8ef5fadbf7fbd9eda45a13c706e651a4fe16bd", checked := Try.checked }
namespace Rows
def none {H : Type} : Left H := { results := [], args := [] }

/-- 'tumuluslaw08.RootsReads': WHATEVER THE INPUT: true; the input reads as it did. -/
def rootsReadsSpec : ChangeSpec := { name := "rootsReads", fn := fun _ => fun
  | [d1, d2, d3, d4, d5, d6] => { results := [.lit (.bool true)], args := [d1, d2, d3, d4, d5, d6] }
  | _ => none }
def rootsReadsRow : OpenClaim := { program := "ytaophnicdbmojaa", sum := "3bd86570cd2351119fa9feffcf8ef5fadbf7fbd9eda45a13c706e651a4fe16bd", func := "tumulus/tumuluslaw08.RootsReads", spec := "rootsReads", unfollowed := true, recurses := true, plainKeys := false, apart := false }
def RootsReadsSaid : Prop := rootsReadsRow.holds Try.pinned (OpenSpec.ofChange rootsReadsSpec)

/-- ITS FALSE NEIGHBOUR: 'it returns false'. Refute it at one input. -/
def rootsReadsWrong : ChangeSpec := { name := "rootsReads", fn := fun _ => fun
  | [d1, d2, d3, d4, d5, d6] => { results := [.lit (.bool false)], args := [d1, d2, d3, d4, d5, d6] }
  | _ => none }
def RootsReadsWrongFalsely : Prop := rootsReadsRow.holds Try.pinned (OpenSpec.ofChange rootsReadsWrong)

/-- 'tumuluslaw08.RootsHas': WHATEVER THE INPUT: true; the input reads as it did. -/
def rootsHasSpec : ChangeSpec := { name := "rootsHas", fn := fun _ => fun
  | [d1, d2, d3] => { results := [.lit (.bool true)], args := [d1, d2, d3] }
  | _ => none }
def rootsHasRow : OpenClaim := { program := "ytaophnicdbmojaa", sum := "3bd86570cd2351119fa9feffcf8ef5fadbf7fbd9eda45a13c706e651a4fe16bd", func := "tumulus/tumuluslaw08.RootsHas", spec := "rootsHas", unfollowed := true, recurses := true, plainKeys := false, apart := false }
def RootsHasSaid : Prop := rootsHasRow.holds Try.pinned (OpenSpec.ofChange rootsHasSpec)

/-- ITS FALSE NEIGHBOUR: 'it returns false'. Refute it at one input. -/
def rootsHasWrong : ChangeSpec := { name := "rootsHas", fn := fun _ => fun
  | [d1, d2, d3] => { results := [.lit (.bool false)], args := [d1, d2, d3] }
  | _ => none }
def RootsHasWrongFalsely : Prop := rootsHasRow.holds Try.pinned (OpenSpec.ofChange rootsHasWrong)

/-- 'tumuluslaw08.RootsSame': WHATEVER THE INPUT: true; the input reads as it did. -/
def rootsSameSpec : ChangeSpec := { name := "rootsSame", fn := fun _ => fun
  | [d1, d2, d3, d4] => { results := [.lit (.bool true)], args := [d1, d2, d3, d4] }
  | _ => none }
def rootsSameRow : OpenClaim := { program := "ytaophnicdbmojaa", sum := "3bd86570cd2351119fa9feffcf8ef5fadbf7fbd9eda45a13c706e651a4fe16bd", func := "tumulus/tumuluslaw08.RootsSame", spec := "rootsSame", unfollowed := true, recurses := true, plainKeys := false, apart := false }
def RootsSameSaid : Prop := rootsSameRow.holds Try.pinned (OpenSpec.ofChange rootsSameSpec)

/-- ITS FALSE NEIGHBOUR: 'it returns false'. Refute it at one input. -/
def rootsSameWrong : ChangeSpec := { name := "rootsSame", fn := fun _ => fun
  | [d1, d2, d3, d4] => { results := [.lit (.bool false)], args := [d1, d2, d3, d4] }
  | _ => none }
def RootsSameWrongFalsely : Prop := rootsSameRow.holds Try.pinned (OpenSpec.ofChange rootsSameWrong)

/-- 'tumuluslaw08.RootsBack': WHATEVER THE INPUT: true; the input reads as it did. -/
def rootsBackSpec : ChangeSpec := { name := "rootsBack", fn := fun _ => fun
  | [d1, d2, d3, d4] => { results := [.lit (.bool true)], args := [d1, d2, d3, d4] }
  | _ => none }
def rootsBackRow : OpenClaim := { program := "ytaophnicdbmojaa", sum := "3bd86570cd2351119fa9feffcf8ef5fadbf7fbd9eda45a13c706e651a4fe16bd", func := "tumulus/tumuluslaw08.RootsBack", spec := "rootsBack", unfollowed := true, recurses := true, plainKeys := false, apart := false }
def RootsBackSaid : Prop := rootsBackRow.holds Try.pinned (OpenSpec.ofChange rootsBackSpec)

/-- ITS FALSE NEIGHBOUR: 'it returns false'. Refute it at one input. -/
def rootsBackWrong : ChangeSpec := { name := "rootsBack", fn := fun _ => fun
  | [d1, d2, d3, d4] => { results := [.lit (.bool false)], args := [d1, d2, d3, d4] }
  | _ => none }
def RootsBackWrongFalsely : Prop := rootsBackRow.holds Try.pinned (OpenSpec.ofChange rootsBackWrong)

/-- 'tumuluslaw08.RootsWrites': WHATEVER THE INPUT: true; the input reads as it did. -/
def rootsWritesSpec : ChangeSpec := { name := "rootsWrites", fn := fun _ => fun
  | [d1, d2, d3, d4, d5, d6] => { results := [.lit (.bool true)], args := [d1, d2, d3, d4, d5, d6] }
  | _ => none }
def rootsWritesRow : OpenClaim := { program := "ytaophnicdbmojaa", sum := "3bd86570cd2351119fa9feffcf8ef5fadbf7fbd9eda45a13c706e651a4fe16bd", func := "tumulus/tumuluslaw08.RootsWrites", spec := "rootsWrites", unfollowed := true, recurses := true, plainKeys := false, apart := false }
def RootsWritesSaid : Prop := rootsWritesRow.holds Try.pinned (OpenSpec.ofChange rootsWritesSpec)

/-- ITS FALSE NEIGHBOUR: 'it returns false'. Refute it at one input. -/
def rootsWritesWrong : ChangeSpec := { name := "rootsWrites", fn := fun _ => fun
  | [d1, d2, d3, d4, d5, d6] => { results := [.lit (.bool false)], args := [d1, d2, d3, d4, d5, d6] }
  | _ => none }
def RootsWritesWrongFalsely : Prop := rootsWritesRow.holds Try.pinned (OpenSpec.ofChange rootsWritesWrong)

/-- 'tumuluslaw09.SpaceErrors': WHATEVER THE INPUT: true; the input reads as it did. -/
def spaceErrorsSpec : ChangeSpec := { name := "spaceErrors", fn := fun _ => fun
  | [d1, d2, d3, d4, d5, d6] => { results := [.lit (.bool true)], args := [d1, d2, d3, d4, d5, d6] }
  | _ => none }
def spaceErrorsRow : OpenClaim := { program := "ytaophnicdbmojaa", sum := "3bd86570cd2351119fa9feffcf8ef5fadbf7fbd9eda45a13c706e651a4fe16bd", func := "tumulus/tumuluslaw09.SpaceErrors", spec := "spaceErrors", unfollowed := true, recurses := true, plainKeys := false, apart := false }
def SpaceErrorsSaid : Prop := spaceErrorsRow.holds Try.pinned (OpenSpec.ofChange spaceErrorsSpec)

/-- ITS FALSE NEIGHBOUR: 'it returns false'. Refute it at one input. -/
def spaceErrorsWrong : ChangeSpec := { name := "spaceErrors", fn := fun _ => fun
  | [d1, d2, d3, d4, d5, d6] => { results := [.lit (.bool false)], args := [d1, d2, d3, d4, d5, d6] }
  | _ => none }
def SpaceErrorsWrongFalsely : Prop := spaceErrorsRow.holds Try.pinned (OpenSpec.ofChange spaceErrorsWrong)

/-- 'tumuluslaw09.SpaceFills': WHATEVER THE INPUT: true; the input reads as it did. -/
def spaceFillsSpec : ChangeSpec := { name := "spaceFills", fn := fun _ => fun
  | [d1, d2, d3] => { results := [.lit (.bool true)], args := [d1, d2, d3] }
  | _ => none }
def spaceFillsRow : OpenClaim := { program := "ytaophnicdbmojaa", sum := "3bd86570cd2351119fa9feffcf8ef5fadbf7fbd9eda45a13c706e651a4fe16bd", func := "tumulus/tumuluslaw09.SpaceFills", spec := "spaceFills", unfollowed := true, recurses := true, plainKeys := false, apart := false }
def SpaceFillsSaid : Prop := spaceFillsRow.holds Try.pinned (OpenSpec.ofChange spaceFillsSpec)

/-- ITS FALSE NEIGHBOUR: 'it returns false'. Refute it at one input. -/
def spaceFillsWrong : ChangeSpec := { name := "spaceFills", fn := fun _ => fun
  | [d1, d2, d3] => { results := [.lit (.bool false)], args := [d1, d2, d3] }
  | _ => none }
def SpaceFillsWrongFalsely : Prop := spaceFillsRow.holds Try.pinned (OpenSpec.ofChange spaceFillsWrong)

/-- 'tumuluslaw09.SpaceAllocs': WHATEVER THE INPUT: true; the input reads as it did. -/
def spaceAllocsSpec : ChangeSpec := { name := "spaceAllocs", fn := fun _ => fun
  | [d1, d2, d3, d4] => { results := [.lit (.bool true)], args := [d1, d2, d3, d4] }
  | _ => none }
def spaceAllocsRow : OpenClaim := { program := "ytaophnicdbmojaa", sum := "3bd86570cd2351119fa9feffcf8ef5fadbf7fbd9eda45a13c706e651a4fe16bd", func := "tumulus/tumuluslaw09.SpaceAllocs", spec := "spaceAllocs", unfollowed := true, recurses := true, plainKeys := false, apart := false }
def SpaceAllocsSaid : Prop := spaceAllocsRow.holds Try.pinned (OpenSpec.ofChange spaceAllocsSpec)

/-- ITS FALSE NEIGHBOUR: 'it returns false'. Refute it at one input. -/
def spaceAllocsWrong : ChangeSpec := { name := "spaceAllocs", fn := fun _ => fun
  | [d1, d2, d3, d4] => { results := [.lit (.bool false)], args := [d1, d2, d3, d4] }
  | _ => none }
def SpaceAllocsWrongFalsely : Prop := spaceAllocsRow.holds Try.pinned (OpenSpec.ofChange spaceAllocsWrong)

/-- 'tumuluslaw10.ObjectOf': WHATEVER THE INPUT: true; the input reads as it did. -/
def objectOfSpec : ChangeSpec := { name := "objectOf", fn := fun _ => fun
  | [d1, d2, d3, d4, d5, d6] => { results := [.lit (.bool true)], args := [d1, d2, d3, d4, d5, d6] }
  | _ => none }
def objectOfRow : OpenClaim := { program := "ytaophnicdbmojaa", sum := "3bd86570cd2351119fa9feffcf8ef5fadbf7fbd9eda45a13c706e651a4fe16bd", func := "tumulus/tumuluslaw10.ObjectOf", spec := "objectOf", unfollowed := true, recurses := true, plainKeys := false, apart := false }
def ObjectOfSaid : Prop := objectOfRow.holds Try.pinned (OpenSpec.ofChange objectOfSpec)

/-- ITS FALSE NEIGHBOUR: 'it returns false'. Refute it at one input. -/
def objectOfWrong : ChangeSpec := { name := "objectOf", fn := fun _ => fun
  | [d1, d2, d3, d4, d5, d6] => { results := [.lit (.bool false)], args := [d1, d2, d3, d4, d5, d6] }
  | _ => none }
def ObjectOfWrongFalsely : Prop := objectOfRow.holds Try.pinned (OpenSpec.ofChange objectOfWrong)

/-- 'tumuluslaw10.ObjectNames': WHATEVER THE INPUT: true; the input reads as it did. -/
def objectNamesSpec : ChangeSpec := { name := "objectNames", fn := fun _ => fun
  | [d1, d2, d3] => { results := [.lit (.bool true)], args := [d1, d2, d3] }
  | _ => none }
def objectNamesRow : OpenClaim := { program := "ytaophnicdbmojaa", sum := "3bd86570cd2351119fa9feffcf8ef5fadbf7fbd9eda45a13c706e651a4fe16bd", func := "tumulus/tumuluslaw10.ObjectNames", spec := "objectNames", unfollowed := true, recurses := true, plainKeys := false, apart := false }
def ObjectNamesSaid : Prop := objectNamesRow.holds Try.pinned (OpenSpec.ofChange objectNamesSpec)

/-- ITS FALSE NEIGHBOUR: 'it returns false'. Refute it at one input. -/
def objectNamesWrong : ChangeSpec := { name := "objectNames", fn := fun _ => fun
  | [d1, d2, d3] => { results := [.lit (.bool false)], args := [d1, d2, d3] }
  | _ => none }
def ObjectNamesWrongFalsely : Prop := objectNamesRow.holds Try.pinned (OpenSpec.ofChange objectNamesWrong)

/-- 'tumuluslaw10.ObjectApart': WHATEVER THE INPUT: true; the input reads as it did. -/
def objectApartSpec : ChangeSpec := { name := "objectApart", fn := fun _ => fun
  | [d1, d2, d3] => { results := [.lit (.bool true)], args := [d1, d2, d3] }
  | _ => none }
def objectApartRow : OpenClaim := { program := "ytaophnicdbmojaa", sum := "3bd86570cd2351119fa9feffcf8ef5fadbf7fbd9eda45a13c706e651a4fe16bd", func := "tumulus/tumuluslaw10.ObjectApart", spec := "objectApart", unfollowed := true, recurses := true, plainKeys := false, apart := false }
def ObjectApartSaid : Prop := objectApartRow.holds Try.pinned (OpenSpec.ofChange objectApartSpec)

/-- ITS FALSE NEIGHBOUR: 'it returns false'. Refute it at one input. -/
def objectApartWrong : ChangeSpec := { name := "objectApart", fn := fun _ => fun
  | [d1, d2, d3] => { results := [.lit (.bool false)], args := [d1, d2, d3] }
  | _ => none }
def ObjectApartWrongFalsely : Prop := objectApartRow.holds Try.pinned (OpenSpec.ofChange objectApartWrong)

/-- 'tumuluslaw10.ObjectFields': WHATEVER THE INPUT: true; the input reads as it did. -/
def objectFieldsSpec : ChangeSpec := { name := "objectFields", fn := fun _ => fun
  | [d1, d2, d3, d4, d5, d6, d7, d8] => { results := [.lit (.bool true)], args := [d1, d2, d3, d4, d5, d6, d7, d8] }
  | _ => none }
def objectFieldsRow : OpenClaim := { program := "ytaophnicdbmojaa", sum := "3bd86570cd2351119fa9feffcf8ef5fadbf7fbd9eda45a13c706e651a4fe16bd", func := "tumulus/tumuluslaw10.ObjectFields", spec := "objectFields", unfollowed := true, recurses := true, plainKeys := false, apart := false }
def ObjectFieldsSaid : Prop := objectFieldsRow.holds Try.pinned (OpenSpec.ofChange objectFieldsSpec)

/-- ITS FALSE NEIGHBOUR: 'it returns false'. Refute it at one input. -/
def objectFieldsWrong : ChangeSpec := { name := "objectFields", fn := fun _ => fun
  | [d1, d2, d3, d4, d5, d6, d7, d8] => { results := [.lit (.bool false)], args := [d1, d2, d3, d4, d5, d6, d7, d8] }
  | _ => none }
def ObjectFieldsWrongFalsely : Prop := objectFieldsRow.holds Try.pinned (OpenSpec.ofChange objectFieldsWrong)

/- THE SECOND FORM. 'bulk': how many values and letters a reading holds, each counted each time it is reached (what is shared counts as often as it is met; a slice's spare places count too). A statement '..UptoSaid' is the law's where the arguments, and the package variables that the reading takes, are together of bulk at most 1048576: NARROWER than '..Said'. Prove '..Said' where nothing that the law and all that it calls make is longer than what came in: it says more and counts as full. Else prove '..UptoSaid'. A law counts once. -/
mutual
def uptoBulk {H : Type} : DataW H → Nat
  | .lit (.string bytes) => bytes.length + 1
  | .lit _ => 1
  | .nil => 1
  | .ptr d => uptoBulk d + 1
  | .slice elems spare => uptoBulkAll elems + uptoBulkAll spare + 1
  | .agg parts => uptoBulkAll parts + 1
  | .iface _ d => uptoBulk d + 1
  | .map entries => uptoBulkEntries entries + 1
  | .held _ => 1
def uptoBulkAll {H : Type} : List (DataW H) → Nat
  | [] => 0
  | d :: r => uptoBulk d + uptoBulkAll r
def uptoBulkEntries {H : Type} : List (Lit × DataW H) → Nat
  | [] => 0
  | x :: r => uptoBulkEntry x + uptoBulkEntries r
def uptoBulkEntry {H : Type} : Lit × DataW H → Nat
  | (.string bytes, d) => bytes.length + uptoBulk d + 1
  | (_, d) => uptoBulk d + 1
 end
def uptoSmall : (H : Type) → List (DataW H) → Bool := fun _ ds => decide (uptoBulkAll ds ≤ 1048576)
def OpenSpec.upto (s : _root_.Go.ChangeSpec) : _root_.Go.OpenSpec := { _root_.Go.OpenSpec.ofChange s with cond := some uptoSmall }

/-- 'tumuluslaw08.RootsReads', WHERE WHAT IT READS IS OF BULK AT MOST 1048576: true; the input reads as it did. -/
def rootsReadsUptoRow : OpenClaim := { program := "ytaophnicdbmojaa", sum := "3bd86570cd2351119fa9feffcf8ef5fadbf7fbd9eda45a13c706e651a4fe16bd", func := "tumulus/tumuluslaw08.RootsReads", spec := "rootsReads", unfollowed := true, recurses := true, plainKeys := false, apart := false, narrowed := true }
def RootsReadsUptoSaid : Prop := rootsReadsUptoRow.holds Try.pinned (OpenSpec.upto rootsReadsSpec)

/-- 'tumuluslaw08.RootsHas', WHERE WHAT IT READS IS OF BULK AT MOST 1048576: true; the input reads as it did. -/
def rootsHasUptoRow : OpenClaim := { program := "ytaophnicdbmojaa", sum := "3bd86570cd2351119fa9feffcf8ef5fadbf7fbd9eda45a13c706e651a4fe16bd", func := "tumulus/tumuluslaw08.RootsHas", spec := "rootsHas", unfollowed := true, recurses := true, plainKeys := false, apart := false, narrowed := true }
def RootsHasUptoSaid : Prop := rootsHasUptoRow.holds Try.pinned (OpenSpec.upto rootsHasSpec)

/-- 'tumuluslaw08.RootsSame', WHERE WHAT IT READS IS OF BULK AT MOST 1048576: true; the input reads as it did. -/
def rootsSameUptoRow : OpenClaim := { program := "ytaophnicdbmojaa", sum := "3bd86570cd2351119fa9feffcf8ef5fadbf7fbd9eda45a13c706e651a4fe16bd", func := "tumulus/tumuluslaw08.RootsSame", spec := "rootsSame", unfollowed := true, recurses := true, plainKeys := false, apart := false, narrowed := true }
def RootsSameUptoSaid : Prop := rootsSameUptoRow.holds Try.pinned (OpenSpec.upto rootsSameSpec)

/-- 'tumuluslaw08.RootsBack', WHERE WHAT IT READS IS OF BULK AT MOST 1048576: true; the input reads as it did. -/
def rootsBackUptoRow : OpenClaim := { program := "ytaophnicdbmojaa", sum := "3bd86570cd2351119fa9feffcf8ef5fadbf7fbd9eda45a13c706e651a4fe16bd", func := "tumulus/tumuluslaw08.RootsBack", spec := "rootsBack", unfollowed := true, recurses := true, plainKeys := false, apart := false, narrowed := true }
def RootsBackUptoSaid : Prop := rootsBackUptoRow.holds Try.pinned (OpenSpec.upto rootsBackSpec)

/-- 'tumuluslaw08.RootsWrites', WHERE WHAT IT READS IS OF BULK AT MOST 1048576: true; the input reads as it did. -/
def rootsWritesUptoRow : OpenClaim := { program := "ytaophnicdbmojaa", sum := "3bd86570cd2351119fa9feffcf8ef5fadbf7fbd9eda45a13c706e651a4fe16bd", func := "tumulus/tumuluslaw08.RootsWrites", spec := "rootsWrites", unfollowed := true, recurses := true, plainKeys := false, apart := false, narrowed := true }
def RootsWritesUptoSaid : Prop := rootsWritesUptoRow.holds Try.pinned (OpenSpec.upto rootsWritesSpec)

/-- 'tumuluslaw09.SpaceErrors', WHERE WHAT IT READS IS OF BULK AT MOST 1048576: true; the input reads as it did. -/
def spaceErrorsUptoRow : OpenClaim := { program := "ytaophnicdbmojaa", sum := "3bd86570cd2351119fa9feffcf8ef5fadbf7fbd9eda45a13c706e651a4fe16bd", func := "tumulus/tumuluslaw09.SpaceErrors", spec := "spaceErrors", unfollowed := true, recurses := true, plainKeys := false, apart := false, narrowed := true }
def SpaceErrorsUptoSaid : Prop := spaceErrorsUptoRow.holds Try.pinned (OpenSpec.upto spaceErrorsSpec)

/-- 'tumuluslaw09.SpaceFills', WHERE WHAT IT READS IS OF BULK AT MOST 1048576: true; the input reads as it did. -/
def spaceFillsUptoRow : OpenClaim := { program := "ytaophnicdbmojaa", sum := "3bd86570cd2351119fa9feffcf8ef5fadbf7fbd9eda45a13c706e651a4fe16bd", func := "tumulus/tumuluslaw09.SpaceFills", spec := "spaceFills", unfollowed := true, recurses := true, plainKeys := false, apart := false, narrowed := true }
def SpaceFillsUptoSaid : Prop := spaceFillsUptoRow.holds Try.pinned (OpenSpec.upto spaceFillsSpec)

/-- 'tumuluslaw09.SpaceAllocs', WHERE WHAT IT READS IS OF BULK AT MOST 1048576: true; the input reads as it did. -/
def spaceAllocsUptoRow : OpenClaim := { program := "ytaophnicdbmojaa", sum := "3bd86570cd2351119fa9feffcf8ef5fadbf7fbd9eda45a13c706e651a4fe16bd", func := "tumulus/tumuluslaw09.SpaceAllocs", spec := "spaceAllocs", unfollowed := true, recurses := true, plainKeys := false, apart := false, narrowed := true }
def SpaceAllocsUptoSaid : Prop := spaceAllocsUptoRow.holds Try.pinned (OpenSpec.upto spaceAllocsSpec)

/-- 'tumuluslaw10.ObjectOf', WHERE WHAT IT READS IS OF BULK AT MOST 1048576: true; the input reads as it did. -/
def objectOfUptoRow : OpenClaim := { program := "ytaophnicdbmojaa", sum := "3bd86570cd2351119fa9feffcf8ef5fadbf7fbd9eda45a13c706e651a4fe16bd", func := "tumulus/tumuluslaw10.ObjectOf", spec := "objectOf", unfollowed := true, recurses := true, plainKeys := false, apart := false, narrowed := true }
def ObjectOfUptoSaid : Prop := objectOfUptoRow.holds Try.pinned (OpenSpec.upto objectOfSpec)

/-- 'tumuluslaw10.ObjectNames', WHERE WHAT IT READS IS OF BULK AT MOST 1048576: true; the input reads as it did. -/
def objectNamesUptoRow : OpenClaim := { program := "ytaophnicdbmojaa", sum := "3bd86570cd2351119fa9feffcf8ef5fadbf7fbd9eda45a13c706e651a4fe16bd", func := "tumulus/tumuluslaw10.ObjectNames", spec := "objectNames", unfollowed := true, recurses := true, plainKeys := false, apart := false, narrowed := true }
def ObjectNamesUptoSaid : Prop := objectNamesUptoRow.holds Try.pinned (OpenSpec.upto objectNamesSpec)

/-- 'tumuluslaw10.ObjectApart', WHERE WHAT IT READS IS OF BULK AT MOST 1048576: true; the input reads as it did. -/
def objectApartUptoRow : OpenClaim := { program := "ytaophnicdbmojaa", sum := "3bd86570cd2351119fa9feffcf8ef5fadbf7fbd9eda45a13c706e651a4fe16bd", func := "tumulus/tumuluslaw10.ObjectApart", spec := "objectApart", unfollowed := true, recurses := true, plainKeys := false, apart := false, narrowed := true }
def ObjectApartUptoSaid : Prop := objectApartUptoRow.holds Try.pinned (OpenSpec.upto objectApartSpec)

/-- 'tumuluslaw10.ObjectFields', WHERE WHAT IT READS IS OF BULK AT MOST 1048576: true; the input reads as it did. -/
def objectFieldsUptoRow : OpenClaim := { program := "ytaophnicdbmojaa", sum := "3bd86570cd2351119fa9feffcf8ef5fadbf7fbd9eda45a13c706e651a4fe16bd", func := "tumulus/tumuluslaw10.ObjectFields", spec := "objectFields", unfollowed := true, recurses := true, plainKeys := false, apart := false, narrowed := true }
def ObjectFieldsUptoSaid : Prop := objectFieldsUptoRow.holds Try.pinned (OpenSpec.upto objectFieldsSpec)

end Rows
end Go.Proofs.Ytaophnicdbmojaa
