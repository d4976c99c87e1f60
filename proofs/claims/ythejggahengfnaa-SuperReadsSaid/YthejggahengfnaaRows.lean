/-
  No cell of these rows narrows 'for every input' (looked for: loops, veiled, ifaces, maps, wideKeys, modest, calm, conditions, laid).
  DERIVED. THE GIVEN ROWS OF THIS SEAT. 11 by the template 'for every input the law returns true; each argument reads behind the call as it read before'; 0 by the template 'total and deterministic' (their statements: YthejggahengfnaaTotals.lean).
  GIVEN WITH THE SEED: the statements are not yours to turn. If you find one false, say at which input.
  Laid BY PROGRAM, IN A SANDBOX (cutbox-rows.mjs): the forced cells as the released guide's own fill.sh prints them over the translation a877e301f8e26269… (all of the seat's roots in one cut). By AI agents, Wed Nov 11 2026. No macro, syntax, notation, axiom, sorry.
-/
import Derived.Test.YthejggahengfnaaChecked
import GoSem.Claim
import GoSem.ClaimJoined
import GoSem.ClaimMapViews
import Derived.JoinedTies
import Derived.KernelRfl
namespace Go.Proofs.Ythejggahengfnaa
/- THE CELL 'sum', in the pinned program and in every row, IS THE sha256 OF THE DUMP (.gsa) THAT YthejggahengfnaaProg.lean LOADS. Nothing in Lean hashes anything: it is a label: what it is worth is what the hold of that sum in a sandbox is worth. -/
noncomputable def Try.pinned : Pinned := { name := "ythejggahengfnaa", sum := "a877e301f8e2626995e8f928bcb4aedec992bbfff2163f8c64d51d6587e7c551", checked := Try.checked }
namespace Rows
def none {H : Type} : Left H := { results := [], args := [] }

/-- 'tumuluslaw04.HeadPacks': WHATEVER THE INPUT: true; the input reads as it did. -/
def headPacksSpec : ChangeSpec := { name := "headPacks", fn := fun _ => fun
  | [d1, d2] => { results := [.lit (.bool true)], args := [d1, d2] }
  | _ => none }
def headPacksRow : OpenClaim := { program := "ythejggahengfnaa", sum := "a877e301f8e2626995e8f928bcb4aedec992bbfff2163f8c64d51d6587e7c551", func := "tumulus/tumuluslaw04.HeadPacks", spec := "headPacks", unfollowed := true, recurses := true, apart := false }
def HeadPacksSaid : Prop := headPacksRow.holds Try.pinned (OpenSpec.ofChange headPacksSpec)

/-- ITS FALSE NEIGHBOUR: 'it returns false'. Refute it at one input. -/
def headPacksWrong : ChangeSpec := { name := "headPacks", fn := fun _ => fun
  | [d1, d2] => { results := [.lit (.bool false)], args := [d1, d2] }
  | _ => none }
def HeadPacksWrongFalsely : Prop := headPacksRow.holds Try.pinned (OpenSpec.ofChange headPacksWrong)

/-- 'tumuluslaw04.HeadChecks': WHATEVER THE INPUT: true; the input reads as it did. -/
def headChecksSpec : ChangeSpec := { name := "headChecks", fn := fun _ => fun
  | [d1, d2, d3] => { results := [.lit (.bool true)], args := [d1, d2, d3] }
  | _ => none }
def headChecksRow : OpenClaim := { program := "ythejggahengfnaa", sum := "a877e301f8e2626995e8f928bcb4aedec992bbfff2163f8c64d51d6587e7c551", func := "tumulus/tumuluslaw04.HeadChecks", spec := "headChecks", unfollowed := true, recurses := true, apart := false }
def HeadChecksSaid : Prop := headChecksRow.holds Try.pinned (OpenSpec.ofChange headChecksSpec)

/-- ITS FALSE NEIGHBOUR: 'it returns false'. Refute it at one input. -/
def headChecksWrong : ChangeSpec := { name := "headChecks", fn := fun _ => fun
  | [d1, d2, d3] => { results := [.lit (.bool false)], args := [d1, d2, d3] }
  | _ => none }
def HeadChecksWrongFalsely : Prop := headChecksRow.holds Try.pinned (OpenSpec.ofChange headChecksWrong)

/-- 'tumuluslaw04.HeadUnpacks': WHATEVER THE INPUT: true; the input reads as it did. -/
def headUnpacksSpec : ChangeSpec := { name := "headUnpacks", fn := fun _ => fun
  | [d1, d2, d3] => { results := [.lit (.bool true)], args := [d1, d2, d3] }
  | _ => none }
def headUnpacksRow : OpenClaim := { program := "ythejggahengfnaa", sum := "a877e301f8e2626995e8f928bcb4aedec992bbfff2163f8c64d51d6587e7c551", func := "tumulus/tumuluslaw04.HeadUnpacks", spec := "headUnpacks", unfollowed := true, recurses := true, apart := false }
def HeadUnpacksSaid : Prop := headUnpacksRow.holds Try.pinned (OpenSpec.ofChange headUnpacksSpec)

/-- ITS FALSE NEIGHBOUR: 'it returns false'. Refute it at one input. -/
def headUnpacksWrong : ChangeSpec := { name := "headUnpacks", fn := fun _ => fun
  | [d1, d2, d3] => { results := [.lit (.bool false)], args := [d1, d2, d3] }
  | _ => none }
def HeadUnpacksWrongFalsely : Prop := headUnpacksRow.holds Try.pinned (OpenSpec.ofChange headUnpacksWrong)

/-- 'tumuluslaw04.HeadApart': WHATEVER THE INPUT: true; the input reads as it did. -/
def headApartSpec : ChangeSpec := { name := "headApart", fn := fun _ => fun
  | [d1, d2, d3, d4] => { results := [.lit (.bool true)], args := [d1, d2, d3, d4] }
  | _ => none }
def headApartRow : OpenClaim := { program := "ythejggahengfnaa", sum := "a877e301f8e2626995e8f928bcb4aedec992bbfff2163f8c64d51d6587e7c551", func := "tumulus/tumuluslaw04.HeadApart", spec := "headApart", unfollowed := true, recurses := true, apart := false }
def HeadApartSaid : Prop := headApartRow.holds Try.pinned (OpenSpec.ofChange headApartSpec)

/-- ITS FALSE NEIGHBOUR: 'it returns false'. Refute it at one input. -/
def headApartWrong : ChangeSpec := { name := "headApart", fn := fun _ => fun
  | [d1, d2, d3, d4] => { results := [.lit (.bool false)], args := [d1, d2, d3, d4] }
  | _ => none }
def HeadApartWrongFalsely : Prop := headApartRow.holds Try.pinned (OpenSpec.ofChange headApartWrong)

/-- 'tumuluslaw04.HeadSizes': WHATEVER THE INPUT: true; the input reads as it did. -/
def headSizesSpec : ChangeSpec := { name := "headSizes", fn := fun _ => fun
  | [d1, d2] => { results := [.lit (.bool true)], args := [d1, d2] }
  | _ => none }
def headSizesRow : OpenClaim := { program := "ythejggahengfnaa", sum := "a877e301f8e2626995e8f928bcb4aedec992bbfff2163f8c64d51d6587e7c551", func := "tumulus/tumuluslaw04.HeadSizes", spec := "headSizes", unfollowed := true, recurses := true, apart := false }
def HeadSizesSaid : Prop := headSizesRow.holds Try.pinned (OpenSpec.ofChange headSizesSpec)

/-- ITS FALSE NEIGHBOUR: 'it returns false'. Refute it at one input. -/
def headSizesWrong : ChangeSpec := { name := "headSizes", fn := fun _ => fun
  | [d1, d2] => { results := [.lit (.bool false)], args := [d1, d2] }
  | _ => none }
def HeadSizesWrongFalsely : Prop := headSizesRow.holds Try.pinned (OpenSpec.ofChange headSizesWrong)

/-- 'tumuluslaw05.SuperFormats': WHATEVER THE INPUT: true; the input reads as it did. -/
def superFormatsSpec : ChangeSpec := { name := "superFormats", fn := fun _ => fun
  | [d1, d2, d3] => { results := [.lit (.bool true)], args := [d1, d2, d3] }
  | _ => none }
def superFormatsRow : OpenClaim := { program := "ythejggahengfnaa", sum := "a877e301f8e2626995e8f928bcb4aedec992bbfff2163f8c64d51d6587e7c551", func := "tumulus/tumuluslaw05.SuperFormats", spec := "superFormats", unfollowed := true, recurses := true, apart := false }
def SuperFormatsSaid : Prop := superFormatsRow.holds Try.pinned (OpenSpec.ofChange superFormatsSpec)

/-- ITS FALSE NEIGHBOUR: 'it returns false'. Refute it at one input. -/
def superFormatsWrong : ChangeSpec := { name := "superFormats", fn := fun _ => fun
  | [d1, d2, d3] => { results := [.lit (.bool false)], args := [d1, d2, d3] }
  | _ => none }
def SuperFormatsWrongFalsely : Prop := superFormatsRow.holds Try.pinned (OpenSpec.ofChange superFormatsWrong)

/-- 'tumuluslaw05.SuperReads': WHATEVER THE INPUT: true; the input reads as it did. -/
def superReadsSpec : ChangeSpec := { name := "superReads", fn := fun _ => fun
  | [d1, d2, d3, d4] => { results := [.lit (.bool true)], args := [d1, d2, d3, d4] }
  | _ => none }
def superReadsRow : OpenClaim := { program := "ythejggahengfnaa", sum := "a877e301f8e2626995e8f928bcb4aedec992bbfff2163f8c64d51d6587e7c551", func := "tumulus/tumuluslaw05.SuperReads", spec := "superReads", unfollowed := true, recurses := true, apart := false }
def SuperReadsSaid : Prop := superReadsRow.holds Try.pinned (OpenSpec.ofChange superReadsSpec)

/-- ITS FALSE NEIGHBOUR: 'it returns false'. Refute it at one input. -/
def superReadsWrong : ChangeSpec := { name := "superReads", fn := fun _ => fun
  | [d1, d2, d3, d4] => { results := [.lit (.bool false)], args := [d1, d2, d3, d4] }
  | _ => none }
def SuperReadsWrongFalsely : Prop := superReadsRow.holds Try.pinned (OpenSpec.ofChange superReadsWrong)

/-- 'tumuluslaw05.SuperMagic': WHATEVER THE INPUT: true; the input reads as it did. -/
def superMagicSpec : ChangeSpec := { name := "superMagic", fn := fun _ => fun
  | [d1, d2] => { results := [.lit (.bool true)], args := [d1, d2] }
  | _ => none }
def superMagicRow : OpenClaim := { program := "ythejggahengfnaa", sum := "a877e301f8e2626995e8f928bcb4aedec992bbfff2163f8c64d51d6587e7c551", func := "tumulus/tumuluslaw05.SuperMagic", spec := "superMagic", unfollowed := true, recurses := true, apart := false }
def SuperMagicSaid : Prop := superMagicRow.holds Try.pinned (OpenSpec.ofChange superMagicSpec)

/-- ITS FALSE NEIGHBOUR: 'it returns false'. Refute it at one input. -/
def superMagicWrong : ChangeSpec := { name := "superMagic", fn := fun _ => fun
  | [d1, d2] => { results := [.lit (.bool false)], args := [d1, d2] }
  | _ => none }
def SuperMagicWrongFalsely : Prop := superMagicRow.holds Try.pinned (OpenSpec.ofChange superMagicWrong)

/-- 'tumuluslaw05.SuperRefuses': WHATEVER THE INPUT: true; the input reads as it did. -/
def superRefusesSpec : ChangeSpec := { name := "superRefuses", fn := fun _ => fun
  | [d1, d2, d3, d4, d5] => { results := [.lit (.bool true)], args := [d1, d2, d3, d4, d5] }
  | _ => none }
def superRefusesRow : OpenClaim := { program := "ythejggahengfnaa", sum := "a877e301f8e2626995e8f928bcb4aedec992bbfff2163f8c64d51d6587e7c551", func := "tumulus/tumuluslaw05.SuperRefuses", spec := "superRefuses", unfollowed := true, recurses := true, apart := false }
def SuperRefusesSaid : Prop := superRefusesRow.holds Try.pinned (OpenSpec.ofChange superRefusesSpec)

/-- ITS FALSE NEIGHBOUR: 'it returns false'. Refute it at one input. -/
def superRefusesWrong : ChangeSpec := { name := "superRefuses", fn := fun _ => fun
  | [d1, d2, d3, d4, d5] => { results := [.lit (.bool false)], args := [d1, d2, d3, d4, d5] }
  | _ => none }
def SuperRefusesWrongFalsely : Prop := superRefusesRow.holds Try.pinned (OpenSpec.ofChange superRefusesWrong)

/-- 'tumuluslaw05.SuperTwice': WHATEVER THE INPUT: true; the input reads as it did. -/
def superTwiceSpec : ChangeSpec := { name := "superTwice", fn := fun _ => fun
  | [d1, d2, d3, d4] => { results := [.lit (.bool true)], args := [d1, d2, d3, d4] }
  | _ => none }
def superTwiceRow : OpenClaim := { program := "ythejggahengfnaa", sum := "a877e301f8e2626995e8f928bcb4aedec992bbfff2163f8c64d51d6587e7c551", func := "tumulus/tumuluslaw05.SuperTwice", spec := "superTwice", unfollowed := true, recurses := true, apart := false }
def SuperTwiceSaid : Prop := superTwiceRow.holds Try.pinned (OpenSpec.ofChange superTwiceSpec)

/-- ITS FALSE NEIGHBOUR: 'it returns false'. Refute it at one input. -/
def superTwiceWrong : ChangeSpec := { name := "superTwice", fn := fun _ => fun
  | [d1, d2, d3, d4] => { results := [.lit (.bool false)], args := [d1, d2, d3, d4] }
  | _ => none }
def SuperTwiceWrongFalsely : Prop := superTwiceRow.holds Try.pinned (OpenSpec.ofChange superTwiceWrong)

/-- 'tumuluslaw05.SuperCut': WHATEVER THE INPUT: true; the input reads as it did. -/
def superCutSpec : ChangeSpec := { name := "superCut", fn := fun _ => fun
  | [d1, d2, d3, d4, d5] => { results := [.lit (.bool true)], args := [d1, d2, d3, d4, d5] }
  | _ => none }
def superCutRow : OpenClaim := { program := "ythejggahengfnaa", sum := "a877e301f8e2626995e8f928bcb4aedec992bbfff2163f8c64d51d6587e7c551", func := "tumulus/tumuluslaw05.SuperCut", spec := "superCut", unfollowed := true, recurses := true, apart := false }
def SuperCutSaid : Prop := superCutRow.holds Try.pinned (OpenSpec.ofChange superCutSpec)

/-- ITS FALSE NEIGHBOUR: 'it returns false'. Refute it at one input. -/
def superCutWrong : ChangeSpec := { name := "superCut", fn := fun _ => fun
  | [d1, d2, d3, d4, d5] => { results := [.lit (.bool false)], args := [d1, d2, d3, d4, d5] }
  | _ => none }
def SuperCutWrongFalsely : Prop := superCutRow.holds Try.pinned (OpenSpec.ofChange superCutWrong)

/- THE SECOND FORM. 'bulk': how many values and letters a reading holds, each counted each time it is reached (what is shared counts as often as it is met; a slice's spare places count too). A statement '..UptoSaid' is the law's where the arguments, and the package variables that the reading takes, are together of bulk at most 1048576: NARROWER than '..Said'. Prove '..Said' where nothing that the law and all that it calls make is longer than what came in: it says more and counts as full. Else prove '..UptoSaid'. A law counts once. -/
mutual
def uptoBulk {H : Type} : DataW H → Nat
  | .lit (.string bytes) => bytes.length + 1
  | .lit _ => 1
  | .nil => 1
  | .ptr d => uptoBulk d + 1
  | .slice elems spare => uptoBulkAll elems + uptoBulkAll spare + 1
  | .agg parts => uptoBulkAll parts + 1
  | .iface _ d => uptoBulk d + 1
  | .map entries => uptoBulkEntries entries + 1
  | .held _ => 1
def uptoBulkAll {H : Type} : List (DataW H) → Nat
  | [] => 0
  | d :: r => uptoBulk d + uptoBulkAll r
def uptoBulkEntries {H : Type} : List (Lit × DataW H) → Nat
  | [] => 0
  | x :: r => uptoBulkEntry x + uptoBulkEntries r
def uptoBulkEntry {H : Type} : Lit × DataW H → Nat
  | (.string bytes, d) => bytes.length + uptoBulk d + 1
  | (_, d) => uptoBulk d + 1
 end
def uptoSmall : (H : Type) → List (DataW H) → Bool := fun _ ds => decide (uptoBulkAll ds ≤ 1048576)
def OpenSpec.upto (s : _root_.Go.ChangeSpec) : _root_.Go.OpenSpec := { _root_.Go.OpenSpec.ofChange s with cond := some uptoSmall }

/-- 'tumuluslaw04.HeadPacks', WHERE WHAT IT READS IS OF BULK AT MOST 1048576: true; the input reads as it did. -/
def headPacksUptoRow : OpenClaim := { program := "ythejggahengfnaa", sum := "a877e301f8e2626995e8f928bcb4aedec992bbfff2163f8c64d51d6587e7c551", func := "tumulus/tumuluslaw04.HeadPacks", spec := "headPacks", unfollowed := true, recurses := true, apart := false, narrowed := true }
def HeadPacksUptoSaid : Prop := headPacksUptoRow.holds Try.pinned (OpenSpec.upto headPacksSpec)

/-- 'tumuluslaw04.HeadChecks', WHERE WHAT IT READS IS OF BULK AT MOST 1048576: true; the input reads as it did. -/
def headChecksUptoRow : OpenClaim := { program := "ythejggahengfnaa", sum := "a877e301f8e2626995e8f928bcb4aedec992bbfff2163f8c64d51d6587e7c551", func := "tumulus/tumuluslaw04.HeadChecks", spec := "headChecks", unfollowed := true, recurses := true, apart := false, narrowed := true }
def HeadChecksUptoSaid : Prop := headChecksUptoRow.holds Try.pinned (OpenSpec.upto headChecksSpec)

/-- 'tumuluslaw04.HeadUnpacks', WHERE WHAT IT READS IS OF BULK AT MOST 1048576: true; the input reads as it did. -/
def headUnpacksUptoRow : OpenClaim := { program := "ythejggahengfnaa", sum := "a877e301f8e2626995e8f928bcb4aedec992bbfff2163f8c64d51d6587e7c551", func := "tumulus/tumuluslaw04.HeadUnpacks", spec := "headUnpacks", unfollowed := true, recurses := true, apart := false, narrowed := true }
def HeadUnpacksUptoSaid : Prop := headUnpacksUptoRow.holds Try.pinned (OpenSpec.upto headUnpacksSpec)

/-- 'tumuluslaw04.HeadApart', WHERE WHAT IT READS IS OF BULK AT MOST 1048576: true; the input reads as it did. -/
def headApartUptoRow : OpenClaim := { program := "ythejggahengfnaa", sum := "a877e301f8e2626995e8f928bcb4aedec992bbfff2163f8c64d51d6587e7c551", func := "tumulus/tumuluslaw04.HeadApart", spec := "headApart", unfollowed := true, recurses := true, apart := false, narrowed := true }
def HeadApartUptoSaid : Prop := headApartUptoRow.holds Try.pinned (OpenSpec.upto headApartSpec)

/-- 'tumuluslaw04.HeadSizes', WHERE WHAT IT READS IS OF BULK AT MOST 1048576: true; the input reads as it did. -/
def headSizesUptoRow : OpenClaim := { program := "ythejggahengfnaa", sum := "a877e301f8e2626995e8f928bcb4aedec992bbfff2163f8c64d51d6587e7c551", func := "tumulus/tumuluslaw04.HeadSizes", spec := "headSizes", unfollowed := true, recurses := true, apart := false, narrowed := true }
def HeadSizesUptoSaid : Prop := headSizesUptoRow.holds Try.pinned (OpenSpec.upto headSizesSpec)

/-- 'tumuluslaw05.SuperFormats', WHERE WHAT IT READS IS OF BULK AT MOST 1048576: true; the input reads as it did. -/
def superFormatsUptoRow : OpenClaim := { program := "ythejggahengfnaa", sum := "a877e301f8e2626995e8f928bcb4aedec992bbfff2163f8c64d51d6587e7c551", func := "tumulus/tumuluslaw05.SuperFormats", spec := "superFormats", unfollowed := true, recurses := true, apart := false, narrowed := true }
def SuperFormatsUptoSaid : Prop := superFormatsUptoRow.holds Try.pinned (OpenSpec.upto superFormatsSpec)

/-- 'tumuluslaw05.SuperReads', WHERE WHAT IT READS IS OF BULK AT MOST 1048576: true; the input reads as it did. -/
def superReadsUptoRow : OpenClaim := { program := "ythejggahengfnaa", sum := "a877e301f8e2626995e8f928bcb4aedec992bbfff2163f8c64d51d6587e7c551", func := "tumulus/tumuluslaw05.SuperReads", spec := "superReads", unfollowed := true, recurses := true, apart := false, narrowed := true }
def SuperReadsUptoSaid : Prop := superReadsUptoRow.holds Try.pinned (OpenSpec.upto superReadsSpec)

/-- 'tumuluslaw05.SuperMagic', WHERE WHAT IT READS IS OF BULK AT MOST 1048576: true; the input reads as it did. -/
def superMagicUptoRow : OpenClaim := { program := "ythejggahengfnaa", sum := "a877e301f8e2626995e8f928bcb4aedec992bbfff2163f8c64d51d6587e7c551", func := "tumulus/tumuluslaw05.SuperMagic", spec := "superMagic", unfollowed := true, recurses := true, apart := false, narrowed := true }
def SuperMagicUptoSaid : Prop := superMagicUptoRow.holds Try.pinned (OpenSpec.upto superMagicSpec)

/-- 'tumuluslaw05.SuperRefuses', WHERE WHAT IT READS IS OF BULK AT MOST 1048576: true; the input reads as it did. -/
def superRefusesUptoRow : OpenClaim := { program := "ythejggahengfnaa", sum := "a877e301f8e2626995e8f928bcb4aedec992bbfff2163f8c64d51d6587e7c551", func := "tumulus/tumuluslaw05.SuperRefuses", spec := "superRefuses", unfollowed := true, recurses := true, apart := false, narrowed := true }
def SuperRefusesUptoSaid : Prop := superRefusesUptoRow.holds Try.pinned (OpenSpec.upto superRefusesSpec)

/-- 'tumuluslaw05.SuperTwice', WHERE WHAT IT READS IS OF BULK AT MOST 1048576: true; the input reads as it did. -/
def superTwiceUptoRow : OpenClaim := { program := "ythejggahengfnaa", sum := "a877e301f8e2626995e8f928bcb4aedec992bbfff2163f8c64d51d6587e7c551", func := "tumulus/tumuluslaw05.SuperTwice", spec := "superTwice", unfollowed := true, recurses := true, apart := false, narrowed := true }
def SuperTwiceUptoSaid : Prop := superTwiceUptoRow.holds Try.pinned (OpenSpec.upto superTwiceSpec)

/-- 'tumuluslaw05.SuperCut', WHERE WHAT IT READS IS OF BULK AT MOST 1048576: true; the input reads as it did. -/
def superCutUptoRow : OpenClaim := { program := "ythejggahengfnaa", sum := "a877e301f8e2626995e8f928bcb4aedec992bbfff2163f8c64d51d6587e7c551", func := "tumulus/tumuluslaw05.SuperCut", spec := "superCut", unfollowed := true, recurses := true, apart := false, narrowed := true }
def SuperCutUptoSaid : Prop := superCutUptoRow.holds Try.pinned (OpenSpec.upto superCutSpec)

end Rows
end Go.Proofs.Ythejggahengfnaa
