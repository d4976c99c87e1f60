/-
  No cell of these rows narrows 'for every input' (looked for: loops, veiled, ifaces, maps, wideKeys, modest, calm, conditions, laid).
  DERIVED. THE GIVEN ROWS OF THIS SEAT. 10 by the template 'for every input the law returns true; each argument reads behind the call as it read before'; 0 by the template 'total and deterministic' (their statements: YtanjmbjnpcekcaaTotals.lean).
  GIVEN WITH THE SEED: the statements are not yours to turn. If you find one false, say at which input.
  Laid BY PROGRAM, IN A SANDBOX (cutbox-rows.mjs): the forced cells as the released guide's own fill.sh prints them over the translation db3130bd1f58f111… (all of the seat's roots in one cut). By AI agents, Wed Nov 11 2026. No macro, syntax, notation, axiom, sorry.
-/
import Derived.Test.YtanjmbjnpcekcaaChecked
import GoSem.Claim
import GoSem.ClaimJoined
import GoSem.ClaimMapViews
import Derived.JoinedTies
import Derived.KernelRfl
namespace Go.Proofs.Ytanjmbjnpcekcaa
/- THE CELL 'sum', in the pinned program and in every row, IS THE sha256 OF THE DUMP (.gsa) THAT YtanjmbjnpcekcaaProg.lean LOADS. Nothing in Lean hashes anything: it is a label: what it is worth is what the hold of that sum in a sandbox is worth. -/
noncomputable def Try.pinned : Pinned := { name := "ytanjmbjnpcekcaa", sum := "db3130bd1f58f111f186a1a390a1e0a22cf7ce4d2af7773b38e948c475c188fe", checked := Try.checked }
namespace Rows
def none {H : Type} : Left H := { results := [], args := [] }

/-- 'tumuluslaw02.NvmApart': WHATEVER THE INPUT: true; the input reads as it did. -/
def nvmApartSpec : ChangeSpec := { name := "nvmApart", fn := fun _ => fun
  | [d1, d2] => { results := [.lit (.bool true)], args := [d1, d2] }
  | _ => none }
def nvmApartRow : OpenClaim := { program := "ytanjmbjnpcekcaa", sum := "db3130bd1f58f111f186a1a390a1e0a22cf7ce4d2af7773b38e948c475c188fe", func := "tumulus/tumuluslaw02.NvmApart", spec := "nvmApart", unfollowed := true, recurses := true, apart := false }
def NvmApartSaid : Prop := nvmApartRow.holds Try.pinned (OpenSpec.ofChange nvmApartSpec)

/-- ITS FALSE NEIGHBOUR: 'it returns false'. Refute it at one input. -/
def nvmApartWrong : ChangeSpec := { name := "nvmApart", fn := fun _ => fun
  | [d1, d2] => { results := [.lit (.bool false)], args := [d1, d2] }
  | _ => none }
def NvmApartWrongFalsely : Prop := nvmApartRow.holds Try.pinned (OpenSpec.ofChange nvmApartWrong)

/-- 'tumuluslaw03.RegionChecks': WHATEVER THE INPUT: true; the input reads as it did. -/
def regionChecksSpec : ChangeSpec := { name := "regionChecks", fn := fun _ => fun
  | [d1, d2, d3, d4] => { results := [.lit (.bool true)], args := [d1, d2, d3, d4] }
  | _ => none }
def regionChecksRow : OpenClaim := { program := "ytanjmbjnpcekcaa", sum := "db3130bd1f58f111f186a1a390a1e0a22cf7ce4d2af7773b38e948c475c188fe", func := "tumulus/tumuluslaw03.RegionChecks", spec := "regionChecks", unfollowed := true, recurses := true, apart := false }
def RegionChecksSaid : Prop := regionChecksRow.holds Try.pinned (OpenSpec.ofChange regionChecksSpec)

/-- ITS FALSE NEIGHBOUR: 'it returns false'. Refute it at one input. -/
def regionChecksWrong : ChangeSpec := { name := "regionChecks", fn := fun _ => fun
  | [d1, d2, d3, d4] => { results := [.lit (.bool false)], args := [d1, d2, d3, d4] }
  | _ => none }
def RegionChecksWrongFalsely : Prop := regionChecksRow.holds Try.pinned (OpenSpec.ofChange regionChecksWrong)

/-- 'tumuluslaw03.RegionMore': WHATEVER THE INPUT: true; the input reads as it did. -/
def regionMoreSpec : ChangeSpec := { name := "regionMore", fn := fun _ => fun
  | [d1, d2, d3] => { results := [.lit (.bool true)], args := [d1, d2, d3] }
  | _ => none }
def regionMoreRow : OpenClaim := { program := "ytanjmbjnpcekcaa", sum := "db3130bd1f58f111f186a1a390a1e0a22cf7ce4d2af7773b38e948c475c188fe", func := "tumulus/tumuluslaw03.RegionMore", spec := "regionMore", unfollowed := true, recurses := true, apart := false }
def RegionMoreSaid : Prop := regionMoreRow.holds Try.pinned (OpenSpec.ofChange regionMoreSpec)

/-- ITS FALSE NEIGHBOUR: 'it returns false'. Refute it at one input. -/
def regionMoreWrong : ChangeSpec := { name := "regionMore", fn := fun _ => fun
  | [d1, d2, d3] => { results := [.lit (.bool false)], args := [d1, d2, d3] }
  | _ => none }
def RegionMoreWrongFalsely : Prop := regionMoreRow.holds Try.pinned (OpenSpec.ofChange regionMoreWrong)

/-- 'tumuluslaw03.RegionApart': WHATEVER THE INPUT: true; the input reads as it did. -/
def regionApartSpec : ChangeSpec := { name := "regionApart", fn := fun _ => fun
  | [d] => { results := [.lit (.bool true)], args := [d] }
  | _ => none }
def regionApartRow : OpenClaim := { program := "ytanjmbjnpcekcaa", sum := "db3130bd1f58f111f186a1a390a1e0a22cf7ce4d2af7773b38e948c475c188fe", func := "tumulus/tumuluslaw03.RegionApart", spec := "regionApart", unfollowed := true, recurses := true, apart := false }
def RegionApartSaid : Prop := regionApartRow.holds Try.pinned (OpenSpec.ofChange regionApartSpec)

/-- ITS FALSE NEIGHBOUR: 'it returns false'. Refute it at one input. -/
def regionApartWrong : ChangeSpec := { name := "regionApart", fn := fun _ => fun
  | [d] => { results := [.lit (.bool false)], args := [d] }
  | _ => none }
def RegionApartWrongFalsely : Prop := regionApartRow.holds Try.pinned (OpenSpec.ofChange regionApartWrong)

/-- 'tumuluslaw02.NvmOrder': WHATEVER THE INPUT: true; the input reads as it did. -/
def nvmOrderSpec : ChangeSpec := { name := "nvmOrder", fn := fun _ => fun
  | [d1, d2, d3, d4] => { results := [.lit (.bool true)], args := [d1, d2, d3, d4] }
  | _ => none }
def nvmOrderRow : OpenClaim := { program := "ytanjmbjnpcekcaa", sum := "db3130bd1f58f111f186a1a390a1e0a22cf7ce4d2af7773b38e948c475c188fe", func := "tumulus/tumuluslaw02.NvmOrder", spec := "nvmOrder", unfollowed := true, recurses := true, apart := false }
def NvmOrderSaid : Prop := nvmOrderRow.holds Try.pinned (OpenSpec.ofChange nvmOrderSpec)

/-- ITS FALSE NEIGHBOUR: 'it returns false'. Refute it at one input. -/
def nvmOrderWrong : ChangeSpec := { name := "nvmOrder", fn := fun _ => fun
  | [d1, d2, d3, d4] => { results := [.lit (.bool false)], args := [d1, d2, d3, d4] }
  | _ => none }
def NvmOrderWrongFalsely : Prop := nvmOrderRow.holds Try.pinned (OpenSpec.ofChange nvmOrderWrong)

/-- 'tumuluslaw02.NvmPlays': WHATEVER THE INPUT: true; the input reads as it did. -/
def nvmPlaysSpec : ChangeSpec := { name := "nvmPlays", fn := fun _ => fun
  | [d1, d2] => { results := [.lit (.bool true)], args := [d1, d2] }
  | _ => none }
def nvmPlaysRow : OpenClaim := { program := "ytanjmbjnpcekcaa", sum := "db3130bd1f58f111f186a1a390a1e0a22cf7ce4d2af7773b38e948c475c188fe", func := "tumulus/tumuluslaw02.NvmPlays", spec := "nvmPlays", unfollowed := true, recurses := true, apart := false }
def NvmPlaysSaid : Prop := nvmPlaysRow.holds Try.pinned (OpenSpec.ofChange nvmPlaysSpec)

/-- ITS FALSE NEIGHBOUR: 'it returns false'. Refute it at one input. -/
def nvmPlaysWrong : ChangeSpec := { name := "nvmPlays", fn := fun _ => fun
  | [d1, d2] => { results := [.lit (.bool false)], args := [d1, d2] }
  | _ => none }
def NvmPlaysWrongFalsely : Prop := nvmPlaysRow.holds Try.pinned (OpenSpec.ofChange nvmPlaysWrong)

/-- 'tumuluslaw02.NvmSteps': WHATEVER THE INPUT: true; the input reads as it did. -/
def nvmStepsSpec : ChangeSpec := { name := "nvmSteps", fn := fun _ => fun
  | [d1, d2, d3] => { results := [.lit (.bool true)], args := [d1, d2, d3] }
  | _ => none }
def nvmStepsRow : OpenClaim := { program := "ytanjmbjnpcekcaa", sum := "db3130bd1f58f111f186a1a390a1e0a22cf7ce4d2af7773b38e948c475c188fe", func := "tumulus/tumuluslaw02.NvmSteps", spec := "nvmSteps", unfollowed := true, recurses := true, apart := false }
def NvmStepsSaid : Prop := nvmStepsRow.holds Try.pinned (OpenSpec.ofChange nvmStepsSpec)

/-- ITS FALSE NEIGHBOUR: 'it returns false'. Refute it at one input. -/
def nvmStepsWrong : ChangeSpec := { name := "nvmSteps", fn := fun _ => fun
  | [d1, d2, d3] => { results := [.lit (.bool false)], args := [d1, d2, d3] }
  | _ => none }
def NvmStepsWrongFalsely : Prop := nvmStepsRow.holds Try.pinned (OpenSpec.ofChange nvmStepsWrong)

/-- 'tumuluslaw02.NvmFenced': WHATEVER THE INPUT: true; the input reads as it did. -/
def nvmFencedSpec : ChangeSpec := { name := "nvmFenced", fn := fun _ => fun
  | [d1, d2, d3, d4, d5] => { results := [.lit (.bool true)], args := [d1, d2, d3, d4, d5] }
  | _ => none }
def nvmFencedRow : OpenClaim := { program := "ytanjmbjnpcekcaa", sum := "db3130bd1f58f111f186a1a390a1e0a22cf7ce4d2af7773b38e948c475c188fe", func := "tumulus/tumuluslaw02.NvmFenced", spec := "nvmFenced", unfollowed := true, recurses := true, apart := false }
def NvmFencedSaid : Prop := nvmFencedRow.holds Try.pinned (OpenSpec.ofChange nvmFencedSpec)

/-- ITS FALSE NEIGHBOUR: 'it returns false'. Refute it at one input. -/
def nvmFencedWrong : ChangeSpec := { name := "nvmFenced", fn := fun _ => fun
  | [d1, d2, d3, d4, d5] => { results := [.lit (.bool false)], args := [d1, d2, d3, d4, d5] }
  | _ => none }
def NvmFencedWrongFalsely : Prop := nvmFencedRow.holds Try.pinned (OpenSpec.ofChange nvmFencedWrong)

/-- 'tumuluslaw02.NvmChoices': WHATEVER THE INPUT: true; the input reads as it did. -/
def nvmChoicesSpec : ChangeSpec := { name := "nvmChoices", fn := fun _ => fun
  | [d1, d2, d3] => { results := [.lit (.bool true)], args := [d1, d2, d3] }
  | _ => none }
def nvmChoicesRow : OpenClaim := { program := "ytanjmbjnpcekcaa", sum := "db3130bd1f58f111f186a1a390a1e0a22cf7ce4d2af7773b38e948c475c188fe", func := "tumulus/tumuluslaw02.NvmChoices", spec := "nvmChoices", unfollowed := true, recurses := true, apart := false }
def NvmChoicesSaid : Prop := nvmChoicesRow.holds Try.pinned (OpenSpec.ofChange nvmChoicesSpec)

/-- ITS FALSE NEIGHBOUR: 'it returns false'. Refute it at one input. -/
def nvmChoicesWrong : ChangeSpec := { name := "nvmChoices", fn := fun _ => fun
  | [d1, d2, d3] => { results := [.lit (.bool false)], args := [d1, d2, d3] }
  | _ => none }
def NvmChoicesWrongFalsely : Prop := nvmChoicesRow.holds Try.pinned (OpenSpec.ofChange nvmChoicesWrong)

/-- 'tumuluslaw02.NvmLines': WHATEVER THE INPUT: true; the input reads as it did. -/
def nvmLinesSpec : ChangeSpec := { name := "nvmLines", fn := fun _ => fun
  | [d1, d2, d3, d4] => { results := [.lit (.bool true)], args := [d1, d2, d3, d4] }
  | _ => none }
def nvmLinesRow : OpenClaim := { program := "ytanjmbjnpcekcaa", sum := "db3130bd1f58f111f186a1a390a1e0a22cf7ce4d2af7773b38e948c475c188fe", func := "tumulus/tumuluslaw02.NvmLines", spec := "nvmLines", unfollowed := true, recurses := true, apart := false }
def NvmLinesSaid : Prop := nvmLinesRow.holds Try.pinned (OpenSpec.ofChange nvmLinesSpec)

/-- ITS FALSE NEIGHBOUR: 'it returns false'. Refute it at one input. -/
def nvmLinesWrong : ChangeSpec := { name := "nvmLines", fn := fun _ => fun
  | [d1, d2, d3, d4] => { results := [.lit (.bool false)], args := [d1, d2, d3, d4] }
  | _ => none }
def NvmLinesWrongFalsely : Prop := nvmLinesRow.holds Try.pinned (OpenSpec.ofChange nvmLinesWrong)

/- THE SECOND FORM. 'bulk': how many values and letters a reading holds, each counted each time it is reached (what is shared counts as often as it is met; a slice's spare places count too). A statement '..UptoSaid' is the law's where the arguments, and the package variables that the reading takes, are together of bulk at most 1048576: NARROWER than '..Said'. Prove '..Said' where nothing that the law and all that it calls make is longer than what came in: it says more and counts as full. Else prove '..UptoSaid'. A law counts once. -/
mutual
def uptoBulk {H : Type} : DataW H → Nat
  | .lit (.string bytes) => bytes.length + 1
  | .lit _ => 1
  | .nil => 1
  | .ptr d => uptoBulk d + 1
  | .slice elems spare => uptoBulkAll elems + uptoBulkAll spare + 1
  | .agg parts => uptoBulkAll parts + 1
  | .iface _ d => uptoBulk d + 1
  | .map entries => uptoBulkEntries entries + 1
  | .held _ => 1
def uptoBulkAll {H : Type} : List (DataW H) → Nat
  | [] => 0
  | d :: r => uptoBulk d + uptoBulkAll r
def uptoBulkEntries {H : Type} : List (Lit × DataW H) → Nat
  | [] => 0
  | x :: r => uptoBulkEntry x + uptoBulkEntries r
def uptoBulkEntry {H : Type} : Lit × DataW H → Nat
  | (.string bytes, d) => bytes.length + uptoBulk d + 1
  | (_, d) => uptoBulk d + 1
 end
def uptoSmall : (H : Type) → List (DataW H) → Bool := fun _ ds => decide (uptoBulkAll ds ≤ 1048576)
def OpenSpec.upto (s : _root_.Go.ChangeSpec) : _root_.Go.OpenSpec := { _root_.Go.OpenSpec.ofChange s with cond := some uptoSmall }

/-- 'tumuluslaw02.NvmApart', WHERE WHAT IT READS IS OF BULK AT MOST 1048576: true; the input reads as it did. -/
def nvmApartUptoRow : OpenClaim := { program := "ytanjmbjnpcekcaa", sum := "db3130bd1f58f111f186a1a390a1e0a22cf7ce4d2af7773b38e948c475c188fe", func := "tumulus/tumuluslaw02.NvmApart", spec := "nvmApart", unfollowed := true, recurses := true, apart := false, narrowed := true }
def NvmApartUptoSaid : Prop := nvmApartUptoRow.holds Try.pinned (OpenSpec.upto nvmApartSpec)

/-- 'tumuluslaw03.RegionChecks', WHERE WHAT IT READS IS OF BULK AT MOST 1048576: true; the input reads as it did. -/
def regionChecksUptoRow : OpenClaim := { program := "ytanjmbjnpcekcaa", sum := "db3130bd1f58f111f186a1a390a1e0a22cf7ce4d2af7773b38e948c475c188fe", func := "tumulus/tumuluslaw03.RegionChecks", spec := "regionChecks", unfollowed := true, recurses := true, apart := false, narrowed := true }
def RegionChecksUptoSaid : Prop := regionChecksUptoRow.holds Try.pinned (OpenSpec.upto regionChecksSpec)

/-- 'tumuluslaw03.RegionMore', WHERE WHAT IT READS IS OF BULK AT MOST 1048576: true; the input reads as it did. -/
def regionMoreUptoRow : OpenClaim := { program := "ytanjmbjnpcekcaa", sum := "db3130bd1f58f111f186a1a390a1e0a22cf7ce4d2af7773b38e948c475c188fe", func := "tumulus/tumuluslaw03.RegionMore", spec := "regionMore", unfollowed := true, recurses := true, apart := false, narrowed := true }
def RegionMoreUptoSaid : Prop := regionMoreUptoRow.holds Try.pinned (OpenSpec.upto regionMoreSpec)

/-- 'tumuluslaw03.RegionApart', WHERE WHAT IT READS IS OF BULK AT MOST 1048576: true; the input reads as it did. -/
def regionApartUptoRow : OpenClaim := { program := "ytanjmbjnpcekcaa", sum := "db3130bd1f58f111f186a1a390a1e0a22cf7ce4d2af7773b38e948c475c188fe", func := "tumulus/tumuluslaw03.RegionApart", spec := "regionApart", unfollowed := true, recurses := true, apart := false, narrowed := true }
def RegionApartUptoSaid : Prop := regionApartUptoRow.holds Try.pinned (OpenSpec.upto regionApartSpec)

/-- 'tumuluslaw02.NvmOrder', WHERE WHAT IT READS IS OF BULK AT MOST 1048576: true; the input reads as it did. -/
def nvmOrderUptoRow : OpenClaim := { program := "ytanjmbjnpcekcaa", sum := "db3130bd1f58f111f186a1a390a1e0a22cf7ce4d2af7773b38e948c475c188fe", func := "tumulus/tumuluslaw02.NvmOrder", spec := "nvmOrder", unfollowed := true, recurses := true, apart := false, narrowed := true }
def NvmOrderUptoSaid : Prop := nvmOrderUptoRow.holds Try.pinned (OpenSpec.upto nvmOrderSpec)

/-- 'tumuluslaw02.NvmPlays', WHERE WHAT IT READS IS OF BULK AT MOST 1048576: true; the input reads as it did. -/
def nvmPlaysUptoRow : OpenClaim := { program := "ytanjmbjnpcekcaa", sum := "db3130bd1f58f111f186a1a390a1e0a22cf7ce4d2af7773b38e948c475c188fe", func := "tumulus/tumuluslaw02.NvmPlays", spec := "nvmPlays", unfollowed := true, recurses := true, apart := false, narrowed := true }
def NvmPlaysUptoSaid : Prop := nvmPlaysUptoRow.holds Try.pinned (OpenSpec.upto nvmPlaysSpec)

/-- 'tumuluslaw02.NvmSteps', WHERE WHAT IT READS IS OF BULK AT MOST 1048576: true; the input reads as it did. -/
def nvmStepsUptoRow : OpenClaim := { program := "ytanjmbjnpcekcaa", sum := "db3130bd1f58f111f186a1a390a1e0a22cf7ce4d2af7773b38e948c475c188fe", func := "tumulus/tumuluslaw02.NvmSteps", spec := "nvmSteps", unfollowed := true, recurses := true, apart := false, narrowed := true }
def NvmStepsUptoSaid : Prop := nvmStepsUptoRow.holds Try.pinned (OpenSpec.upto nvmStepsSpec)

/-- 'tumuluslaw02.NvmFenced', WHERE WHAT IT READS IS OF BULK AT MOST 1048576: true; the input reads as it did. -/
def nvmFencedUptoRow : OpenClaim := { program := "ytanjmbjnpcekcaa", sum := "db3130bd1f58f111f186a1a390a1e0a22cf7ce4d2af7773b38e948c475c188fe", func := "tumulus/tumuluslaw02.NvmFenced", spec := "nvmFenced", unfollowed := true, recurses := true, apart := false, narrowed := true }
def NvmFencedUptoSaid : Prop := nvmFencedUptoRow.holds Try.pinned (OpenSpec.upto nvmFencedSpec)

/-- 'tumuluslaw02.NvmChoices', WHERE WHAT IT READS IS OF BULK AT MOST 1048576: true; the input reads as it did. -/
def nvmChoicesUptoRow : OpenClaim := { program := "ytanjmbjnpcekcaa", sum := "db3130bd1f58f111f186a1a390a1e0a22cf7ce4d2af7773b38e948c475c188fe", func := "tumulus/tumuluslaw02.NvmChoices", spec := "nvmChoices", unfollowed := true, recurses := true, apart := false, narrowed := true }
def NvmChoicesUptoSaid : Prop := nvmChoicesUptoRow.holds Try.pinned (OpenSpec.upto nvmChoicesSpec)

/-- 'tumuluslaw02.NvmLines', WHERE WHAT IT READS IS OF BULK AT MOST 1048576: true; the input reads as it did. -/
def nvmLinesUptoRow : OpenClaim := { program := "ytanjmbjnpcekcaa", sum := "db3130bd1f58f111f186a1a390a1e0a22cf7ce4d2af7773b38e948c475c188fe", func := "tumulus/tumuluslaw02.NvmLines", spec := "nvmLines", unfollowed := true, recurses := true, apart := false, narrowed := true }
def NvmLinesUptoSaid : Prop := nvmLinesUptoRow.holds Try.pinned (OpenSpec.upto nvmLinesSpec)

end Rows
end Go.Proofs.Ytanjmbjnpcekcaa
