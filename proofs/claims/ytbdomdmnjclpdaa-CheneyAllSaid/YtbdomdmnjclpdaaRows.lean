/-
  No cell of these rows narrows 'for every input' (looked for: loops, veiled, ifaces, maps, wideKeys, modest, calm, conditions, laid).
  DERIVED. THE GIVEN ROWS OF THIS SEAT. 3 by the template 'for every input the law returns true; each argument reads behind the call as it read before'; 0 by the template 'total and deterministic' (their statements: YtbdomdmnjclpdaaTotals.lean).
  GIVEN WITH THE SEED: the statements are not yours to turn. If you find one false, say at which input.
  Laid BY PROGRAM, IN A SANDBOX (cutbox-rows.mjs): the forced cells as the released guide's own fill.sh prints them over the translation 7eb7d45b0b933ec8… (all of the seat's roots in one cut). By AI agents, Wed Nov 11 2026. No macro, syntax, notation, axiom, sorry.
-/
import Derived.Test.YtbdomdmnjclpdaaChecked
import GoSem.Claim
import GoSem.ClaimJoined
import GoSem.ClaimMapViews
import Derived.JoinedTies
import Derived.KernelRfl
namespace Go.Proofs.Ytbdomdmnjclpdaa
/- THE CELL 'sum', in the pinned program and in every row, IS THE sha256 OF THE DUMP (.gsa) THAT YtbdomdmnjclpdaaProg.lean LOADS. Nothing in Lean hashes anything: it is a label: what it is worth is what the hold of that sum in a sandbox is worth. -/
noncomputable def Try.pinned : Pinned := { name := "ytbdomdmnjclpdaa", sum := "7eb7d45b0b933ec8f2b103b38a9314a14243d56ed103be6e0403036f94b6ab87", checked := Try.checked }
namespace Rows
def none {H : Type} : Left H := { results := [], args := [] }

/-- 'tumuluslaw14.CheneyRound': WHATEVER THE INPUT: true; the input reads as it did. -/
def cheneyRoundSpec : ChangeSpec := { name := "cheneyRound", fn := fun _ => fun
  | [d1, d2, d3, d4] => { results := [.lit (.bool true)], args := [d1, d2, d3, d4] }
  | _ => none }
def cheneyRoundRow : OpenClaim := { program := "ytbdomdmnjclpdaa", sum := "7eb7d45b0b933ec8f2b103b38a9314a14243d56ed103be6e0403036f94b6ab87", func := "tumulus/tumuluslaw14.CheneyRound", spec := "cheneyRound", unfollowed := true, recurses := true, apart := false }
def CheneyRoundSaid : Prop := cheneyRoundRow.holds Try.pinned (OpenSpec.ofChange cheneyRoundSpec)

/-- ITS FALSE NEIGHBOUR: 'it returns false'. Refute it at one input. -/
def cheneyRoundWrong : ChangeSpec := { name := "cheneyRound", fn := fun _ => fun
  | [d1, d2, d3, d4] => { results := [.lit (.bool false)], args := [d1, d2, d3, d4] }
  | _ => none }
def CheneyRoundWrongFalsely : Prop := cheneyRoundRow.holds Try.pinned (OpenSpec.ofChange cheneyRoundWrong)

/-- 'tumuluslaw14.CheneyAll': WHATEVER THE INPUT: true; the input reads as it did. -/
def cheneyAllSpec : ChangeSpec := { name := "cheneyAll", fn := fun _ => fun
  | [d1, d2, d3, d4] => { results := [.lit (.bool true)], args := [d1, d2, d3, d4] }
  | _ => none }
def cheneyAllRow : OpenClaim := { program := "ytbdomdmnjclpdaa", sum := "7eb7d45b0b933ec8f2b103b38a9314a14243d56ed103be6e0403036f94b6ab87", func := "tumulus/tumuluslaw14.CheneyAll", spec := "cheneyAll", unfollowed := true, recurses := true, apart := false }
def CheneyAllSaid : Prop := cheneyAllRow.holds Try.pinned (OpenSpec.ofChange cheneyAllSpec)

/-- ITS FALSE NEIGHBOUR: 'it returns false'. Refute it at one input. -/
def cheneyAllWrong : ChangeSpec := { name := "cheneyAll", fn := fun _ => fun
  | [d1, d2, d3, d4] => { results := [.lit (.bool false)], args := [d1, d2, d3, d4] }
  | _ => none }
def CheneyAllWrongFalsely : Prop := cheneyAllRow.holds Try.pinned (OpenSpec.ofChange cheneyAllWrong)

/-- 'tumuluslaw14.CheneyParts': WHATEVER THE INPUT: true; the input reads as it did. -/
def cheneyPartsSpec : ChangeSpec := { name := "cheneyParts", fn := fun _ => fun
  | [d1, d2, d3, d4] => { results := [.lit (.bool true)], args := [d1, d2, d3, d4] }
  | _ => none }
def cheneyPartsRow : OpenClaim := { program := "ytbdomdmnjclpdaa", sum := "7eb7d45b0b933ec8f2b103b38a9314a14243d56ed103be6e0403036f94b6ab87", func := "tumulus/tumuluslaw14.CheneyParts", spec := "cheneyParts", unfollowed := true, recurses := true, apart := false }
def CheneyPartsSaid : Prop := cheneyPartsRow.holds Try.pinned (OpenSpec.ofChange cheneyPartsSpec)

/-- ITS FALSE NEIGHBOUR: 'it returns false'. Refute it at one input. -/
def cheneyPartsWrong : ChangeSpec := { name := "cheneyParts", fn := fun _ => fun
  | [d1, d2, d3, d4] => { results := [.lit (.bool false)], args := [d1, d2, d3, d4] }
  | _ => none }
def CheneyPartsWrongFalsely : Prop := cheneyPartsRow.holds Try.pinned (OpenSpec.ofChange cheneyPartsWrong)

/- THE SECOND FORM. 'bulk': how many values and letters a reading holds, each counted each time it is reached (what is shared counts as often as it is met; a slice's spare places count too). A statement '..UptoSaid' is the law's where the arguments, and the package variables that the reading takes, are together of bulk at most 1048576: NARROWER than '..Said'. Prove '..Said' where nothing that the law and all that it calls make is longer than what came in: it says more and counts as full. Else prove '..UptoSaid'. A law counts once. -/
mutual
def uptoBulk {H : Type} : DataW H → Nat
  | .lit (.string bytes) => bytes.length + 1
  | .lit _ => 1
  | .nil => 1
  | .ptr d => uptoBulk d + 1
  | .slice elems spare => uptoBulkAll elems + uptoBulkAll spare + 1
  | .agg parts => uptoBulkAll parts + 1
  | .iface _ d => uptoBulk d + 1
  | .map entries => uptoBulkEntries entries + 1
  | .held _ => 1
def uptoBulkAll {H : Type} : List (DataW H) → Nat
  | [] => 0
  | d :: r => uptoBulk d + uptoBulkAll r
def uptoBulkEntries {H : Type} : List (Lit × DataW H) → Nat
  | [] => 0
  | x :: r => uptoBulkEntry x + uptoBulkEntries r
def uptoBulkEntry {H : Type} : Lit × DataW H → Nat
  | (.string bytes, d) => bytes.length + uptoBulk d + 1
  | (_, d) => uptoBulk d + 1
 end
def uptoSmall : (H : Type) → List (DataW H) → Bool := fun _ ds => decide (uptoBulkAll ds ≤ 1048576)
def OpenSpec.upto (s : _root_.Go.ChangeSpec) : _root_.Go.OpenSpec := { _root_.Go.OpenSpec.ofChange s with cond := some uptoSmall }

/-- 'tumuluslaw14.CheneyRound', WHERE WHAT IT READS IS OF BULK AT MOST 1048576: true; the input reads as it did. -/
def cheneyRoundUptoRow : OpenClaim := { program := "ytbdomdmnjclpdaa", sum := "7eb7d45b0b933ec8f2b103b38a9314a14243d56ed103be6e0403036f94b6ab87", func := "tumulus/tumuluslaw14.CheneyRound", spec := "cheneyRound", unfollowed := true, recurses := true, apart := false, narrowed := true }
def CheneyRoundUptoSaid : Prop := cheneyRoundUptoRow.holds Try.pinned (OpenSpec.upto cheneyRoundSpec)

/-- 'tumuluslaw14.CheneyAll', WHERE WHAT IT READS IS OF BULK AT MOST 1048576: true; the input reads as it did. -/
def cheneyAllUptoRow : OpenClaim := { program := "ytbdomdmnjclpdaa", sum := "7eb7d45b0b933ec8f2b103b38a9314a14243d56ed103be6e0403036f94b6ab87", func := "tumulus/tumuluslaw14.CheneyAll", spec := "cheneyAll", unfollowed := true, recurses := true, apart := false, narrowed := true }
def CheneyAllUptoSaid : Prop := cheneyAllUptoRow.holds Try.pinned (OpenSpec.upto cheneyAllSpec)

/-- 'tumuluslaw14.CheneyParts', WHERE WHAT IT READS IS OF BULK AT MOST 1048576: true; the input reads as it did. -/
def cheneyPartsUptoRow : OpenClaim := { program := "ytbdomdmnjclpdaa", sum := "7eb7d45b0b933ec8f2b103b38a9314a14243d56ed103be6e0403036f94b6ab87", func := "tumulus/tumuluslaw14.CheneyParts", spec := "cheneyParts", unfollowed := true, recurses := true, apart := false, narrowed := true }
def CheneyPartsUptoSaid : Prop := cheneyPartsUptoRow.holds Try.pinned (OpenSpec.upto cheneyPartsSpec)

end Rows
end Go.Proofs.Ytbdomdmnjclpdaa
