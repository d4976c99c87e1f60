/-
  No cell of these rows narrows 'for every input' (looked for: loops, veiled, ifaces, maps, wideKeys, modest, calm, conditions, laid).
  DERIVED. THE GIVEN ROWS OF THIS SEAT. 8 by the template 'for every input the law returns true; each argument reads behind the call as it read before'; 0 by the template 'total and deterministic' (their statements: YthfelcnhkabdhaaTotals.lean).
  GIVEN WITH THE SEED: the statements are not yours to turn. If you find one false, say at which input.
  Laid BY PROGRAM, IN A SANDBOX (cutbox-rows.mjs): the forced cells as the released guide's own fill.sh prints them over the translation 5a1a4bfc2920a2f4… (all of the seat's roots in one cut). By AI agents, Wed Nov 11 2026. No macro, syntax, notation, axiom, sorry.
-/
import Derived.Test.YthfelcnhkabdhaaChecked
import GoSem.Claim
import GoSem.ClaimJoined
import GoSem.ClaimMapViews
import Derived.JoinedTies
import Derived.KernelRfl
namespace Go.Proofs.Ythfelcnhkabdhaa
/- THE CELL 'sum', in the pinned program and in every row, IS THE sha256 OF THE DUMP (.gsa) THAT YthfelcnhkabdhaaProg.lean LOADS. Nothing in Lean hashes anything: it is a label: what it is worth is what the hold of that sum in a sandbox is worth. -/
noncomputable def Try.pinned : Pinned := { name := "ythfelcnhkabdhaa", sum := "5a1a4bfc2920a2f466f7a942fa15aedd49e4401313418e9ec65d31bda20455ba", checked := Try.checked }
namespace Rows
def none {H : Type} : Left H := { results := [], args := [] }

/-- 'tumuluslaw06.UlogGood': WHATEVER THE INPUT: true; the input reads as it did. -/
def ulogGoodSpec : ChangeSpec := { name := "ulogGood", fn := fun _ => fun
  | [d1, d2, d3, d4, d5] => { results := [.lit (.bool true)], args := [d1, d2, d3, d4, d5] }
  | _ => none }
def ulogGoodRow : OpenClaim := { program := "ythfelcnhkabdhaa", sum := "5a1a4bfc2920a2f466f7a942fa15aedd49e4401313418e9ec65d31bda20455ba", func := "tumulus/tumuluslaw06.UlogGood", spec := "ulogGood", unfollowed := true, recurses := true, apart := false }
def UlogGoodSaid : Prop := ulogGoodRow.holds Try.pinned (OpenSpec.ofChange ulogGoodSpec)

/-- ITS FALSE NEIGHBOUR: 'it returns false'. Refute it at one input. -/
def ulogGoodWrong : ChangeSpec := { name := "ulogGood", fn := fun _ => fun
  | [d1, d2, d3, d4, d5] => { results := [.lit (.bool false)], args := [d1, d2, d3, d4, d5] }
  | _ => none }
def UlogGoodWrongFalsely : Prop := ulogGoodRow.holds Try.pinned (OpenSpec.ofChange ulogGoodWrong)

/-- 'tumuluslaw06.UlogEpochs': WHATEVER THE INPUT: true; the input reads as it did. -/
def ulogEpochsSpec : ChangeSpec := { name := "ulogEpochs", fn := fun _ => fun
  | [d1, d2, d3] => { results := [.lit (.bool true)], args := [d1, d2, d3] }
  | _ => none }
def ulogEpochsRow : OpenClaim := { program := "ythfelcnhkabdhaa", sum := "5a1a4bfc2920a2f466f7a942fa15aedd49e4401313418e9ec65d31bda20455ba", func := "tumulus/tumuluslaw06.UlogEpochs", spec := "ulogEpochs", unfollowed := true, recurses := true, apart := false }
def UlogEpochsSaid : Prop := ulogEpochsRow.holds Try.pinned (OpenSpec.ofChange ulogEpochsSpec)

/-- ITS FALSE NEIGHBOUR: 'it returns false'. Refute it at one input. -/
def ulogEpochsWrong : ChangeSpec := { name := "ulogEpochs", fn := fun _ => fun
  | [d1, d2, d3] => { results := [.lit (.bool false)], args := [d1, d2, d3] }
  | _ => none }
def UlogEpochsWrongFalsely : Prop := ulogEpochsRow.holds Try.pinned (OpenSpec.ofChange ulogEpochsWrong)

/-- 'tumuluslaw06.UlogFull': WHATEVER THE INPUT: true; the input reads as it did. -/
def ulogFullSpec : ChangeSpec := { name := "ulogFull", fn := fun _ => fun
  | [d1, d2, d3] => { results := [.lit (.bool true)], args := [d1, d2, d3] }
  | _ => none }
def ulogFullRow : OpenClaim := { program := "ythfelcnhkabdhaa", sum := "5a1a4bfc2920a2f466f7a942fa15aedd49e4401313418e9ec65d31bda20455ba", func := "tumulus/tumuluslaw06.UlogFull", spec := "ulogFull", unfollowed := true, recurses := true, apart := false }
def UlogFullSaid : Prop := ulogFullRow.holds Try.pinned (OpenSpec.ofChange ulogFullSpec)

/-- ITS FALSE NEIGHBOUR: 'it returns false'. Refute it at one input. -/
def ulogFullWrong : ChangeSpec := { name := "ulogFull", fn := fun _ => fun
  | [d1, d2, d3] => { results := [.lit (.bool false)], args := [d1, d2, d3] }
  | _ => none }
def UlogFullWrongFalsely : Prop := ulogFullRow.holds Try.pinned (OpenSpec.ofChange ulogFullWrong)

/-- 'tumuluslaw06.UlogOldest': WHATEVER THE INPUT: true; the input reads as it did. -/
def ulogOldestSpec : ChangeSpec := { name := "ulogOldest", fn := fun _ => fun
  | [d1, d2, d3] => { results := [.lit (.bool true)], args := [d1, d2, d3] }
  | _ => none }
def ulogOldestRow : OpenClaim := { program := "ythfelcnhkabdhaa", sum := "5a1a4bfc2920a2f466f7a942fa15aedd49e4401313418e9ec65d31bda20455ba", func := "tumulus/tumuluslaw06.UlogOldest", spec := "ulogOldest", unfollowed := true, recurses := true, apart := false }
def UlogOldestSaid : Prop := ulogOldestRow.holds Try.pinned (OpenSpec.ofChange ulogOldestSpec)

/-- ITS FALSE NEIGHBOUR: 'it returns false'. Refute it at one input. -/
def ulogOldestWrong : ChangeSpec := { name := "ulogOldest", fn := fun _ => fun
  | [d1, d2, d3] => { results := [.lit (.bool false)], args := [d1, d2, d3] }
  | _ => none }
def UlogOldestWrongFalsely : Prop := ulogOldestRow.holds Try.pinned (OpenSpec.ofChange ulogOldestWrong)

/-- 'tumuluslaw06.UlogTruncates': WHATEVER THE INPUT: true; the input reads as it did. -/
def ulogTruncatesSpec : ChangeSpec := { name := "ulogTruncates", fn := fun _ => fun
  | [d1, d2, d3, d4] => { results := [.lit (.bool true)], args := [d1, d2, d3, d4] }
  | _ => none }
def ulogTruncatesRow : OpenClaim := { program := "ythfelcnhkabdhaa", sum := "5a1a4bfc2920a2f466f7a942fa15aedd49e4401313418e9ec65d31bda20455ba", func := "tumulus/tumuluslaw06.UlogTruncates", spec := "ulogTruncates", unfollowed := true, recurses := true, apart := false }
def UlogTruncatesSaid : Prop := ulogTruncatesRow.holds Try.pinned (OpenSpec.ofChange ulogTruncatesSpec)

/-- ITS FALSE NEIGHBOUR: 'it returns false'. Refute it at one input. -/
def ulogTruncatesWrong : ChangeSpec := { name := "ulogTruncates", fn := fun _ => fun
  | [d1, d2, d3, d4] => { results := [.lit (.bool false)], args := [d1, d2, d3, d4] }
  | _ => none }
def UlogTruncatesWrongFalsely : Prop := ulogTruncatesRow.holds Try.pinned (OpenSpec.ofChange ulogTruncatesWrong)

/-- 'tumuluslaw06.UlogOnce': WHATEVER THE INPUT: true; the input reads as it did. -/
def ulogOnceSpec : ChangeSpec := { name := "ulogOnce", fn := fun _ => fun
  | [d1, d2, d3] => { results := [.lit (.bool true)], args := [d1, d2, d3] }
  | _ => none }
def ulogOnceRow : OpenClaim := { program := "ythfelcnhkabdhaa", sum := "5a1a4bfc2920a2f466f7a942fa15aedd49e4401313418e9ec65d31bda20455ba", func := "tumulus/tumuluslaw06.UlogOnce", spec := "ulogOnce", unfollowed := true, recurses := true, apart := false }
def UlogOnceSaid : Prop := ulogOnceRow.holds Try.pinned (OpenSpec.ofChange ulogOnceSpec)

/-- ITS FALSE NEIGHBOUR: 'it returns false'. Refute it at one input. -/
def ulogOnceWrong : ChangeSpec := { name := "ulogOnce", fn := fun _ => fun
  | [d1, d2, d3] => { results := [.lit (.bool false)], args := [d1, d2, d3] }
  | _ => none }
def UlogOnceWrongFalsely : Prop := ulogOnceRow.holds Try.pinned (OpenSpec.ofChange ulogOnceWrong)

/-- 'tumuluslaw06.UlogPlays': WHATEVER THE INPUT: true; the input reads as it did. -/
def ulogPlaysSpec : ChangeSpec := { name := "ulogPlays", fn := fun _ => fun
  | [d1, d2, d3] => { results := [.lit (.bool true)], args := [d1, d2, d3] }
  | _ => none }
def ulogPlaysRow : OpenClaim := { program := "ythfelcnhkabdhaa", sum := "5a1a4bfc2920a2f466f7a942fa15aedd49e4401313418e9ec65d31bda20455ba", func := "tumulus/tumuluslaw06.UlogPlays", spec := "ulogPlays", unfollowed := true, recurses := true, apart := false }
def UlogPlaysSaid : Prop := ulogPlaysRow.holds Try.pinned (OpenSpec.ofChange ulogPlaysSpec)

/-- ITS FALSE NEIGHBOUR: 'it returns false'. Refute it at one input. -/
def ulogPlaysWrong : ChangeSpec := { name := "ulogPlays", fn := fun _ => fun
  | [d1, d2, d3] => { results := [.lit (.bool false)], args := [d1, d2, d3] }
  | _ => none }
def UlogPlaysWrongFalsely : Prop := ulogPlaysRow.holds Try.pinned (OpenSpec.ofChange ulogPlaysWrong)

/-- 'tumuluslaw06.UlogCut': WHATEVER THE INPUT: true; the input reads as it did. -/
def ulogCutSpec : ChangeSpec := { name := "ulogCut", fn := fun _ => fun
  | [d1, d2, d3, d4, d5, d6, d7] => { results := [.lit (.bool true)], args := [d1, d2, d3, d4, d5, d6, d7] }
  | _ => none }
def ulogCutRow : OpenClaim := { program := "ythfelcnhkabdhaa", sum := "5a1a4bfc2920a2f466f7a942fa15aedd49e4401313418e9ec65d31bda20455ba", func := "tumulus/tumuluslaw06.UlogCut", spec := "ulogCut", unfollowed := true, recurses := true, apart := false }
def UlogCutSaid : Prop := ulogCutRow.holds Try.pinned (OpenSpec.ofChange ulogCutSpec)

/-- ITS FALSE NEIGHBOUR: 'it returns false'. Refute it at one input. -/
def ulogCutWrong : ChangeSpec := { name := "ulogCut", fn := fun _ => fun
  | [d1, d2, d3, d4, d5, d6, d7] => { results := [.lit (.bool false)], args := [d1, d2, d3, d4, d5, d6, d7] }
  | _ => none }
def UlogCutWrongFalsely : Prop := ulogCutRow.holds Try.pinned (OpenSpec.ofChange ulogCutWrong)

/- THE SECOND FORM. 'bulk': how many values and letters a reading holds, each counted each time it is reached (what is shared counts as often as it is met; a slice's spare places count too). A statement '..UptoSaid' is the law's where the arguments, and the package variables that the reading takes, are together of bulk at most 1048576: NARROWER than '..Said'. Prove '..Said' where nothing that the law and all that it calls make is longer than what came in: it says more and counts as full. Else prove '..UptoSaid'. A law counts once. -/
mutual
def uptoBulk {H : Type} : DataW H → Nat
  | .lit (.string bytes) => bytes.length + 1
  | .lit _ => 1
  | .nil => 1
  | .ptr d => uptoBulk d + 1
  | .slice elems spare => uptoBulkAll elems + uptoBulkAll spare + 1
  | .agg parts => uptoBulkAll parts + 1
  | .iface _ d => uptoBulk d + 1
  | .map entries => uptoBulkEntries entries + 1
  | .held _ => 1
def uptoBulkAll {H : Type} : List (DataW H) → Nat
  | [] => 0
  | d :: r => uptoBulk d + uptoBulkAll r
def uptoBulkEntries {H : Type} : List (Lit × DataW H) → Nat
  | [] => 0
  | x :: r => uptoBulkEntry x + uptoBulkEntries r
def uptoBulkEntry {H : Type} : Lit × DataW H → Nat
  | (.string bytes, d) => bytes.length + uptoBulk d + 1
  | (_, d) => uptoBulk d + 1
 end
def uptoSmall : (H : Type) → List (DataW H) → Bool := fun _ ds => decide (uptoBulkAll ds ≤ 1048576)
def OpenSpec.upto (s : _root_.Go.ChangeSpec) : _root_.Go.OpenSpec := { _root_.Go.OpenSpec.ofChange s with cond := some uptoSmall }

/-- 'tumuluslaw06.UlogGood', WHERE WHAT IT READS IS OF BULK AT MOST 1048576: true; the input reads as it did. -/
def ulogGoodUptoRow : OpenClaim := { program := "ythfelcnhkabdhaa", sum := "5a1a4bfc2920a2f466f7a942fa15aedd49e4401313418e9ec65d31bda20455ba", func := "tumulus/tumuluslaw06.UlogGood", spec := "ulogGood", unfollowed := true, recurses := true, apart := false, narrowed := true }
def UlogGoodUptoSaid : Prop := ulogGoodUptoRow.holds Try.pinned (OpenSpec.upto ulogGoodSpec)

/-- 'tumuluslaw06.UlogEpochs', WHERE WHAT IT READS IS OF BULK AT MOST 1048576: true; the input reads as it did. -/
def ulogEpochsUptoRow : OpenClaim := { program := "ythfelcnhkabdhaa", sum := "5a1a4bfc2920a2f466f7a942fa15aedd49e4401313418e9ec65d31bda20455ba", func := "tumulus/tumuluslaw06.UlogEpochs", spec := "ulogEpochs", unfollowed := true, recurses := true, apart := false, narrowed := true }
def UlogEpochsUptoSaid : Prop := ulogEpochsUptoRow.holds Try.pinned (OpenSpec.upto ulogEpochsSpec)

/-- 'tumuluslaw06.UlogFull', WHERE WHAT IT READS IS OF BULK AT MOST 1048576: true; the input reads as it did. -/
def ulogFullUptoRow : OpenClaim := { program := "ythfelcnhkabdhaa", sum := "5a1a4bfc2920a2f466f7a942fa15aedd49e4401313418e9ec65d31bda20455ba", func := "tumulus/tumuluslaw06.UlogFull", spec := "ulogFull", unfollowed := true, recurses := true, apart := false, narrowed := true }
def UlogFullUptoSaid : Prop := ulogFullUptoRow.holds Try.pinned (OpenSpec.upto ulogFullSpec)

/-- 'tumuluslaw06.UlogOldest', WHERE WHAT IT READS IS OF BULK AT MOST 1048576: true; the input reads as it did. -/
def ulogOldestUptoRow : OpenClaim := { program := "ythfelcnhkabdhaa", sum := "5a1a4bfc2920a2f466f7a942fa15aedd49e4401313418e9ec65d31bda20455ba", func := "tumulus/tumuluslaw06.UlogOldest", spec := "ulogOldest", unfollowed := true, recurses := true, apart := false, narrowed := true }
def UlogOldestUptoSaid : Prop := ulogOldestUptoRow.holds Try.pinned (OpenSpec.upto ulogOldestSpec)

/-- 'tumuluslaw06.UlogTruncates', WHERE WHAT IT READS IS OF BULK AT MOST 1048576: true; the input reads as it did. -/
def ulogTruncatesUptoRow : OpenClaim := { program := "ythfelcnhkabdhaa", sum := "5a1a4bfc2920a2f466f7a942fa15aedd49e4401313418e9ec65d31bda20455ba", func := "tumulus/tumuluslaw06.UlogTruncates", spec := "ulogTruncates", unfollowed := true, recurses := true, apart := false, narrowed := true }
def UlogTruncatesUptoSaid : Prop := ulogTruncatesUptoRow.holds Try.pinned (OpenSpec.upto ulogTruncatesSpec)

/-- 'tumuluslaw06.UlogOnce', WHERE WHAT IT READS IS OF BULK AT MOST 1048576: true; the input reads as it did. -/
def ulogOnceUptoRow : OpenClaim := { program := "ythfelcnhkabdhaa", sum := "5a1a4bfc2920a2f466f7a942fa15aedd49e4401313418e9ec65d31bda20455ba", func := "tumulus/tumuluslaw06.UlogOnce", spec := "ulogOnce", unfollowed := true, recurses := true, apart := false, narrowed := true }
def UlogOnceUptoSaid : Prop := ulogOnceUptoRow.holds Try.pinned (OpenSpec.upto ulogOnceSpec)

/-- 'tumuluslaw06.UlogPlays', WHERE WHAT IT READS IS OF BULK AT MOST 1048576: true; the input reads as it did. -/
def ulogPlaysUptoRow : OpenClaim := { program := "ythfelcnhkabdhaa", sum := "5a1a4bfc2920a2f466f7a942fa15aedd49e4401313418e9ec65d31bda20455ba", func := "tumulus/tumuluslaw06.UlogPlays", spec := "ulogPlays", unfollowed := true, recurses := true, apart := false, narrowed := true }
def UlogPlaysUptoSaid : Prop := ulogPlaysUptoRow.holds Try.pinned (OpenSpec.upto ulogPlaysSpec)

/-- 'tumuluslaw06.UlogCut', WHERE WHAT IT READS IS OF BULK AT MOST 1048576: true; the input reads as it did. -/
def ulogCutUptoRow : OpenClaim := { program := "ythfelcnhkabdhaa", sum := "5a1a4bfc2920a2f466f7a942fa15aedd49e4401313418e9ec65d31bda20455ba", func := "tumulus/tumuluslaw06.UlogCut", spec := "ulogCut", unfollowed := true, recurses := true, apart := false, narrowed := true }
def UlogCutUptoSaid : Prop := ulogCutUptoRow.holds Try.pinned (OpenSpec.upto ulogCutSpec)

end Rows
end Go.Proofs.Ythfelcnhkabdhaa
