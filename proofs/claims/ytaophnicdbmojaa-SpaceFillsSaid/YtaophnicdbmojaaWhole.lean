/-
  A new heap's words.
-/
import Derived.Test.YtaophnicdbmojaaFmtd
set_option linter.unusedSimpArgs false
set_option linter.unusedVariables false
set_option maxRecDepth 100000
namespace Go.Proofs.Ytaophnicdbmojaa
open Go.RowKit Go.Shelf

/-- A new heap's words. -/
structure WholeS (s : St) (k : Kfg) : Prop where
  w0 : s.nw 0 = MAGIC
  w1 : s.nw 1 = k.L
  w2 : s.nw 2 = k.R
  w3 : s.nw 3 = k.S
  w8 : s.nw 8 = 1
  recs : ∀ i, i < k.L → s.nw (16 + 4 * i) = 0
  zer : ∀ i, i < 2 + k.R → s.nw (k.act + i) = 0

theorem load_is (d : DevI) (s : St) (j : Nat) (v : Int) (w : World) (h : Dev w d s) (hv : s.nw j = v) :
    Calls Try.prog 29 #[.pointer (some ⟨d.b, 0, none⟩), .int .i64 j] w fun e w' => e = .returned (.int .u64 v) ∧ w = w' := by
  subst hv; exact load_nat d s j w h

end Go.Proofs.Ytaophnicdbmojaa
