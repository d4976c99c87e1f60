/-
  How a word is left, by bits.
-/
import Derived.Laws.BitsLemmas
import Derived.Laws.Bits64
import Derived.Test.YtaophnicdbmojaaAwk2
set_option linter.unusedSimpArgs false
set_option linter.unusedVariables false
set_option maxRecDepth 100000
namespace Go.Proofs.Ytaophnicdbmojaa
open Go.RowKit Go.Shelf

def choiceOf (b : Int) (i : Nat) : Int := b / 2 ^ (2 * (i % 32)) % 4
theorem choiceOf_small (b : Int) (i : Nat) : 0 ≤ choiceOf b i ∧ choiceOf b i ≤ 3 := by unfold choiceOf; omega

theorem u64_wraps (n : Int) (h0 : 0 ≤ n) (h1 : n < 2 ^ 64) : IntKind.u64.wrap n = n := by rw [IntKind.wrap_u64]; omega
theorem and3 (x : Int) (h0 : 0 ≤ x) (h1 : x < 18446744073709551616) : bits .and .u64 x 3 = x % 4 := by
  have h := bits_mask .u64 64 (by decide) u64_wraps 2 (by decide) x h0 (by omega)
  simpa using h

theorem chooses_bits (G : FuncId) (g : Nat) (b : Int) (n : Nat) (B : List Nat) (hG : Enters Try.prog G) (hg : g ∉ B) (hn : n ≤ 1099511627776)
    (h : ∀ (k : Nat) (w : World), k ≤ 1099511627776 → w.cell? ⟨g, 0, none⟩ = some (.int .u64 b) → Calls Try.prog G #[.int .i64 k, .pointer (some ⟨g, 0, none⟩)] w fun e w' => e = .returned (.int .u8 (choiceOf b k)) ∧ w = w') :
    Chooses G #[.pointer (some ⟨g, 0, none⟩)] (choiceOf b) n (fun _ w => Blk w g 25 #[.int .u64 b]) [] B :=
  ⟨hG, fun k w hk hJ => (h k w (by omega) (by simpa using hJ.cell 0)).mono fun e w' ⟨h1, h2⟩ => ⟨h1, h2 ▸ hJ, h2 ▸ Keep.refl _ _ _⟩, fun k => by have := choiceOf_small b k; omega,
    fun _ _ _ hJ hk => hJ.keep hk hJ.lt hg, by simp⟩
end Go.Proofs.Ytaophnicdbmojaa
