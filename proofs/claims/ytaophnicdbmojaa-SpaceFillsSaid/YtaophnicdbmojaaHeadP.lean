/-
  Heads as words: plain arithmetic.
-/
import Derived.Laws.Bits64b
set_option linter.unusedVariables false
set_option maxRecDepth 100000
namespace Go.Proofs.Ytaophnicdbmojaa
open Go

/-- A head as a word. -/
def hw (words refs : Int) : Int := 12754194144713244672 + refs * 4294967296 + words
/-- Is a word a head? -/
def isHead (w : Int) : Prop := w / 72057594037927936 = 177 ∧ w % 4294967296 ≤ 64 ∧ w / 4294967296 % 16777216 ≤ w % 4294967296
instance (w : Int) : Decidable (isHead w) := by unfold isHead; infer_instance

theorem hw_of {w : Int} (h0 : 0 ≤ w) (h1 : w ≤ 18446744073709551615) (h : isHead w) : hw (w % 4294967296) (w / 4294967296 % 16777216) = w := by
  unfold isHead at h; unfold hw; omega
theorem isHead_of {w : Int} (h0 : 0 ≤ w) (h1 : w ≤ 18446744073709551615) (h2 : w % 4294967296 ≤ 64) (h3 : w / 4294967296 % 16777216 ≤ w % 4294967296) (h : hw (w % 4294967296) (w / 4294967296 % 16777216) = w) : isHead w := by
  unfold isHead; unfold hw at h; omega
theorem hw_range {words refs : Int} (h0 : 0 ≤ refs) (h1 : refs ≤ words) (h2 : words ≤ 64) : 0 < hw words refs ∧ hw words refs ≤ 18446744073709551615 := by unfold hw; omega
theorem hw_parts {words refs : Int} (h0 : 0 ≤ refs) (h1 : refs ≤ words) (h2 : words ≤ 64) : hw words refs % 4294967296 = words ∧ hw words refs / 4294967296 % 16777216 = refs ∧ isHead (hw words refs) := by
  unfold isHead hw; omega
theorem hw_inj {a b c d : Int} (h0 : 0 ≤ b) (h1 : b ≤ a) (h2 : a ≤ 64) (h3 : 0 ≤ d) (h4 : d ≤ c) (h5 : c ≤ 64) (h : hw a b = hw c d) : a = c ∧ b = d := by
  unfold hw at h; omega

theorem or_disjoint (a b i : Nat) (hb : b < 2 ^ i) : (2 ^ i * a) ||| b = 2 ^ i * a + b := (Nat.two_pow_add_eq_or_of_lt hb a).symm
theorem or_pack1 (refs : Int) (h0 : 0 ≤ refs) (h1 : refs ≤ 64) : bits .or .u64 12754194144713244672 (refs * 4294967296) = 12754194144713244672 + refs * 4294967296 := by
  obtain ⟨r, rfl⟩ := Int.eq_ofNat_of_zero_le h0
  have e : ((r : Int) * 4294967296) = ((r * 4294967296 : Nat) : Int) := by omega
  have h := or_disjoint 177 (r * 4294967296) 56 (by omega)
  rw [e, show (12754194144713244672 : Int) = ((12754194144713244672 : Nat) : Int) from rfl, bits_or_u64_nat _ _ (by omega) (by omega)]
  rw [show (2 ^ 56 * 177 : Nat) = 12754194144713244672 from rfl] at h
  rw [h]; omega
theorem or_pack2 (words refs : Int) (h0 : 0 ≤ refs) (h1 : refs ≤ 64) (h2 : 0 ≤ words) (h3 : words ≤ 64) : bits .or .u64 (12754194144713244672 + refs * 4294967296) words = hw words refs := by
  obtain ⟨r, rfl⟩ := Int.eq_ofNat_of_zero_le h0
  obtain ⟨x, rfl⟩ := Int.eq_ofNat_of_zero_le h2
  have e : (12754194144713244672 + (r : Int) * 4294967296) = ((2 ^ 32 * (2969567232 + r) : Nat) : Int) := by omega
  have h := or_disjoint (2969567232 + r) x 32 (by omega)
  rw [e, bits_or_u64_nat _ _ (by omega) (by omega), h]
  unfold hw; omega
theorem and_mask (x : Int) (i : Nat) (h0 : 0 ≤ x) (h1 : x ≤ 18446744073709551615) (m : Int) (hm : m = ((2 ^ i - 1 : Nat) : Int)) (hi : 2 ^ i ≤ 18446744073709551616) : bits .and .u64 x m = x % ((2 ^ i : Nat) : Int) := by
  obtain ⟨a, rfl⟩ := Int.eq_ofNat_of_zero_le h0
  have hp : 0 < 2 ^ i := Nat.two_pow_pos i
  rw [hm, bits_and_u64_nat _ _ (by omega) (by omega), Nat.and_two_pow_sub_one_eq_mod]
  rfl
theorem and_24 (x : Int) (h0 : 0 ≤ x) (h1 : x ≤ 18446744073709551615) : bits .and .u64 x 16777215 = x % 16777216 := and_mask x 24 h0 h1 16777215 rfl (by decide)
theorem and_32 (x : Int) (h0 : 0 ≤ x) (h1 : x ≤ 18446744073709551615) : bits .and .u64 x 4294967295 = x % 4294967296 := and_mask x 32 h0 h1 4294967295 rfl (by decide)
/-- With one bit turned a word is another one. -/
theorem xor_bit (x : Int) (i : Nat) (h0 : 0 ≤ x) (h1 : x ≤ 18446744073709551615) (hi : i < 64) : bits .xor .u64 x (2 ^ i) ≠ x ∧ 0 ≤ bits .xor .u64 x (2 ^ i) ∧ bits .xor .u64 x (2 ^ i) ≤ 18446744073709551615 := by
  obtain ⟨a, rfl⟩ := Int.eq_ofNat_of_zero_le h0
  have hp : 0 < 2 ^ i := Nat.two_pow_pos i
  have hp2 : 2 ^ i < 2 ^ 64 := Nat.pow_lt_pow_right (by decide) hi
  have e : ((2 : Int) ^ i) = ((2 ^ i : Nat) : Int) := by simp
  have hx : a ^^^ 2 ^ i < 2 ^ 64 := Nat.xor_lt_two_pow (by omega) (by omega)
  rw [e, bits_xor_u64_nat _ _ (by omega) (by omega)]
  refine ⟨fun h => ?_, by omega, by omega⟩
  have h2 : a ^^^ 2 ^ i = a := by omega
  have h3 : a ^^^ (a ^^^ 2 ^ i) = a ^^^ a := by rw [h2]
  rw [← Nat.xor_assoc, Nat.xor_self, Nat.zero_xor] at h3
  omega
theorem wrap_pow (i : Nat) (hi : i < 64) : IntKind.u64.wrap (2 ^ i) = 2 ^ i := by
  have h1 : (2 : Nat) ^ i < 18446744073709551616 := by
    have := Nat.pow_lt_pow_right (show 1 < 2 by decide) hi
    simpa using this
  have h2 : ((2 : Int) ^ i) = ((2 ^ i : Nat) : Int) := by simp
  rw [IntKind.wrap_u64, h2]
  generalize (2 : Nat) ^ i = n at *
  omega
end Go.Proofs.Ytaophnicdbmojaa
