/-
  Heads as words: plain arithmetic.
  Contracts of package head; tumuluslaw04.Awake.
-/
import Derived.Laws.Bits64b
import Derived.Test.YtbdomdmnjclpdaaReg
import Derived.Test.YtbdomdmnjclpdaaSt
set_option linter.unusedVariables false
set_option maxRecDepth 100000
namespace Go.Proofs.Ytbdomdmnjclpdaa
open Go

/-- A head as a word. -/
def hw (words refs : Int) : Int := 12754194144713244672 + refs * 4294967296 + words
/-- Is a word a head? -/
def isHead (w : Int) : Prop := w / 72057594037927936 = 177 ∧ w % 4294967296 ≤ 64 ∧ w / 4294967296 % 16777216 ≤ w % 4294967296
instance (w : Int) : Decidable (isHead w) := by unfold isHead; infer_instance

theorem hw_of {w : Int} (h0 : 0 ≤ w) (h1 : w ≤ 18446744073709551615) (h : isHead w) : hw (w % 4294967296) (w / 4294967296 % 16777216) = w := by
  unfold isHead at h; unfold hw; omega
theorem isHead_of {w : Int} (h0 : 0 ≤ w) (h1 : w ≤ 18446744073709551615) (h2 : w % 4294967296 ≤ 64) (h3 : w / 4294967296 % 16777216 ≤ w % 4294967296) (h : hw (w % 4294967296) (w / 4294967296 % 16777216) = w) : isHead w := by
  unfold isHead; unfold hw at h; omega
theorem hw_range {words refs : Int} (h0 : 0 ≤ refs) (h1 : refs ≤ words) (h2 : words ≤ 64) : 0 < hw words refs ∧ hw words refs ≤ 18446744073709551615 := by unfold hw; omega
theorem hw_parts {words refs : Int} (h0 : 0 ≤ refs) (h1 : refs ≤ words) (h2 : words ≤ 64) : hw words refs % 4294967296 = words ∧ hw words refs / 4294967296 % 16777216 = refs ∧ isHead (hw words refs) := by
  unfold isHead hw; omega
theorem hw_inj {a b c d : Int} (h0 : 0 ≤ b) (h1 : b ≤ a) (h2 : a ≤ 64) (h3 : 0 ≤ d) (h4 : d ≤ c) (h5 : c ≤ 64) (h : hw a b = hw c d) : a = c ∧ b = d := by
  unfold hw at h; omega

theorem or_disjoint (a b i : Nat) (hb : b < 2 ^ i) : (2 ^ i * a) ||| b = 2 ^ i * a + b := (Nat.two_pow_add_eq_or_of_lt hb a).symm
theorem or_pack1 (refs : Int) (h0 : 0 ≤ refs) (h1 : refs ≤ 64) : bits .or .u64 12754194144713244672 (refs * 4294967296) = 12754194144713244672 + refs * 4294967296 := by
  obtain ⟨r, rfl⟩ := Int.eq_ofNat_of_zero_le h0
  have e : ((r : Int) * 4294967296) = ((r * 4294967296 : Nat) : Int) := by omega
  have h := or_disjoint 177 (r * 4294967296) 56 (by omega)
  rw [e, show (12754194144713244672 : Int) = ((12754194144713244672 : Nat) : Int) from rfl, bits_or_u64_nat _ _ (by omega) (by omega)]
  rw [show (2 ^ 56 * 177 : Nat) = 12754194144713244672 from rfl] at h
  rw [h]; omega
theorem or_pack2 (words refs : Int) (h0 : 0 ≤ refs) (h1 : refs ≤ 64) (h2 : 0 ≤ words) (h3 : words ≤ 64) : bits .or .u64 (12754194144713244672 + refs * 4294967296) words = hw words refs := by
  obtain ⟨r, rfl⟩ := Int.eq_ofNat_of_zero_le h0
  obtain ⟨x, rfl⟩ := Int.eq_ofNat_of_zero_le h2
  have e : (12754194144713244672 + (r : Int) * 4294967296) = ((2 ^ 32 * (2969567232 + r) : Nat) : Int) := by omega
  have h := or_disjoint (2969567232 + r) x 32 (by omega)
  rw [e, bits_or_u64_nat _ _ (by omega) (by omega), h]
  unfold hw; omega
theorem and_mask (x : Int) (i : Nat) (h0 : 0 ≤ x) (h1 : x ≤ 18446744073709551615) (m : Int) (hm : m = ((2 ^ i - 1 : Nat) : Int)) (hi : 2 ^ i ≤ 18446744073709551616) : bits .and .u64 x m = x % ((2 ^ i : Nat) : Int) := by
  obtain ⟨a, rfl⟩ := Int.eq_ofNat_of_zero_le h0
  have hp : 0 < 2 ^ i := Nat.two_pow_pos i
  rw [hm, bits_and_u64_nat _ _ (by omega) (by omega), Nat.and_two_pow_sub_one_eq_mod]
  rfl
theorem and_24 (x : Int) (h0 : 0 ≤ x) (h1 : x ≤ 18446744073709551615) : bits .and .u64 x 16777215 = x % 16777216 := and_mask x 24 h0 h1 16777215 rfl (by decide)
theorem and_32 (x : Int) (h0 : 0 ≤ x) (h1 : x ≤ 18446744073709551615) : bits .and .u64 x 4294967295 = x % 4294967296 := and_mask x 32 h0 h1 4294967295 rfl (by decide)
/-- With one bit turned a word is another one. -/
theorem xor_bit (x : Int) (i : Nat) (h0 : 0 ≤ x) (h1 : x ≤ 18446744073709551615) (hi : i < 64) : bits .xor .u64 x (2 ^ i) ≠ x ∧ 0 ≤ bits .xor .u64 x (2 ^ i) ∧ bits .xor .u64 x (2 ^ i) ≤ 18446744073709551615 := by
  obtain ⟨a, rfl⟩ := Int.eq_ofNat_of_zero_le h0
  have hp : 0 < 2 ^ i := Nat.two_pow_pos i
  have hp2 : 2 ^ i < 2 ^ 64 := Nat.pow_lt_pow_right (by decide) hi
  have e : ((2 : Int) ^ i) = ((2 ^ i : Nat) : Int) := by simp
  have hx : a ^^^ 2 ^ i < 2 ^ 64 := Nat.xor_lt_two_pow (by omega) (by omega)
  rw [e, bits_xor_u64_nat _ _ (by omega) (by omega)]
  refine ⟨fun h => ?_, by omega, by omega⟩
  have h2 : a ^^^ 2 ^ i = a := by omega
  have h3 : a ^^^ (a ^^^ 2 ^ i) = a ^^^ a := by rw [h2]
  rw [← Nat.xor_assoc, Nat.xor_self, Nat.zero_xor] at h3
  omega
theorem wrap_pow (i : Nat) (hi : i < 64) : IntKind.u64.wrap (2 ^ i) = 2 ^ i := by
  have h1 : (2 : Nat) ^ i < 18446744073709551616 := by
    have := Nat.pow_lt_pow_right (show 1 < 2 by decide) hi
    simpa using this
  have h2 : ((2 : Int) ^ i) = ((2 ^ i : Nat) : Int) := by simp
  rw [IntKind.wrap_u64, h2]
  generalize (2 : Nat) ^ i = n at *
  omega
end Go.Proofs.Ytbdomdmnjclpdaa
set_option linter.unusedSimpArgs false
set_option linter.unusedVariables false
set_option maxRecDepth 100000
namespace Go.Proofs.Ytbdomdmnjclpdaa
open Go.RowKit Go.Shelf

def headOk (a b : Int) : Prop := 0 ≤ a ∧ a ≤ 64 ∧ 0 ≤ b ∧ b ≤ a
instance (a b : Int) : Decidable (headOk a b) := by unfold headOk; infer_instance

set_option maxHeartbeats 400000 in
theorem hcheck_yes (a b : Int) (w : World) (h : headOk a b) :
    Calls Try.prog 51 #[.agg #[.int .i64 a, .int .i64 b]] w fun e w' => e = .returned (.int .i64 0) ∧ Keep w.heap.size [] w w' := by
  obtain ⟨h1, h2, h3, h4⟩ := h
  go_enter Try.func51, Try.ntmps51
  go_wp2
  go_ret
  exact ⟨rfl, (Keep.refl _ _ _).alloc (Nat.le_refl _) _⟩
set_option maxHeartbeats 800000 in
theorem hcheck_no (a b : Int) (w : World) (h : ¬ headOk a b) :
    Calls Try.prog 51 #[.agg #[.int .i64 a, .int .i64 b]] w fun e w' => e = .returned (.int .i64 5) ∧ Keep w.heap.size [] w w' := by
  have hcs : a < 0 ∨ (0 ≤ a ∧ 64 < a) ∨ (0 ≤ a ∧ a ≤ 64 ∧ b < 0) ∨ (0 ≤ a ∧ a ≤ 64 ∧ 0 ≤ b ∧ a < b) := by unfold headOk at h; omega
  clear h
  rcases hcs with h1 | ⟨h1, h2⟩ | ⟨h1, h2, h3⟩ | ⟨h1, h2, h3, h4⟩
  all_goals
    go_enter Try.func51, Try.ntmps51
    go_wp2
    go_ret
    exact ⟨rfl, (Keep.refl _ _ _).alloc (Nat.le_refl _) _⟩

/-- What Check answers. -/
def hchk (a b : Int) : Int := if headOk a b then 0 else 5
theorem hcheck_gen (a b : Int) (w : World) :
    Calls Try.prog 51 #[.agg #[.int .i64 a, .int .i64 b]] w fun e w' => e = .returned (.int .i64 (hchk a b)) ∧ Keep w.heap.size [] w w' := by
  unfold hchk
  by_cases h : headOk a b
  · rw [if_pos h]; exact hcheck_yes a b w h
  · rw [if_neg h]; exact hcheck_no a b w h

set_option maxHeartbeats 400000 in
theorem hsize_any (a b : Int) (w : World) (h0 : 0 ≤ a) (h1 : a ≤ 1000) :
    Calls Try.prog 20 #[.agg #[.int .i64 a, .int .i64 b]] w fun e w' => e = .returned (.int .i64 (a + 1)) ∧ Keep w.heap.size [] w w' := by
  go_enter Try.func20, Try.ntmps20
  go_wp2
  go_ret
  exact ⟨rfl, (Keep.refl _ _ _).alloc (Nat.le_refl _) _⟩

theorem hsize_eq (a b s : Int) (w : World) (h0 : 0 ≤ a) (h1 : a ≤ 1000) (hs : a + 1 = s) :
    Calls Try.prog 20 #[.agg #[.int .i64 a, .int .i64 b]] w fun e w' => e = .returned (.int .i64 s) ∧ Keep w.heap.size [] w w' := by
  subst hs; exact hsize_any a b w h0 h1

set_option maxHeartbeats 400000 in
theorem hpack_any (a b : Int) (w : World) (h : headOk a b) :
    Calls Try.prog 52 #[.agg #[.int .i64 a, .int .i64 b]] w fun e w' => e = .returned (.int .u64 (hw a b)) ∧ Keep w.heap.size [] w w' := by
  obtain ⟨h1, h2, h3, h4⟩ := h
  have h5 : b ≤ 64 := by omega
  have e1 := or_pack1 b h3 h5
  have e2 := or_pack2 a b h3 h5 h1 h2
  have E1 := Lib.hid e1
  have E2 := Lib.hid e2
  clear e1 e2
  go_enter Try.func52, Try.ntmps52
  go_wp2
  rw [E1.out, E2.out]
  go_ret
  exact ⟨rfl, (Keep.refl _ _ _).alloc (Nat.le_refl _) _⟩

/-- What Unpack has read. -/
theorem unpack_parts (x : Int) (h0 : 0 ≤ x) (h1 : x ≤ 18446744073709551615) : wrap64 (bits .and .u64 (x / 4294967296) 16777215) = x / 4294967296 % 16777216 := by
  rw [and_24 (x / 4294967296) (by omega) (by omega)]
  unfold wrap64
  omega

theorem wf_unpack (x : Int) (h0 : 0 ≤ x) (h1 : x ≤ 18446744073709551615) : 0 ≤ x % 4294967296 ∧ 0 ≤ x / 4294967296 % 16777216 := by omega

set_option maxHeartbeats 800000 in
theorem unpack_yes0 (x a b : Int) (w : World) (h0 : 0 ≤ x) (h1 : x ≤ 18446744073709551615) (ha : x % 4294967296 = a) (hb : x / 4294967296 % 16777216 = b) (h : isHead x) :
    Calls Try.prog 35 #[.int .u64 x] w fun e w' => e = .returned (.tuple #[.agg #[.int .i64 a, .int .i64 b], .bool true]) ∧ Keep w.heap.size [] w w' := by
  have he := unpack_parts x h0 h1
  have hok : headOk a b := by unfold isHead at h; unfold headOk; omega
  have hhw := hw_of h0 h1 h
  rw [ha, hb] at hhw
  rw [hb] at he
  have HE := Lib.hid he
  have HW := Lib.hid hhw
  have HOK := Lib.hid hok
  clear he hhw hok h hb
  go_enter Try.func35, Try.ntmps35
  go_wp2_with fail
  rw [HE.out]
  have hs := ((Sep.start w []).new 51 #[.int .i64 0, .int .i64 0]).new 51 #[.int .i64 a, .int .i64 b]
  simp only [World.size_alloc] at hs
  have HS := Lib.hid hs
  clear hs HE
  generalize (w.alloc _).alloc _ = w1 at *
  refine (hcheck_yes a b _ HOK.out).mono ?_
  rintro e w2 ⟨rfl, hk⟩
  replace HS := Lib.hid (HS.out.grow hk)
  have hb := HS.out.blk 1 rfl
  have c0 := hb.cell 0
  have c1 := hb.cell 1
  simp at c0 c1
  clear hk hb
  go_wp2_with fail
  refine (hpack_any a b _ HOK.out).mono ?_
  rintro e w3 ⟨rfl, hk⟩
  replace HS := Lib.hid (HS.out.grow hk)
  rw [HW.out]
  have hb := HS.out.blk 1 rfl
  have c0 := hb.cell 0
  have c1 := hb.cell 1
  have hb0 := HS.out.blk 0 rfl
  have d0 := hb0.cell 0
  have d1 := hb0.cell 1
  have f0 := hb0.frozen 0
  have f1 := hb0.frozen 1
  simp at c0 c1 d0 d1
  clear hk hb hb0
  go_wp2
  replace HS := Lib.hid ((HS.out.put (i := 0) rfl 0 (.int .i64 a)).put (i := 0) rfl 1 (.int .i64 b))
  clear c0 c1 d0 d1 f0 f1
  generalize (w3.setCell _ _).setCell _ _ = w4 at *
  have hb0 := HS.out.blk 0 rfl
  have d0 := hb0.cell 0
  have d1 := hb0.cell 1
  simp at d0 d1
  exact bodyPost_ret (v := .tuple #[.agg #[.int .i64 a, .int .i64 b], .bool true]) (by simp [results, Try.results35, go_sem, d0, d1]) rfl ⟨rfl, HS.out.keep⟩

set_option maxHeartbeats 800000 in
theorem unpack_no0 (x a b : Int) (w : World) (h0 : 0 ≤ x) (h1 : x ≤ 18446744073709551615) (ha : x % 4294967296 = a) (hb : x / 4294967296 % 16777216 = b) (h : ¬ isHead x) :
    Calls Try.prog 35 #[.int .u64 x] w fun e w' => e = .returned (.tuple #[.agg #[.int .i64 0, .int .i64 0], .bool false]) ∧ Keep w.heap.size [] w w' := by
  have he := unpack_parts x h0 h1
  rw [hb] at he
  have HE := Lib.hid he
  have hno : headOk a b → hw a b ≠ x := fun hok e => h (isHead_of h0 h1 (by rw [ha]; exact hok.2.1) (by rw [ha, hb]; exact hok.2.2.2) (by rw [ha, hb]; exact e))
  have HNO := Lib.hid hno
  clear he h hb hno
  go_enter Try.func35, Try.ntmps35
  go_wp2_with fail
  rw [HE.out]
  have hs := ((Sep.start w []).new 51 #[.int .i64 0, .int .i64 0]).new 51 #[.int .i64 a, .int .i64 b]
  simp only [World.size_alloc] at hs
  have HS := Lib.hid hs
  clear hs HE
  generalize (w.alloc _).alloc _ = w1 at *
  by_cases hok : headOk a b
  · have hne : (hw a b == x) = false := by rw [beq_eq_false_iff_ne]; exact HNO.out hok
    have hne2 : (hw a b != x) = true := by simp [bne, hne]
    have HOK := Lib.hid hok
    clear hok
    refine (hcheck_yes a b _ HOK.out).mono ?_
    rintro e w2 ⟨rfl, hk⟩
    replace HS := Lib.hid (HS.out.grow hk)
    have hb := HS.out.blk 1 rfl
    have c0 := hb.cell 0
    have c1 := hb.cell 1
    simp at c0 c1
    clear hk hb
    go_wp2_with fail
    refine (hpack_any a b _ HOK.out).mono ?_
    rintro e w3 ⟨rfl, hk⟩
    replace HS := Lib.hid (HS.out.grow hk)
    have hb0 := HS.out.blk 0 rfl
    have d0 := hb0.cell 0
    have d1 := hb0.cell 1
    have f0 := hb0.frozen 0
    have f1 := hb0.frozen 1
    simp at d0 d1
    clear hk hb0 c0 c1
    go_wp2
    replace HS := Lib.hid ((HS.out.put (i := 0) rfl 0 (.int .i64 0)).put (i := 0) rfl 1 (.int .i64 0))
    clear d0 d1 f0 f1
    generalize (w3.setCell _ _).setCell _ _ = w4 at *
    have hb0 := HS.out.blk 0 rfl
    have d0 := hb0.cell 0
    have d1 := hb0.cell 1
    simp at d0 d1
    exact bodyPost_ret (v := .tuple #[.agg #[.int .i64 0, .int .i64 0], .bool false]) (by simp [results, Try.results35, go_sem, d0, d1]) rfl ⟨rfl, HS.out.keep⟩
  · have HOK := Lib.hid hok
    clear hok
    refine (hcheck_no a b _ HOK.out).mono ?_
    rintro e w3 ⟨rfl, hk⟩
    replace HS := Lib.hid (HS.out.grow hk)
    have hb0 := HS.out.blk 0 rfl
    have d0 := hb0.cell 0
    have d1 := hb0.cell 1
    have f0 := hb0.frozen 0
    have f1 := hb0.frozen 1
    simp at d0 d1
    clear hk hb0
    go_wp2
    replace HS := Lib.hid ((HS.out.put (i := 0) rfl 0 (.int .i64 0)).put (i := 0) rfl 1 (.int .i64 0))
    clear d0 d1 f0 f1
    generalize (w3.setCell _ _).setCell _ _ = w4 at *
    have hb0 := HS.out.blk 0 rfl
    have d0 := hb0.cell 0
    have d1 := hb0.cell 1
    simp at d0 d1
    exact bodyPost_ret (v := .tuple #[.agg #[.int .i64 0, .int .i64 0], .bool false]) (by simp [results, Try.results35, go_sem, d0, d1]) rfl ⟨rfl, HS.out.keep⟩

/-- A word's head. -/
def headOf (x : Int) : Int × Int × Bool := if isHead x then (x % 4294967296, x / 4294967296 % 16777216, true) else (0, 0, false)
theorem unpack_any (x : Int) (w : World) (h0 : 0 ≤ x) (h1 : x ≤ 18446744073709551615) :
    Calls Try.prog 35 #[.int .u64 x] w fun e w' => e = .returned (.tuple #[.agg #[.int .i64 (headOf x).1, .int .i64 (headOf x).2.1], .bool (headOf x).2.2]) ∧ Keep w.heap.size [] w w' := by
  unfold headOf
  by_cases h : isHead x
  · simp only [h, if_true]
    exact unpack_yes0 x _ _ w h0 h1 rfl rfl h
  · simp only [h, if_false]
    exact unpack_no0 x _ _ w h0 h1 rfl rfl h
theorem headOf_hw {a b : Int} (h : headOk a b) : headOf (hw a b) = (a, b, true) := by
  obtain ⟨e1, e2, e3⟩ := hw_parts h.2.2.1 h.2.2.2 h.2.1
  unfold headOf
  rw [if_pos e3, e1, e2]
theorem headOf_ne {y a b : Int} (h0 : 0 ≤ y) (h1 : y ≤ 18446744073709551615) (hy : y ≠ hw a b) : (headOf y).2.2 = true → ¬ ((headOf y).1 = a ∧ (headOf y).2.1 = b) := by
  intro h ⟨e1, e2⟩
  unfold headOf at h e1 e2
  by_cases hh : isHead y
  · simp only [hh, if_true] at e1 e2
    have := hw_of h0 h1 hh
    rw [e1, e2] at this
    exact hy this.symm
  · simp [hh] at h
theorem hw_beq {a b c d : Int} (b0 : 0 ≤ b) (b1 : b ≤ a) (a1 : a ≤ 64) (d0 : 0 ≤ d) (d1 : d ≤ c) (c1 : c ≤ 64) : (hw a b == hw c d) = (a == c && b == d) := by
  rw [Bool.eq_iff_iff]
  simp only [beq_iff_eq, Bool.and_eq_true]
  exact ⟨fun h => hw_inj b0 b1 a1 d0 d1 c1 h, fun ⟨h1, h2⟩ => by rw [h1, h2]⟩
theorem headOf_ok {x : Int} (h0 : 0 ≤ x) : headOk (headOf x).1 (headOf x).2.1 := by
  unfold headOf headOk
  split
  · rename_i h
    unfold isHead at h
    simp only
    omega
  · simp

set_option maxHeartbeats 800000 in
theorem awake4_any (w : World) : Calls Try.prog 89 #[] w fun e w' => e = .returned (.bool true) ∧ Keep w.heap.size [] w w' := by
  have HS := Lib.hid (Sep.start w [])
  have hok : headOk 3 1 := by decide
  have he : hw 3 1 = 12754194149008211971 := by decide
  have HOK := Lib.hid hok
  have HE := Lib.hid he
  clear hok he
  go_enter Try.func89, Try.ntmps89
  go_wp2_with fail
  refine (awake3_any _).mono ?_
  rintro e w1 ⟨rfl, hk⟩
  replace HS := Lib.hid (HS.out.grow hk)
  clear hk
  go_wp2_with fail
  rw [← HE.out]
  refine (unpack_any (hw 3 1) _ (by decide) (by decide)).mono ?_
  rw [headOf_hw HOK.out]
  rintro e w1 ⟨rfl, hk⟩
  replace HS := Lib.hid ((HS.out.grow hk).new 51 #[.int .i64 3, .int .i64 1])
  clear hk
  go_wp2_with fail
  generalize w1.alloc _ = w2 at *
  generalize w1.heap.size = g at *
  refine (hsize_any 3 1 _ (by decide) (by decide)).mono ?_
  rintro e w3 ⟨rfl, hk⟩
  replace HS := Lib.hid (HS.out.grow hk)
  have hb := HS.out.blk 0 rfl
  have c0 := hb.cell 0
  have c1 := hb.cell 1
  simp at c0 c1
  clear hk hb
  go_wp2_with fail
  refine (hpack_any 3 1 _ HOK.out).mono ?_
  rintro e w4 ⟨rfl, hk⟩
  replace HS := Lib.hid (HS.out.grow hk)
  rw [HE.out]
  clear hk c0 c1
  go_wp2
  go_ret
  exact ⟨rfl, HS.out.keep⟩
end Go.Proofs.Ytbdomdmnjclpdaa
