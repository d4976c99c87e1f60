/-
  The walk of tumuluslaw04.HeadUnpacks.
-/
import Derived.Test.YthejggahengfnaaHead
import Derived.Test.YthejggahengfnaaOpen
set_option linter.unusedSimpArgs false
set_option linter.unusedVariables false
namespace Go.Proofs.Ythejggahengfnaa
open Go.RowKit Go.Shelf

theorem wrap_u64_range (x : Int) : 0 ≤ IntKind.u64.wrap x ∧ IntKind.u64.wrap x ≤ 18446744073709551615 := by rw [IntKind.wrap_u64]; omega
theorem bits_range (op : BinOp) (x y : Int) : 0 ≤ bits op .u64 x y ∧ bits op .u64 x y ≤ 18446744073709551615 := by
  unfold bits
  exact wrap_u64_range _

set_option maxRecDepth 100000 in
set_option maxHeartbeats 2000000 in
theorem HeadUnpacks.core (x t : Int) (small : Bool) (w : World) (x0 : 0 ≤ x) (x1 : x ≤ 18446744073709551615) (t0 : 0 ≤ t) (t1 : t ≤ 255) :
    Calls Try.prog 5 #[.int .u64 x, .bool small, .int .u8 t] w fun e w' => e = .returned (.bool true) ∧ Keep w.heap.size [] w w' := by
  have HS := Lib.hid (Sep.start w [])
  cases small
  · go_enter Try.func5, Try.ntmps5
    go_wp2_with fail
    refine (awake4_any _).mono ?_
    rintro e w1 ⟨rfl, hk⟩
    replace HS := Lib.hid (HS.out.grow hk)
    clear hk
    go_wp2_with fail
    obtain ⟨y, rfl⟩ : ∃ y, y = x := ⟨_, rfl⟩
    have y0 := x0
    have y1 := x1
    refine (unpack_any y _ y0 y1).mono ?_
    obtain ⟨a, ha⟩ : ∃ a, y % 4294967296 = a := ⟨_, rfl⟩
    obtain ⟨b, hb⟩ : ∃ b, y / 4294967296 % 16777216 = b := ⟨_, rfl⟩
    obtain ⟨c, hc⟩ : ∃ c, y / 72057594037927936 = c := ⟨_, rfl⟩
    have e24 : bits .and .u64 (y / 4294967296) 16777215 = b := by rw [and_24 _ (by omega) (by omega)]; exact hb
    have e32 : bits .and .u64 y 4294967295 = a := by rw [and_32 _ y0 y1]; exact ha
    have a0 : 0 ≤ a := by omega
    have b0 : 0 ≤ b := by omega
    have b1 : b < 16777216 := by omega
    have a1 : a < 4294967296 := by omega
    have hih : isHead y ↔ c = 177 ∧ a ≤ 64 ∧ b ≤ a := by unfold isHead; rw [ha, hb, hc]
    by_cases hh : c = 177 ∧ a ≤ 64 ∧ b ≤ a
    · have e1 : headOf y = (a, b, true) := by unfold headOf; rw [if_pos (hih.2 hh), ha, hb]
      rw [e1]
      obtain ⟨rfl, h2, h3⟩ := hh
      clear ha hb hih e1
      rintro e w2 ⟨rfl, hk⟩
      replace HS := Lib.hid ((HS.out.grow hk).alloc (.cells #[.int .i64 a, .int .i64 b] 24))
      clear hk
      go_wp2
      go_ret
      exact ⟨rfl, HS.out.keep⟩
    · have e1 : headOf y = (0, 0, false) := by unfold headOf; rw [if_neg (fun h => hh (hih.1 h))]
      rw [e1]
      rintro e w2 ⟨rfl, hk⟩
      replace HS := Lib.hid ((HS.out.grow hk).alloc (.cells #[.int .i64 0, .int .i64 0] 24))
      by_cases h1 : c = 177
      · subst h1
        by_cases h2 : a ≤ 64
        · have h3 : a < b := by omega
          have h3' : decide (b ≤ a) = false := by simp; omega
          clear hk ha hb hih e1 hh
          go_wp2
          go_ret
          exact ⟨rfl, HS.out.keep⟩
        · have h3 : 64 < a := by omega
          clear hk ha hb hih e1 hh
          go_wp2
          go_ret
          exact ⟨rfl, HS.out.keep⟩
      · have h2 : (c == 177) = false := by rw [beq_eq_false_iff_ne]; exact h1
        clear hk ha hb hih e1 hh h1
        go_wp2
        go_ret
        exact ⟨rfl, HS.out.keep⟩
  · go_enter Try.func5, Try.ntmps5
    go_wp2_with fail
    refine (awake4_any _).mono ?_
    rintro e w1 ⟨rfl, hk⟩
    replace HS := Lib.hid (HS.out.grow hk)
    clear hk
    go_wp2_with fail
    obtain ⟨y0, y1⟩ := bits_range .xor (bits .or .u64 (bits .or .u64 12754194144713244672 (x % 9 * 4294967296)) (x / 256 % 70)) (IntKind.u64.wrap (IntKind.u64.wrap (bits .and .u8 t 1) * 2 ^ (t % 64).toNat))
    generalize bits .xor .u64 (bits .or .u64 (bits .or .u64 12754194144713244672 (x % 9 * 4294967296)) (x / 256 % 70)) (IntKind.u64.wrap (IntKind.u64.wrap (bits .and .u8 t 1) * 2 ^ (t % 64).toNat)) = y at *
    clear x0 x1
    refine (unpack_any y _ y0 y1).mono ?_
    obtain ⟨a, ha⟩ : ∃ a, y % 4294967296 = a := ⟨_, rfl⟩
    obtain ⟨b, hb⟩ : ∃ b, y / 4294967296 % 16777216 = b := ⟨_, rfl⟩
    obtain ⟨c, hc⟩ : ∃ c, y / 72057594037927936 = c := ⟨_, rfl⟩
    have e24 : bits .and .u64 (y / 4294967296) 16777215 = b := by rw [and_24 _ (by omega) (by omega)]; exact hb
    have e32 : bits .and .u64 y 4294967295 = a := by rw [and_32 _ y0 y1]; exact ha
    have a0 : 0 ≤ a := by omega
    have b0 : 0 ≤ b := by omega
    have b1 : b < 16777216 := by omega
    have a1 : a < 4294967296 := by omega
    have hih : isHead y ↔ c = 177 ∧ a ≤ 64 ∧ b ≤ a := by unfold isHead; rw [ha, hb, hc]
    by_cases hh : c = 177 ∧ a ≤ 64 ∧ b ≤ a
    · have e1 : headOf y = (a, b, true) := by unfold headOf; rw [if_pos (hih.2 hh), ha, hb]
      rw [e1]
      obtain ⟨rfl, h2, h3⟩ := hh
      clear ha hb hih e1
      rintro e w2 ⟨rfl, hk⟩
      replace HS := Lib.hid ((HS.out.grow hk).alloc (.cells #[.int .i64 a, .int .i64 b] 24))
      clear hk
      go_wp2
      go_ret
      exact ⟨rfl, HS.out.keep⟩
    · have e1 : headOf y = (0, 0, false) := by unfold headOf; rw [if_neg (fun h => hh (hih.1 h))]
      rw [e1]
      rintro e w2 ⟨rfl, hk⟩
      replace HS := Lib.hid ((HS.out.grow hk).alloc (.cells #[.int .i64 0, .int .i64 0] 24))
      by_cases h1 : c = 177
      · subst h1
        by_cases h2 : a ≤ 64
        · have h3 : a < b := by omega
          have h3' : decide (b ≤ a) = false := by simp; omega
          clear hk ha hb hih e1 hh
          go_wp2
          go_ret
          exact ⟨rfl, HS.out.keep⟩
        · have h3 : 64 < a := by omega
          clear hk ha hb hih e1 hh
          go_wp2
          go_ret
          exact ⟨rfl, HS.out.keep⟩
      · have h2 : (c == 177) = false := by rw [beq_eq_false_iff_ne]; exact h1
        clear hk ha hb hih e1 hh h1
        go_wp2
        go_ret
        exact ⟨rfl, HS.out.keep⟩

theorem HeadUnpacks.walk {w : World} (x : Int) (x0 : lowest .u64 ≤ x) (x1 : x ≤ greatest .u64) (small : Bool) (t : Int) (t0 : lowest .u8 ≤ t) (t1 : t ≤ greatest .u8) :
    Calls Try.prog 5 #[.int .u64 x, .bool small, .int .u8 t] w fun e w' => e = .returned (.bool true) ∧ Below w.heap.size w w' := by
  simp [lowest, greatest] at x0 x1 t0 t1
  exact (HeadUnpacks.core x t small w x0 x1 t0 t1).mono fun e w' ⟨he, hk⟩ => ⟨he, hk.below⟩
end Go.Proofs.Ythejggahengfnaa
