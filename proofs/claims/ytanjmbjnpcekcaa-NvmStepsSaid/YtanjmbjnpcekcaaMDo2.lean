/-
  tumuluslaw02.M.Do: stores and flushes of no word.
-/
import Derived.Test.YtanjmbjnpcekcaaMMem
set_option linter.unusedSimpArgs false
set_option linter.unusedVariables false
namespace Go.Proofs.Ytanjmbjnpcekcaa
open Go.RowKit Go.Shelf

set_option maxRecDepth 100000 in
set_option maxHeartbeats 2000000 in
theorem do_store_out (d : DevI) (m : MI) (s : St) (t : List Int) (dO at_ v bt : Int) (i : Int) (w : World) (hd : Dev w d s) (hm : MOf w m s t) (hap : ∀ j ∈ m.blocks, j ∉ d.blocks)
    (d0 : 0 ≤ dO) (d1 : dO ≤ 255) (a0 : 0 ≤ at_) (a1 : at_ ≤ 255) (hq : dO % 7 ≤ 3) (hA : At s.now.length at_ i) (hi : ¬ (0 ≤ i ∧ i < s.now.length)) :
    Calls Try.prog 38 #[.pointer (some ⟨m.b, 0, none⟩), .pointer (some ⟨d.b, 0, none⟩), .agg #[.int .u8 dO, .int .u8 at_, .int .u64 v, .int .u64 bt]] w fun e w' =>
      e = .returned (.bool true) ∧ Dev w' d s ∧ MOf w' m s t ∧ Keep w.heap.size [] w w' := by
  have hkw : Keep w.heap.size [] w (w.alloc (.cells #[.int .u8 dO, .int .u8 at_, .int .u64 v, .int .u64 bt] 58)) := (Keep.refl _ _ _).alloc (Nat.le_refl _) _
  obtain ⟨hc0, hc1, hc2, hc3⟩ := (hm.of_new hkw).cells
  have hsm := hm.small
  have hsmI : (s.now.length : Int) ≤ 1099511627776 := by omega
  obtain ⟨q, hqq⟩ : ∃ q, dO % 7 = q := ⟨_, rfl⟩
  rw [hqq] at hq
  have q0 : 0 ≤ q := by omega
  have q4 : (q == 4) = false := by rw [beq_eq_false_iff_ne]; omega
  have q5 : (q == 5) = false := by rw [beq_eq_false_iff_ne]; omega
  have q6 : (q == 6) = false := by rw [beq_eq_false_iff_ne]; omega
  have hst := fun w hd => store_out d s i v w hd hi
  have HD := Lib.hid hd
  have HM := Lib.hid hm
  have HAP := Lib.hid hap
  have HKW := Lib.hid hkw
  have HB0 := Lib.hid (Blk.new w 58 #[.int .u8 dO, .int .u8 at_, .int .u64 v, .int .u64 bt])
  have HWD : Hid (w.heap.size ∉ d.blocks) := fun h => Nat.lt_irrefl _ (hd.lt _ h)
  clear hd hm hap hkw
  have hcase : i < 0 ∨ (0 ≤ i ∧ (s.now.length : Int) ≤ i) := by omega
  rcases hA with ⟨h1, h2⟩ | ⟨h1, h2, h3⟩ | ⟨h1, h2, h3⟩
  rotate_left 2
  · exfalso
    rw [Int.tmod_eq_emod_of_nonneg a0] at h3
    have e1 := Int.emod_lt_of_pos at_ (b := s.now.length) (by omega)
    have e2 := Int.emod_nonneg at_ (b := s.now.length) (by omega)
    omega
  all_goals
    rcases hcase with hcase | ⟨hcase, hcase2⟩
  all_goals
    first
      | have hp : (0 : Int) < s.now.length := by omega
      | (have hp : ((0 : Int) < s.now.length) = False := by rw [eq_iff_iff, iff_false]; omega
         have hp2 : (0 < s.now.length) = False := by rw [eq_iff_iff, iff_false]; omega)
    first
      | have hx : (i < (s.now.length : Int)) = False := by rw [eq_iff_iff, iff_false]; omega
      | skip
    clear hi h1
    go_enter Try.func38, Try.ntmps38
    go_wp2_with fail
    generalize w.alloc (.cells #[.int .u8 dO, .int .u8 at_, .int .u64 v, .int .u64 bt] 58) = w0 at *
    refine (hst _ (HD.out.of_new HKW.out)).mono ?_
    rintro e w1 ⟨rfl, rfl⟩
    clear hst
    go_wp2
    go_ret
    exact ⟨rfl, HD.out.of_new HKW.out, HM.out.of_new HKW.out, HKW.out⟩

set_option maxRecDepth 100000 in
set_option maxHeartbeats 2000000 in
theorem do_flush_out (d : DevI) (m : MI) (s : St) (t : List Int) (dO at_ v bt : Int) (i : Int) (w : World) (hd : Dev w d s) (hm : MOf w m s t) (hap : ∀ j ∈ m.blocks, j ∉ d.blocks)
    (d0 : 0 ≤ dO) (d1 : dO ≤ 255) (a0 : 0 ≤ at_) (a1 : at_ ≤ 255) (hq : dO % 7 = 4) (hA : At s.now.length at_ i) (hi : ¬ (0 ≤ i ∧ i < s.now.length)) :
    Calls Try.prog 38 #[.pointer (some ⟨m.b, 0, none⟩), .pointer (some ⟨d.b, 0, none⟩), .agg #[.int .u8 dO, .int .u8 at_, .int .u64 v, .int .u64 bt]] w fun e w' =>
      e = .returned (.bool true) ∧ Dev w' d s ∧ MOf w' m s t ∧ Keep w.heap.size [] w w' := by
  have hkw : Keep w.heap.size [] w (w.alloc (.cells #[.int .u8 dO, .int .u8 at_, .int .u64 v, .int .u64 bt] 58)) := (Keep.refl _ _ _).alloc (Nat.le_refl _) _
  obtain ⟨hc0, hc1, hc2, hc3⟩ := (hm.of_new hkw).cells
  have hsm := hm.small
  have hsmI : (s.now.length : Int) ≤ 1099511627776 := by omega
  obtain ⟨q, hqq⟩ : ∃ q, dO % 7 = q := ⟨_, rfl⟩
  rw [hqq] at hq
  subst hq
  have hst := fun w hd => flush_out d s i w hd hi
  have HD := Lib.hid hd
  have HM := Lib.hid hm
  have HAP := Lib.hid hap
  have HKW := Lib.hid hkw
  have HB0 := Lib.hid (Blk.new w 58 #[.int .u8 dO, .int .u8 at_, .int .u64 v, .int .u64 bt])
  have HWD : Hid (w.heap.size ∉ d.blocks) := fun h => Nat.lt_irrefl _ (hd.lt _ h)
  clear hd hm hap hkw
  have hcase : i < 0 ∨ (0 ≤ i ∧ (s.now.length : Int) ≤ i) := by omega
  rcases hA with ⟨h1, h2⟩ | ⟨h1, h2, h3⟩ | ⟨h1, h2, h3⟩
  rotate_left 2
  · exfalso
    rw [Int.tmod_eq_emod_of_nonneg a0] at h3
    have e1 := Int.emod_lt_of_pos at_ (b := s.now.length) (by omega)
    have e2 := Int.emod_nonneg at_ (b := s.now.length) (by omega)
    omega
  all_goals
    rcases hcase with hcase | ⟨hcase, hcase2⟩
  all_goals
    first
      | have hp : (0 : Int) < s.now.length := by omega
      | (have hp : ((0 : Int) < s.now.length) = False := by rw [eq_iff_iff, iff_false]; omega
         have hp2 : (0 < s.now.length) = False := by rw [eq_iff_iff, iff_false]; omega)
    first
      | have hx : (i < (s.now.length : Int)) = False := by rw [eq_iff_iff, iff_false]; omega
      | skip
    clear hi h1
    go_enter Try.func38, Try.ntmps38
    go_wp2_with fail
    generalize w.alloc (.cells #[.int .u8 dO, .int .u8 at_, .int .u64 v, .int .u64 bt] 58) = w0 at *
    refine (hst _ (HD.out.of_new HKW.out)).mono ?_
    rintro e w1 ⟨rfl, rfl⟩
    clear hst
    go_wp2
    go_ret
    exact ⟨rfl, HD.out.of_new HKW.out, HM.out.of_new HKW.out, HKW.out⟩

end Go.Proofs.Ytanjmbjnpcekcaa
