/-
  The walk of tumuluslaw04.HeadSizes.
-/
import Derived.Test.YthejggahengfnaaHead
import Derived.Test.YthejggahengfnaaOpen
import Derived.BigRegion
set_option linter.unusedSimpArgs false
set_option linter.unusedVariables false
namespace Go.Proofs.Ythejggahengfnaa
open Go.RowKit Go.Shelf

set_option maxRecDepth 100000 in
set_option maxHeartbeats 2000000 in
theorem HeadSizes.core (p q : Int) (w : World) (p0 : 0 ≤ p) (p1 : p ≤ 255) (q0 : 0 ≤ q) (q1 : q ≤ 255) :
    Calls Try.prog 7 #[.int .u8 p, .int .u8 q] w fun e w' => e = .returned (.bool true) ∧ Keep w.heap.size [] w w' := by
  obtain ⟨a, ha⟩ : ∃ a, p % 64 = a := ⟨_, rfl⟩
  obtain ⟨b, hb⟩ : ∃ b, q % (a + 1) = b := ⟨_, rfl⟩
  have a0 : 0 ≤ a := by omega
  have a1 : a ≤ 63 := by omega
  have hlt := Int.emod_lt_of_pos q (show 0 < a + 1 by omega)
  have hge := Int.emod_nonneg q (show a + 1 ≠ 0 by omega)
  have b0 : 0 ≤ b := by omega
  have b1 : b ≤ 63 := by omega
  have hba : b ≤ a := by omega
  have HS := Lib.hid (Sep.start w [])
  clear hlt hge
  go_enter Try.func7, Try.ntmps7
  go_wp2_with fail
  refine (awake4_any _).mono ?_
  rintro e w1 ⟨rfl, hk⟩
  replace HS := Lib.hid (HS.out.grow hk)
  clear hk
  replace HS := Lib.hid (HS.out.new 24 #[.int .i64 a, .int .i64 b])
  go_wp2_with fail
  generalize w1.alloc _ = w2 at *
  generalize w1.heap.size = g at *
  have c0 := (HS.out.blk 0 rfl).cell 0
  simp at c0
  have c1 := (HS.out.blk 0 rfl).cell 1
  simp at c1
  have hg := (HS.out.blk 0 rfl).lt
  have hk1 : headOk (a + 1) b := ⟨by omega, by omega, b0, by omega⟩
  have HK1 := Lib.hid hk1
  clear hk1 ha hb
  go_big_region
  · as_aux_lemma =>
    have hs2 := ((HS.out.new 24 #[.int .i64 (a + 1), .int .i64 b]).new 24 #[.int .i64 a, .int .i64 (b + 1)]).drew
    simp only [World.size_alloc] at hs2
    replace HS := Lib.hid hs2
    clear hs2 c0 c1 hg
    generalize ((w2.alloc _).alloc _).drew = w4 at *
    generalize w2.heap.size = g2 at *
    generalize g2 + 1 = g3 at *
    obtain ⟨A1, hA1⟩ : ∃ A1, a + 1 = A1 := ⟨_, rfl⟩
    obtain ⟨B1, hB1⟩ : ∃ B1, b + 1 = B1 := ⟨_, rfl⟩
    obtain ⟨A2, hA2⟩ : ∃ A2, A1 + 1 = A2 := ⟨_, rfl⟩
    rw [hA1, hB1] at HS
    rw [hA1, hB1]
    have hsum : IntKind.i64.wrap (A1 + 1) = A2 := by rw [IntWalk.i64_in _ (by omega)]; exact hA2
    rw [hA1] at HK1
    have HA1 := Lib.hid hA1
    have HA2 := Lib.hid hA2
    have hz1 : 0 ≤ A1 ∧ A1 ≤ 1000 := by omega
    have HZ1 := Lib.hid hz1
    clear hA1 hA2 hz1
    have c0 : ∀ x : Ext w4, x.now.cell? ⟨g, 0, none⟩ = some (.int .i64 a) := fun x => x.cell (by simpa using (HS.out.blk 0 rfl).cell 0)
    have c1 : ∀ x : Ext w4, x.now.cell? ⟨g, 1, none⟩ = some (.int .i64 b) := fun x => x.cell (by simpa using (HS.out.blk 0 rfl).cell 1)
    have d0 : ∀ x : Ext w4, x.now.cell? ⟨g2, 0, none⟩ = some (.int .i64 A1) := fun x => x.cell (by simpa using (HS.out.blk 1 rfl).cell 0)
    have d1 : ∀ x : Ext w4, x.now.cell? ⟨g2, 1, none⟩ = some (.int .i64 b) := fun x => x.cell (by simpa using (HS.out.blk 1 rfl).cell 1)
    have e0 : ∀ x : Ext w4, x.now.cell? ⟨g3, 0, none⟩ = some (.int .i64 a) := fun x => x.cell (by simpa using (HS.out.blk 2 rfl).cell 0)
    have e1 : ∀ x : Ext w4, x.now.cell? ⟨g3, 1, none⟩ = some (.int .i64 B1) := fun x => x.cell (by simpa using (HS.out.blk 2 rfl).cell 1)
    by_cases hlt : b < a
    · as_aux_lemma =>
      have hk2 : headOk a B1 := ⟨a0, by omega, by omega, by omega⟩
      have HK2 := Lib.hid hk2
      clear hk2 hB1
      go_wp2_with fail
      refine wp_region_ext (by kernel_rfl) (by kernel_rfl) ?_
      repeat (go_big_quiet_step ((first | (go_at_call 17; with_reducible exact Calls.ext (hcheck_yes A1 b _ HK1.out)) | (go_at_call 17; with_reducible exact Calls.ext (hcheck_yes a B1 _ HK2.out)) | (go_at_call 18; with_reducible exact Calls.ext (hsize_eq a _ A1 _ a0 (by omega) HA1.out)) | (go_at_call 18; with_reducible exact Calls.ext (hsize_eq A1 _ A2 _ HZ1.out.1 HZ1.out.2 HA2.out)))))
      refine wpQuiet_nil ?_
      rintro _ ⟨x, rfl⟩
      replace HS := Lib.hid (HS.out.grow x.keep)
      clear c0 c1 d0 d1 e0 e1 hsum
      go_wp2
      go_ret
      exact ⟨rfl, HS.out.keep⟩
    · as_aux_lemma =>
      have hk2 : ¬ headOk a B1 := fun h => by have := h.2.2.2; omega
      have HK2 := Lib.hid hk2
      have hlt2 : decide (b < a) = false := by simpa using hlt
      clear hk2 hlt hB1
      go_wp2_with fail
      refine wp_region_ext (by kernel_rfl) (by kernel_rfl) ?_
      repeat (go_big_quiet_step ((first | (go_at_call 17; with_reducible exact Calls.ext (hcheck_yes A1 b _ HK1.out)) | (go_at_call 17; with_reducible exact Calls.ext (hcheck_no a B1 _ HK2.out)) | (go_at_call 18; with_reducible exact Calls.ext (hsize_eq a _ A1 _ a0 (by omega) HA1.out)) | (go_at_call 18; with_reducible exact Calls.ext (hsize_eq A1 _ A2 _ HZ1.out.1 HZ1.out.2 HA2.out)))))
      refine wpQuiet_nil ?_
      rintro _ ⟨x, rfl⟩
      replace HS := Lib.hid (HS.out.grow x.keep)
      clear c0 c1 d0 d1 e0 e1 hsum
      go_wp2
      go_ret
      exact ⟨rfl, HS.out.keep⟩
  · as_aux_lemma =>
    have hs2 := ((HS.out.new 24 #[.int .i64 a, .int .i64 (b + 1)]).new 24 #[.int .i64 (a + 1), .int .i64 b]).drew
    simp only [World.size_alloc] at hs2
    replace HS := Lib.hid hs2
    clear hs2 c0 c1 hg
    generalize ((w2.alloc _).alloc _).drew = w4 at *
    generalize w2.heap.size = g2 at *
    generalize g2 + 1 = g3 at *
    obtain ⟨A1, hA1⟩ : ∃ A1, a + 1 = A1 := ⟨_, rfl⟩
    obtain ⟨B1, hB1⟩ : ∃ B1, b + 1 = B1 := ⟨_, rfl⟩
    obtain ⟨A2, hA2⟩ : ∃ A2, A1 + 1 = A2 := ⟨_, rfl⟩
    rw [hA1, hB1] at HS
    rw [hA1, hB1]
    have hsum : IntKind.i64.wrap (A1 + 1) = A2 := by rw [IntWalk.i64_in _ (by omega)]; exact hA2
    rw [hA1] at HK1
    have HA1 := Lib.hid hA1
    have HA2 := Lib.hid hA2
    have hz1 : 0 ≤ A1 ∧ A1 ≤ 1000 := by omega
    have HZ1 := Lib.hid hz1
    clear hA1 hA2 hz1
    have c0 : ∀ x : Ext w4, x.now.cell? ⟨g, 0, none⟩ = some (.int .i64 a) := fun x => x.cell (by simpa using (HS.out.blk 0 rfl).cell 0)
    have c1 : ∀ x : Ext w4, x.now.cell? ⟨g, 1, none⟩ = some (.int .i64 b) := fun x => x.cell (by simpa using (HS.out.blk 0 rfl).cell 1)
    have d0 : ∀ x : Ext w4, x.now.cell? ⟨g3, 0, none⟩ = some (.int .i64 A1) := fun x => x.cell (by simpa using (HS.out.blk 2 rfl).cell 0)
    have d1 : ∀ x : Ext w4, x.now.cell? ⟨g3, 1, none⟩ = some (.int .i64 b) := fun x => x.cell (by simpa using (HS.out.blk 2 rfl).cell 1)
    have e0 : ∀ x : Ext w4, x.now.cell? ⟨g2, 0, none⟩ = some (.int .i64 a) := fun x => x.cell (by simpa using (HS.out.blk 1 rfl).cell 0)
    have e1 : ∀ x : Ext w4, x.now.cell? ⟨g2, 1, none⟩ = some (.int .i64 B1) := fun x => x.cell (by simpa using (HS.out.blk 1 rfl).cell 1)
    by_cases hlt : b < a
    · as_aux_lemma =>
      have hk2 : headOk a B1 := ⟨a0, by omega, by omega, by omega⟩
      have HK2 := Lib.hid hk2
      clear hk2 hB1
      go_wp2_with fail
      refine wp_region_ext (by kernel_rfl) (by kernel_rfl) ?_
      repeat (go_big_quiet_step ((first | (go_at_call 17; with_reducible exact Calls.ext (hcheck_yes A1 b _ HK1.out)) | (go_at_call 17; with_reducible exact Calls.ext (hcheck_yes a B1 _ HK2.out)) | (go_at_call 18; with_reducible exact Calls.ext (hsize_eq a _ A1 _ a0 (by omega) HA1.out)) | (go_at_call 18; with_reducible exact Calls.ext (hsize_eq A1 _ A2 _ HZ1.out.1 HZ1.out.2 HA2.out)))))
      refine wpQuiet_nil ?_
      rintro _ ⟨x, rfl⟩
      replace HS := Lib.hid (HS.out.grow x.keep)
      clear c0 c1 d0 d1 e0 e1 hsum
      go_wp2
      go_ret
      exact ⟨rfl, HS.out.keep⟩
    · as_aux_lemma =>
      have hk2 : ¬ headOk a B1 := fun h => by have := h.2.2.2; omega
      have HK2 := Lib.hid hk2
      have hlt2 : decide (b < a) = false := by simpa using hlt
      clear hk2 hlt hB1
      go_wp2_with fail
      refine wp_region_ext (by kernel_rfl) (by kernel_rfl) ?_
      repeat (go_big_quiet_step ((first | (go_at_call 17; with_reducible exact Calls.ext (hcheck_yes A1 b _ HK1.out)) | (go_at_call 17; with_reducible exact Calls.ext (hcheck_no a B1 _ HK2.out)) | (go_at_call 18; with_reducible exact Calls.ext (hsize_eq a _ A1 _ a0 (by omega) HA1.out)) | (go_at_call 18; with_reducible exact Calls.ext (hsize_eq A1 _ A2 _ HZ1.out.1 HZ1.out.2 HA2.out)))))
      refine wpQuiet_nil ?_
      rintro _ ⟨x, rfl⟩
      replace HS := Lib.hid (HS.out.grow x.keep)
      clear c0 c1 d0 d1 e0 e1 hsum
      go_wp2
      go_ret
      exact ⟨rfl, HS.out.keep⟩

theorem HeadSizes.walk {w : World} (p : Int) (p0 : lowest .u8 ≤ p) (p1 : p ≤ greatest .u8) (q : Int) (q0 : lowest .u8 ≤ q) (q1 : q ≤ greatest .u8) :
    Calls Try.prog 7 #[.int .u8 p, .int .u8 q] w fun e w' => e = .returned (.bool true) ∧ Below w.heap.size w w' := by
  simp [lowest, greatest] at p0 p1 q0 q1
  exact (HeadSizes.core p q w p0 p1 q0 q1).mono fun e w' ⟨he, hk⟩ => ⟨he, hk.below⟩
end Go.Proofs.Ythejggahengfnaa
