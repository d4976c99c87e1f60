/-
  The walk of tumuluslaw04.HeadPacks.
-/
import Derived.Test.YthejggahengfnaaHead
import Derived.Test.YthejggahengfnaaOpen
set_option linter.unusedSimpArgs false
set_option linter.unusedVariables false
namespace Go.Proofs.Ythejggahengfnaa
open Go.RowKit Go.Shelf

set_option maxRecDepth 100000 in
set_option maxHeartbeats 2000000 in
theorem HeadPacks.core (p q : Int) (w : World) (p0 : 0 ≤ p) (p1 : p ≤ 255) (q0 : 0 ≤ q) (q1 : q ≤ 255) :
    Calls Try.prog 3 #[.int .u8 p, .int .u8 q] w fun e w' => e = .returned (.bool true) ∧ Keep w.heap.size [] w w' := by
  obtain ⟨a, ha⟩ : ∃ a, p % 65 = a := ⟨_, rfl⟩
  obtain ⟨b, hb⟩ : ∃ b, q % (a + 1) = b := ⟨_, rfl⟩
  have a0 : 0 ≤ a := by omega
  have a1 : a ≤ 64 := by omega
  have hlt := Int.emod_lt_of_pos q (show 0 < a + 1 by omega)
  have hge := Int.emod_nonneg q (show a + 1 ≠ 0 by omega)
  have b0 : 0 ≤ b := by omega
  have b1 : b ≤ 64 := by omega
  have hok : headOk a b := ⟨a0, a1, b0, by omega⟩
  have HOK := Lib.hid hok
  have HR := Lib.hid (hw_range hok.2.2.1 hok.2.2.2 hok.2.1)
  have HS := Lib.hid (Sep.start w [])
  clear hok hlt hge
  go_enter Try.func3, Try.ntmps3
  go_wp2_with fail
  refine (awake4_any _).mono ?_
  rintro e w1 ⟨rfl, hk⟩
  replace HS := Lib.hid (HS.out.grow hk)
  clear hk
  go_wp2_with fail
  replace HS := Lib.hid (HS.out.new 24 #[.int .i64 a, .int .i64 b])
  generalize w1.alloc _ = w2 at *
  generalize w1.heap.size = g at *
  refine (hpack_any a b _ HOK.out).mono ?_
  rintro e w1 ⟨rfl, hk⟩
  replace HS := Lib.hid (HS.out.grow hk)
  clear hk
  go_wp2_with fail
  refine (unpack_any (hw a b) _ (by have := HR.out; omega) HR.out.2).mono ?_
  rw [headOf_hw HOK.out]
  rintro e w3 ⟨rfl, hk⟩
  replace HS := Lib.hid ((HS.out.grow hk).new 24 #[.int .i64 a, .int .i64 b])
  clear hk
  have c0 := (HS.out.blk 0 rfl).cell 0
  simp at c0
  have c1 := (HS.out.blk 0 rfl).cell 1
  simp at c1
  go_wp2_with fail
  rw [show (2969567232 + b) * 4294967296 + a = hw a b by unfold hw; omega]
  clear c0 c1
  generalize w3.alloc _ = w4 at *
  generalize w3.heap.size = g2 at *
  have c0 : ∀ x : Ext w4, x.now.cell? ⟨g, 0, none⟩ = some (.int .i64 a) := fun x => x.cell (by simpa using (HS.out.blk 0 rfl).cell 0)
  have c1 : ∀ x : Ext w4, x.now.cell? ⟨g, 1, none⟩ = some (.int .i64 b) := fun x => x.cell (by simpa using (HS.out.blk 0 rfl).cell 1)
  have d0 : ∀ x : Ext w4, x.now.cell? ⟨g2, 0, none⟩ = some (.int .i64 a) := fun x => x.cell (by simpa using (HS.out.blk 1 rfl).cell 0)
  have d1 : ∀ x : Ext w4, x.now.cell? ⟨g2, 1, none⟩ = some (.int .i64 b) := fun x => x.cell (by simpa using (HS.out.blk 1 rfl).cell 1)
  have hsum : IntKind.i64.wrap (a + 1) = a + 1 := IntWalk.i64_in _ (by omega)
  refine wp_region_ext (by kernel_rfl) (by kernel_rfl) ?_
  repeat (go_big_quiet_step ((first | (go_at_call 17; with_reducible exact Calls.ext (hcheck_yes a b _ HOK.out)) | (go_at_call 18; with_reducible exact Calls.ext (hsize_any a b _ a0 (by omega))) | (go_at_call 16; with_reducible exact Calls.ext (hpack_any a b _ HOK.out)))))
  refine wpQuiet_nil ?_
  rintro _ ⟨x, rfl⟩
  replace HS := Lib.hid (HS.out.grow x.keep)
  clear c0 c1 d0 d1 hsum
  go_wp2
  go_ret
  exact ⟨rfl, HS.out.keep⟩

theorem HeadPacks.walk {w : World} (p : Int) (p0 : lowest .u8 ≤ p) (p1 : p ≤ greatest .u8) (q : Int) (q0 : lowest .u8 ≤ q) (q1 : q ≤ greatest .u8) :
    Calls Try.prog 3 #[.int .u8 p, .int .u8 q] w fun e w' => e = .returned (.bool true) ∧ Below w.heap.size w w' := by
  simp [lowest, greatest] at p0 p1 q0 q1
  exact (HeadPacks.core p q w p0 p1 q0 q1).mono fun e w' ⟨he, hk⟩ => ⟨he, hk.below⟩
end Go.Proofs.Ythejggahengfnaa
