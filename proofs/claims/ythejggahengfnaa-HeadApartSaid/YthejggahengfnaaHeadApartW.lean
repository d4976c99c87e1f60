/-
  The walk of tumuluslaw04.HeadApart.
-/
import Derived.Test.YthejggahengfnaaCmpHead
import Derived.Test.YthejggahengfnaaOpen
import Derived.BigRegion
set_option linter.unusedSimpArgs false
set_option linter.unusedVariables false
namespace Go.Proofs.Ythejggahengfnaa
open Go.RowKit Go.Shelf

set_option maxRecDepth 100000 in
set_option maxHeartbeats 2000000 in
theorem HeadApart.core (p q p' q' t : Int) (same : Bool) (w : World) (p0 : 0 ≤ p) (p1 : p ≤ 255) (q0 : 0 ≤ q) (q1 : q ≤ 255) (r0 : 0 ≤ p') (r1 : p' ≤ 255) (s0 : 0 ≤ q') (s1 : q' ≤ 255) (t0 : 0 ≤ t) (t1 : t ≤ 255) :
    Calls Try.prog 6 #[.agg #[.int .u8 p, .int .u8 q], .agg #[.int .u8 p', .int .u8 q'], .int .u8 t, .bool same] w fun e w' => e = .returned (.bool true) ∧ Keep w.heap.size [] w w' := by
  obtain ⟨a, ha⟩ : ∃ a, p % 65 = a := ⟨_, rfl⟩
  obtain ⟨b, hb⟩ : ∃ b, q % (a + 1) = b := ⟨_, rfl⟩
  have a0 : 0 ≤ a := by omega
  have a1 : a ≤ 64 := by omega
  have hlt := Int.emod_lt_of_pos q (show 0 < a + 1 by omega)
  have hge := Int.emod_nonneg q (show a + 1 ≠ 0 by omega)
  have b0 : 0 ≤ b := by omega
  have b1 : b ≤ a := by omega
  have HS := Lib.hid (Sep.start w [])
  clear hlt hge
  cases same
  · as_aux_lemma =>
    go_enter Try.func6, Try.ntmps6
    go_wp2_with fail
    have hs2 := (HS.out.new 36 #[.int .u8 p, .int .u8 q]).new 36 #[.int .u8 p', .int .u8 q']
    simp only [World.size_alloc] at hs2
    replace HS := Lib.hid hs2
    clear hs2
    generalize (w.alloc _).alloc _ = w0 at *
    refine (awake4_any _).mono ?_
    rintro e w1 ⟨rfl, hk⟩
    replace HS := Lib.hid (HS.out.grow hk)
    clear hk
    obtain ⟨c, hc⟩ : ∃ c, p' % 65 = c := ⟨_, rfl⟩
    obtain ⟨d, hd⟩ : ∃ d, q' % (c + 1) = d := ⟨_, rfl⟩
    have c0 : 0 ≤ c := by omega
    have c1 : c ≤ 64 := by omega
    have hlt := Int.emod_lt_of_pos q' (show 0 < c + 1 by omega)
    have hge := Int.emod_nonneg q' (show c + 1 ≠ 0 by omega)
    have d0 : 0 ≤ d := by omega
    have d1 : d ≤ c := by omega
    clear hlt hge
    generalize w.heap.size = g0 at *
    have k0 := (HS.out.blk 0 rfl).cell 0
    simp at k0
    have k1 := (HS.out.blk 0 rfl).cell 1
    simp at k1
    have m0 := (HS.out.blk 1 rfl).cell 0
    simp at m0
    have m1 := (HS.out.blk 1 rfl).cell 1
    simp at m1
    have l0 := (HS.out.blk 0 rfl).lt
    have l1 := (HS.out.blk 1 rfl).lt
    go_wp2_with fail
    go_big_region
    · as_aux_lemma =>
        have hs2 := ((HS.out.new 24 #[.int .i64 a, .int .i64 0]).new 24 #[.int .i64 c, .int .i64 0]).drew
        simp only [World.size_alloc] at hs2
        replace HS := Lib.hid hs2
        clear hs2 k0 k1 m0 m1 l0 l1
        generalize ((w1.alloc _).alloc _).drew = w4 at *
        generalize w1.heap.size = gx at *
        generalize gx + 1 = gy at *
        have k1 := (HS.out.blk 0 rfl).cell 1
        simp at k1
        have m1 := (HS.out.blk 1 rfl).cell 1
        simp at m1
        have x0 := (HS.out.blk 2 rfl).cell 0
        simp at x0
        have x1 := (HS.out.blk 2 rfl).cell 1
        simp at x1
        have y0 := (HS.out.blk 3 rfl).cell 0
        simp at y0
        have y1 := (HS.out.blk 3 rfl).cell 1
        simp at y1
        have n0 := HS.out.ne 1 2 rfl rfl (by decide)
        have n1 := HS.out.ne 2 1 rfl rfl (by decide)
        have n2 := HS.out.ne 1 3 rfl rfl (by decide)
        have n3 := HS.out.ne 3 1 rfl rfl (by decide)
        have n4 := HS.out.ne 2 3 rfl rfl (by decide)
        have n5 := HS.out.ne 3 2 rfl rfl (by decide)
        have n6 := HS.out.ne 0 2 rfl rfl (by decide)
        have n7 := HS.out.ne 2 0 rfl rfl (by decide)
        have n8 := HS.out.ne 0 3 rfl rfl (by decide)
        have n9 := HS.out.ne 3 0 rfl rfl (by decide)
        have fx := (HS.out.blk 2 rfl).frozen 1
        have fy := (HS.out.blk 3 rfl).frozen 1
        go_wp2_with fail
        go_big_region
        as_aux_lemma =>
          replace HS := Lib.hid (((HS.out.put (i := 2) rfl 1 (.int .i64 b)).put (i := 3) rfl 1 (.int .i64 d)).drew)
          clear k1 m1 x0 x1 y0 y1 n0 n1 n2 n3 n4 n5 n6 n7 n8 n9 fx fy
          generalize ((w4.setCell _ _).setCell _ _).drew = w5 at *
          have x0 := (HS.out.blk 2 rfl).cell 0
          simp at x0
          have x1 := (HS.out.blk 2 rfl).cell 1
          simp at x1
          go_wp2_with fail
          refine (hpack_any a b _ ⟨a0, a1, b0, b1⟩).mono ?_
          rintro e w1 ⟨rfl, hk⟩
          replace HS := Lib.hid (HS.out.grow hk)
          clear hk
          clear x0 x1
          go_wp2_with fail
          obtain ⟨i, hi⟩ : ∃ i, (t % 64).toNat = i := ⟨_, rfl⟩
          have hi2 : i < 64 := by omega
          have hwr := wrap_pow i hi2
          obtain ⟨hr0, hr1⟩ := hw_range b0 b1 a1
          have hxb := xor_bit (hw a b) i (by omega) hr1 hi2
          rw [hi, hwr]
          generalize bits .xor .u64 (hw a b) (2 ^ i) = y at *
          obtain ⟨hy, yy0, yy1⟩ := hxb
          have hz := headOf_ne yy0 yy1 hy
          have hun := fun w => unpack_any y w yy0 yy1
          generalize (headOf y).1 = z1 at *
          generalize (headOf y).2.1 = z2 at *
          generalize (headOf y).2.2 = ok at *
          have hN : (hw a b != 0) = true := by simp; omega
          obtain ⟨E, hE⟩ : ∃ E, (hw a b == hw c d) = E := ⟨_, rfl⟩
          have he2 : E = (a == c && b == d) := by rw [← hE]; exact hw_beq b0 b1 a1 d0 d1 c1
          have HE2 := Lib.hid he2
          have HE := Lib.hid hE
          have HN := Lib.hid hN
          have hok1 : headOk a b := ⟨a0, a1, b0, b1⟩
          have hok2 : headOk c d := ⟨c0, c1, d0, d1⟩
          have HOK1 := Lib.hid hok1
          have HOK2 := Lib.hid hok2
          have HHZ := Lib.hid hz
          clear hz hi hwr hy hE hN he2 hok1 hok2
          refine (hun _).mono ?_
          rintro e w3 ⟨rfl, hk⟩
          replace HS := Lib.hid ((HS.out.grow hk).new 24 #[.int .i64 z1, .int .i64 z2])
          clear hk hun
          go_wp2_with fail
          generalize w3.alloc _ = w6 at *
          generalize w3.heap.size = gz at *
          have ex0 : ∀ x : Ext w6, x.now.cell? ⟨gx, 0, none⟩ = some (.int .i64 a) := fun x => x.cell (by simpa using (HS.out.blk 2 rfl).cell 0)
          have ex1 : ∀ x : Ext w6, x.now.cell? ⟨gx, 1, none⟩ = some (.int .i64 b) := fun x => x.cell (by simpa using (HS.out.blk 2 rfl).cell 1)
          have ey0 : ∀ x : Ext w6, x.now.cell? ⟨gy, 0, none⟩ = some (.int .i64 c) := fun x => x.cell (by simpa using (HS.out.blk 3 rfl).cell 0)
          have ey1 : ∀ x : Ext w6, x.now.cell? ⟨gy, 1, none⟩ = some (.int .i64 d) := fun x => x.cell (by simpa using (HS.out.blk 3 rfl).cell 1)
          have ez0 : ∀ x : Ext w6, x.now.cell? ⟨gz, 0, none⟩ = some (.int .i64 z1) := fun x => x.cell (by simpa using (HS.out.blk 4 rfl).cell 0)
          have ez1 : ∀ x : Ext w6, x.now.cell? ⟨gz, 1, none⟩ = some (.int .i64 z2) := fun x => x.cell (by simpa using (HS.out.blk 4 rfl).cell 1)
          have hE := HE.out
          have hN := HN.out
          clear ha hb hc hd
          cases ok
          · as_aux_lemma =>
              refine wp_region_ext (by kernel_rfl) (by kernel_rfl) ?_
              repeat (first | go_big_quiet_step ((first | (go_at_call 16; with_reducible exact Calls.ext (hpack_any a b _ HOK1.out)) | (go_at_call 16; with_reducible exact Calls.ext (hpack_any c d _ HOK2.out)))) | (go_big_quiet_want; go_big_quiet_op; refine ⟨.bool E, fun _ => ?_, ?_⟩; (focus (by_cases e1 : a = c <;> by_cases e2 : b = d <;> simp [e1, e2, HE2.out])); go_big_quiet_on))
              refine wpQuiet_nil ?_
              rintro _ ⟨x, rfl⟩
              replace HS := Lib.hid (HS.out.grow x.keep)
              clear hE hN
              go_wp2
              go_ret
              exact ⟨rfl, HS.out.keep⟩
          · as_aux_lemma =>
              refine wp_region_ext (by kernel_rfl) (by kernel_rfl) ?_
              repeat (first | go_big_quiet_step ((first | (go_at_call 16; with_reducible exact Calls.ext (hpack_any a b _ HOK1.out)) | (go_at_call 16; with_reducible exact Calls.ext (hpack_any c d _ HOK2.out)))) | (go_big_quiet_want; go_big_quiet_op; refine ⟨.bool E, fun _ => ?_, ?_⟩; (focus (by_cases e1 : a = c <;> by_cases e2 : b = d <;> simp [e1, e2, HE2.out])); go_big_quiet_on) | (go_big_quiet_want; go_big_quiet_op; refine ⟨.bool true, fun _ => ?_, ?_⟩; (focus (by_cases e1 : z1 = a <;> by_cases e2 : z2 = b <;> simp [e1, e2] <;> exact HHZ.out rfl ⟨e1, e2⟩)); go_big_quiet_on))
              refine wpQuiet_nil ?_
              rintro _ ⟨x, rfl⟩
              replace HS := Lib.hid (HS.out.grow x.keep)
              clear hE hN
              go_wp2
              go_ret
              exact ⟨rfl, HS.out.keep⟩
    · as_aux_lemma =>
        have hs2 := ((HS.out.new 24 #[.int .i64 c, .int .i64 0]).new 24 #[.int .i64 a, .int .i64 0]).drew
        simp only [World.size_alloc] at hs2
        replace HS := Lib.hid hs2
        clear hs2 k0 k1 m0 m1 l0 l1
        generalize ((w1.alloc _).alloc _).drew = w4 at *
        generalize w1.heap.size = gy at *
        generalize gy + 1 = gx at *
        have k1 := (HS.out.blk 0 rfl).cell 1
        simp at k1
        have m1 := (HS.out.blk 1 rfl).cell 1
        simp at m1
        have x0 := (HS.out.blk 3 rfl).cell 0
        simp at x0
        have x1 := (HS.out.blk 3 rfl).cell 1
        simp at x1
        have y0 := (HS.out.blk 2 rfl).cell 0
        simp at y0
        have y1 := (HS.out.blk 2 rfl).cell 1
        simp at y1
        have n0 := HS.out.ne 1 3 rfl rfl (by decide)
        have n1 := HS.out.ne 3 1 rfl rfl (by decide)
        have n2 := HS.out.ne 1 2 rfl rfl (by decide)
        have n3 := HS.out.ne 2 1 rfl rfl (by decide)
        have n4 := HS.out.ne 3 2 rfl rfl (by decide)
        have n5 := HS.out.ne 2 3 rfl rfl (by decide)
        have n6 := HS.out.ne 0 3 rfl rfl (by decide)
        have n7 := HS.out.ne 3 0 rfl rfl (by decide)
        have n8 := HS.out.ne 0 2 rfl rfl (by decide)
        have n9 := HS.out.ne 2 0 rfl rfl (by decide)
        have fx := (HS.out.blk 3 rfl).frozen 1
        have fy := (HS.out.blk 2 rfl).frozen 1
        go_wp2_with fail
        go_big_region
        as_aux_lemma =>
          replace HS := Lib.hid (((HS.out.put (i := 3) rfl 1 (.int .i64 b)).put (i := 2) rfl 1 (.int .i64 d)).drew)
          clear k1 m1 x0 x1 y0 y1 n0 n1 n2 n3 n4 n5 n6 n7 n8 n9 fx fy
          generalize ((w4.setCell _ _).setCell _ _).drew = w5 at *
          have x0 := (HS.out.blk 3 rfl).cell 0
          simp at x0
          have x1 := (HS.out.blk 3 rfl).cell 1
          simp at x1
          go_wp2_with fail
          refine (hpack_any a b _ ⟨a0, a1, b0, b1⟩).mono ?_
          rintro e w1 ⟨rfl, hk⟩
          replace HS := Lib.hid (HS.out.grow hk)
          clear hk
          clear x0 x1
          go_wp2_with fail
          obtain ⟨i, hi⟩ : ∃ i, (t % 64).toNat = i := ⟨_, rfl⟩
          have hi2 : i < 64 := by omega
          have hwr := wrap_pow i hi2
          obtain ⟨hr0, hr1⟩ := hw_range b0 b1 a1
          have hxb := xor_bit (hw a b) i (by omega) hr1 hi2
          rw [hi, hwr]
          generalize bits .xor .u64 (hw a b) (2 ^ i) = y at *
          obtain ⟨hy, yy0, yy1⟩ := hxb
          have hz := headOf_ne yy0 yy1 hy
          have hun := fun w => unpack_any y w yy0 yy1
          generalize (headOf y).1 = z1 at *
          generalize (headOf y).2.1 = z2 at *
          generalize (headOf y).2.2 = ok at *
          have hN : (hw a b != 0) = true := by simp; omega
          obtain ⟨E, hE⟩ : ∃ E, (hw a b == hw c d) = E := ⟨_, rfl⟩
          have he2 : E = (a == c && b == d) := by rw [← hE]; exact hw_beq b0 b1 a1 d0 d1 c1
          have HE2 := Lib.hid he2
          have HE := Lib.hid hE
          have HN := Lib.hid hN
          have hok1 : headOk a b := ⟨a0, a1, b0, b1⟩
          have hok2 : headOk c d := ⟨c0, c1, d0, d1⟩
          have HOK1 := Lib.hid hok1
          have HOK2 := Lib.hid hok2
          have HHZ := Lib.hid hz
          clear hz hi hwr hy hE hN he2 hok1 hok2
          refine (hun _).mono ?_
          rintro e w3 ⟨rfl, hk⟩
          replace HS := Lib.hid ((HS.out.grow hk).new 24 #[.int .i64 z1, .int .i64 z2])
          clear hk hun
          go_wp2_with fail
          generalize w3.alloc _ = w6 at *
          generalize w3.heap.size = gz at *
          have ex0 : ∀ x : Ext w6, x.now.cell? ⟨gx, 0, none⟩ = some (.int .i64 a) := fun x => x.cell (by simpa using (HS.out.blk 3 rfl).cell 0)
          have ex1 : ∀ x : Ext w6, x.now.cell? ⟨gx, 1, none⟩ = some (.int .i64 b) := fun x => x.cell (by simpa using (HS.out.blk 3 rfl).cell 1)
          have ey0 : ∀ x : Ext w6, x.now.cell? ⟨gy, 0, none⟩ = some (.int .i64 c) := fun x => x.cell (by simpa using (HS.out.blk 2 rfl).cell 0)
          have ey1 : ∀ x : Ext w6, x.now.cell? ⟨gy, 1, none⟩ = some (.int .i64 d) := fun x => x.cell (by simpa using (HS.out.blk 2 rfl).cell 1)
          have ez0 : ∀ x : Ext w6, x.now.cell? ⟨gz, 0, none⟩ = some (.int .i64 z1) := fun x => x.cell (by simpa using (HS.out.blk 4 rfl).cell 0)
          have ez1 : ∀ x : Ext w6, x.now.cell? ⟨gz, 1, none⟩ = some (.int .i64 z2) := fun x => x.cell (by simpa using (HS.out.blk 4 rfl).cell 1)
          have hE := HE.out
          have hN := HN.out
          clear ha hb hc hd
          cases ok
          · as_aux_lemma =>
              refine wp_region_ext (by kernel_rfl) (by kernel_rfl) ?_
              repeat (first | go_big_quiet_step ((first | (go_at_call 16; with_reducible exact Calls.ext (hpack_any a b _ HOK1.out)) | (go_at_call 16; with_reducible exact Calls.ext (hpack_any c d _ HOK2.out)))) | (go_big_quiet_want; go_big_quiet_op; refine ⟨.bool E, fun _ => ?_, ?_⟩; (focus (by_cases e1 : a = c <;> by_cases e2 : b = d <;> simp [e1, e2, HE2.out])); go_big_quiet_on))
              refine wpQuiet_nil ?_
              rintro _ ⟨x, rfl⟩
              replace HS := Lib.hid (HS.out.grow x.keep)
              clear hE hN
              go_wp2
              go_ret
              exact ⟨rfl, HS.out.keep⟩
          · as_aux_lemma =>
              refine wp_region_ext (by kernel_rfl) (by kernel_rfl) ?_
              repeat (first | go_big_quiet_step ((first | (go_at_call 16; with_reducible exact Calls.ext (hpack_any a b _ HOK1.out)) | (go_at_call 16; with_reducible exact Calls.ext (hpack_any c d _ HOK2.out)))) | (go_big_quiet_want; go_big_quiet_op; refine ⟨.bool E, fun _ => ?_, ?_⟩; (focus (by_cases e1 : a = c <;> by_cases e2 : b = d <;> simp [e1, e2, HE2.out])); go_big_quiet_on) | (go_big_quiet_want; go_big_quiet_op; refine ⟨.bool true, fun _ => ?_, ?_⟩; (focus (by_cases e1 : z1 = a <;> by_cases e2 : z2 = b <;> simp [e1, e2] <;> exact HHZ.out rfl ⟨e1, e2⟩)); go_big_quiet_on))
              refine wpQuiet_nil ?_
              rintro _ ⟨x, rfl⟩
              replace HS := Lib.hid (HS.out.grow x.keep)
              clear hE hN
              go_wp2
              go_ret
              exact ⟨rfl, HS.out.keep⟩
  · as_aux_lemma =>
    go_enter Try.func6, Try.ntmps6
    go_wp2_with fail
    have hs2 := (HS.out.new 36 #[.int .u8 p, .int .u8 q]).new 36 #[.int .u8 p', .int .u8 q']
    simp only [World.size_alloc] at hs2
    replace HS := Lib.hid hs2
    clear hs2
    generalize (w.alloc _).alloc _ = w0 at *
    refine (awake4_any _).mono ?_
    rintro e w1 ⟨rfl, hk⟩
    replace HS := Lib.hid (HS.out.grow hk)
    clear hk
    have k0 := (HS.out.blk 0 rfl).cell 0
    simp at k0
    have k1 := (HS.out.blk 0 rfl).cell 1
    simp at k1
    have m0 := (HS.out.blk 1 rfl).cell 0
    simp at m0
    have m1 := (HS.out.blk 1 rfl).cell 1
    simp at m1
    have f0 := (HS.out.blk 1 rfl).frozen 0
    have f1 := (HS.out.blk 1 rfl).frozen 1
    go_wp2_with fail
    replace HS := Lib.hid ((HS.out.put (i := 1) rfl 0 (.int .u8 p)).put (i := 1) rfl 1 (.int .u8 q))
    clear k0 k1 m0 m1 f0 f1
    obtain ⟨wz, hwz⟩ : ∃ wz, (w1.setCell ⟨w.heap.size + 1, 0, none⟩ (.int .u8 p)).setCell ⟨w.heap.size + 1, 1, none⟩ (.int .u8 q) = wz := ⟨_, rfl⟩
    rw [hwz] at HS ⊢
    clear hwz
    obtain ⟨w1, rfl⟩ : ∃ w1, w1 = wz := ⟨_, rfl⟩
    generalize w.heap.size = g0 at *
    have k0 := (HS.out.blk 0 rfl).cell 0
    simp at k0
    have k1 := (HS.out.blk 0 rfl).cell 1
    simp at k1
    have m0 := (HS.out.blk 1 rfl).cell 0
    simp at m0
    have m1 := (HS.out.blk 1 rfl).cell 1
    simp at m1
    have l0 := (HS.out.blk 0 rfl).lt
    have l1 := (HS.out.blk 1 rfl).lt
    go_wp2_with fail
    go_big_region
    · as_aux_lemma =>
        have hs2 := ((HS.out.new 24 #[.int .i64 a, .int .i64 0]).new 24 #[.int .i64 a, .int .i64 0]).drew
        simp only [World.size_alloc] at hs2
        replace HS := Lib.hid hs2
        clear hs2 k0 k1 m0 m1 l0 l1
        generalize ((w1.alloc _).alloc _).drew = w4 at *
        generalize w1.heap.size = gx at *
        generalize gx + 1 = gy at *
        have k1 := (HS.out.blk 0 rfl).cell 1
        simp at k1
        have m1 := (HS.out.blk 1 rfl).cell 1
        simp at m1
        have x0 := (HS.out.blk 2 rfl).cell 0
        simp at x0
        have x1 := (HS.out.blk 2 rfl).cell 1
        simp at x1
        have y0 := (HS.out.blk 3 rfl).cell 0
        simp at y0
        have y1 := (HS.out.blk 3 rfl).cell 1
        simp at y1
        have n0 := HS.out.ne 1 2 rfl rfl (by decide)
        have n1 := HS.out.ne 2 1 rfl rfl (by decide)
        have n2 := HS.out.ne 1 3 rfl rfl (by decide)
        have n3 := HS.out.ne 3 1 rfl rfl (by decide)
        have n4 := HS.out.ne 2 3 rfl rfl (by decide)
        have n5 := HS.out.ne 3 2 rfl rfl (by decide)
        have n6 := HS.out.ne 0 2 rfl rfl (by decide)
        have n7 := HS.out.ne 2 0 rfl rfl (by decide)
        have n8 := HS.out.ne 0 3 rfl rfl (by decide)
        have n9 := HS.out.ne 3 0 rfl rfl (by decide)
        have fx := (HS.out.blk 2 rfl).frozen 1
        have fy := (HS.out.blk 3 rfl).frozen 1
        go_wp2_with fail
        go_big_region
        as_aux_lemma =>
          replace HS := Lib.hid (((HS.out.put (i := 2) rfl 1 (.int .i64 b)).put (i := 3) rfl 1 (.int .i64 b)).drew)
          clear k1 m1 x0 x1 y0 y1 n0 n1 n2 n3 n4 n5 n6 n7 n8 n9 fx fy
          generalize ((w4.setCell _ _).setCell _ _).drew = w5 at *
          have x0 := (HS.out.blk 2 rfl).cell 0
          simp at x0
          have x1 := (HS.out.blk 2 rfl).cell 1
          simp at x1
          go_wp2_with fail
          refine (hpack_any a b _ ⟨a0, a1, b0, b1⟩).mono ?_
          rintro e w1 ⟨rfl, hk⟩
          replace HS := Lib.hid (HS.out.grow hk)
          clear hk
          clear x0 x1
          go_wp2_with fail
          obtain ⟨i, hi⟩ : ∃ i, (t % 64).toNat = i := ⟨_, rfl⟩
          have hi2 : i < 64 := by omega
          have hwr := wrap_pow i hi2
          obtain ⟨hr0, hr1⟩ := hw_range b0 b1 a1
          have hxb := xor_bit (hw a b) i (by omega) hr1 hi2
          rw [hi, hwr]
          generalize bits .xor .u64 (hw a b) (2 ^ i) = y at *
          obtain ⟨hy, yy0, yy1⟩ := hxb
          have hz := headOf_ne yy0 yy1 hy
          have hun := fun w => unpack_any y w yy0 yy1
          generalize (headOf y).1 = z1 at *
          generalize (headOf y).2.1 = z2 at *
          generalize (headOf y).2.2 = ok at *
          have hN : (hw a b != 0) = true := by simp; omega
          obtain ⟨E, hE⟩ : ∃ E, (hw a b == hw a b) = E := ⟨_, rfl⟩
          have he2 : E = (a == a && b == b) := by rw [← hE]; exact hw_beq b0 b1 a1 b0 b1 a1
          have HE2 := Lib.hid he2
          have HE := Lib.hid hE
          have HN := Lib.hid hN
          have hok1 : headOk a b := ⟨a0, a1, b0, b1⟩
          have hok2 : headOk a b := ⟨a0, a1, b0, b1⟩
          have HOK1 := Lib.hid hok1
          have HOK2 := Lib.hid hok2
          have HHZ := Lib.hid hz
          clear hz hi hwr hy hE hN he2 hok1 hok2
          refine (hun _).mono ?_
          rintro e w3 ⟨rfl, hk⟩
          replace HS := Lib.hid ((HS.out.grow hk).new 24 #[.int .i64 z1, .int .i64 z2])
          clear hk hun
          go_wp2_with fail
          generalize w3.alloc _ = w6 at *
          generalize w3.heap.size = gz at *
          have ex0 : ∀ x : Ext w6, x.now.cell? ⟨gx, 0, none⟩ = some (.int .i64 a) := fun x => x.cell (by simpa using (HS.out.blk 2 rfl).cell 0)
          have ex1 : ∀ x : Ext w6, x.now.cell? ⟨gx, 1, none⟩ = some (.int .i64 b) := fun x => x.cell (by simpa using (HS.out.blk 2 rfl).cell 1)
          have ey0 : ∀ x : Ext w6, x.now.cell? ⟨gy, 0, none⟩ = some (.int .i64 a) := fun x => x.cell (by simpa using (HS.out.blk 3 rfl).cell 0)
          have ey1 : ∀ x : Ext w6, x.now.cell? ⟨gy, 1, none⟩ = some (.int .i64 b) := fun x => x.cell (by simpa using (HS.out.blk 3 rfl).cell 1)
          have ez0 : ∀ x : Ext w6, x.now.cell? ⟨gz, 0, none⟩ = some (.int .i64 z1) := fun x => x.cell (by simpa using (HS.out.blk 4 rfl).cell 0)
          have ez1 : ∀ x : Ext w6, x.now.cell? ⟨gz, 1, none⟩ = some (.int .i64 z2) := fun x => x.cell (by simpa using (HS.out.blk 4 rfl).cell 1)
          have hE := HE.out
          have hN := HN.out
          clear ha hb
          cases ok
          · as_aux_lemma =>
              refine wp_region_ext (by kernel_rfl) (by kernel_rfl) ?_
              repeat (first | go_big_quiet_step ((first | (go_at_call 16; with_reducible exact Calls.ext (hpack_any a b _ HOK1.out)) | (go_at_call 16; with_reducible exact Calls.ext (hpack_any a b _ HOK2.out)))) | (go_big_quiet_want; go_big_quiet_op; refine ⟨.bool E, fun _ => ?_, ?_⟩; (focus (simp [HE2.out])); go_big_quiet_on))
              refine wpQuiet_nil ?_
              rintro _ ⟨x, rfl⟩
              replace HS := Lib.hid (HS.out.grow x.keep)
              clear hE hN
              go_wp2
              go_ret
              exact ⟨rfl, HS.out.keep⟩
          · as_aux_lemma =>
              refine wp_region_ext (by kernel_rfl) (by kernel_rfl) ?_
              repeat (first | go_big_quiet_step ((first | (go_at_call 16; with_reducible exact Calls.ext (hpack_any a b _ HOK1.out)) | (go_at_call 16; with_reducible exact Calls.ext (hpack_any a b _ HOK2.out)))) | (go_big_quiet_want; go_big_quiet_op; refine ⟨.bool E, fun _ => ?_, ?_⟩; (focus (simp [HE2.out])); go_big_quiet_on) | (go_big_quiet_want; go_big_quiet_op; refine ⟨.bool true, fun _ => ?_, ?_⟩; (focus (by_cases e1 : z1 = a <;> by_cases e2 : z2 = b <;> simp [e1, e2] <;> exact HHZ.out rfl ⟨e1, e2⟩)); go_big_quiet_on))
              refine wpQuiet_nil ?_
              rintro _ ⟨x, rfl⟩
              replace HS := Lib.hid (HS.out.grow x.keep)
              clear hE hN
              go_wp2
              go_ret
              exact ⟨rfl, HS.out.keep⟩
    · as_aux_lemma =>
        have hs2 := ((HS.out.new 24 #[.int .i64 a, .int .i64 0]).new 24 #[.int .i64 a, .int .i64 0]).drew
        simp only [World.size_alloc] at hs2
        replace HS := Lib.hid hs2
        clear hs2 k0 k1 m0 m1 l0 l1
        generalize ((w1.alloc _).alloc _).drew = w4 at *
        generalize w1.heap.size = gy at *
        generalize gy + 1 = gx at *
        have k1 := (HS.out.blk 0 rfl).cell 1
        simp at k1
        have m1 := (HS.out.blk 1 rfl).cell 1
        simp at m1
        have x0 := (HS.out.blk 3 rfl).cell 0
        simp at x0
        have x1 := (HS.out.blk 3 rfl).cell 1
        simp at x1
        have y0 := (HS.out.blk 2 rfl).cell 0
        simp at y0
        have y1 := (HS.out.blk 2 rfl).cell 1
        simp at y1
        have n0 := HS.out.ne 1 3 rfl rfl (by decide)
        have n1 := HS.out.ne 3 1 rfl rfl (by decide)
        have n2 := HS.out.ne 1 2 rfl rfl (by decide)
        have n3 := HS.out.ne 2 1 rfl rfl (by decide)
        have n4 := HS.out.ne 3 2 rfl rfl (by decide)
        have n5 := HS.out.ne 2 3 rfl rfl (by decide)
        have n6 := HS.out.ne 0 3 rfl rfl (by decide)
        have n7 := HS.out.ne 3 0 rfl rfl (by decide)
        have n8 := HS.out.ne 0 2 rfl rfl (by decide)
        have n9 := HS.out.ne 2 0 rfl rfl (by decide)
        have fx := (HS.out.blk 3 rfl).frozen 1
        have fy := (HS.out.blk 2 rfl).frozen 1
        go_wp2_with fail
        go_big_region
        as_aux_lemma =>
          replace HS := Lib.hid (((HS.out.put (i := 3) rfl 1 (.int .i64 b)).put (i := 2) rfl 1 (.int .i64 b)).drew)
          clear k1 m1 x0 x1 y0 y1 n0 n1 n2 n3 n4 n5 n6 n7 n8 n9 fx fy
          generalize ((w4.setCell _ _).setCell _ _).drew = w5 at *
          have x0 := (HS.out.blk 3 rfl).cell 0
          simp at x0
          have x1 := (HS.out.blk 3 rfl).cell 1
          simp at x1
          go_wp2_with fail
          refine (hpack_any a b _ ⟨a0, a1, b0, b1⟩).mono ?_
          rintro e w1 ⟨rfl, hk⟩
          replace HS := Lib.hid (HS.out.grow hk)
          clear hk
          clear x0 x1
          go_wp2_with fail
          obtain ⟨i, hi⟩ : ∃ i, (t % 64).toNat = i := ⟨_, rfl⟩
          have hi2 : i < 64 := by omega
          have hwr := wrap_pow i hi2
          obtain ⟨hr0, hr1⟩ := hw_range b0 b1 a1
          have hxb := xor_bit (hw a b) i (by omega) hr1 hi2
          rw [hi, hwr]
          generalize bits .xor .u64 (hw a b) (2 ^ i) = y at *
          obtain ⟨hy, yy0, yy1⟩ := hxb
          have hz := headOf_ne yy0 yy1 hy
          have hun := fun w => unpack_any y w yy0 yy1
          generalize (headOf y).1 = z1 at *
          generalize (headOf y).2.1 = z2 at *
          generalize (headOf y).2.2 = ok at *
          have hN : (hw a b != 0) = true := by simp; omega
          obtain ⟨E, hE⟩ : ∃ E, (hw a b == hw a b) = E := ⟨_, rfl⟩
          have he2 : E = (a == a && b == b) := by rw [← hE]; exact hw_beq b0 b1 a1 b0 b1 a1
          have HE2 := Lib.hid he2
          have HE := Lib.hid hE
          have HN := Lib.hid hN
          have hok1 : headOk a b := ⟨a0, a1, b0, b1⟩
          have hok2 : headOk a b := ⟨a0, a1, b0, b1⟩
          have HOK1 := Lib.hid hok1
          have HOK2 := Lib.hid hok2
          have HHZ := Lib.hid hz
          clear hz hi hwr hy hE hN he2 hok1 hok2
          refine (hun _).mono ?_
          rintro e w3 ⟨rfl, hk⟩
          replace HS := Lib.hid ((HS.out.grow hk).new 24 #[.int .i64 z1, .int .i64 z2])
          clear hk hun
          go_wp2_with fail
          generalize w3.alloc _ = w6 at *
          generalize w3.heap.size = gz at *
          have ex0 : ∀ x : Ext w6, x.now.cell? ⟨gx, 0, none⟩ = some (.int .i64 a) := fun x => x.cell (by simpa using (HS.out.blk 3 rfl).cell 0)
          have ex1 : ∀ x : Ext w6, x.now.cell? ⟨gx, 1, none⟩ = some (.int .i64 b) := fun x => x.cell (by simpa using (HS.out.blk 3 rfl).cell 1)
          have ey0 : ∀ x : Ext w6, x.now.cell? ⟨gy, 0, none⟩ = some (.int .i64 a) := fun x => x.cell (by simpa using (HS.out.blk 2 rfl).cell 0)
          have ey1 : ∀ x : Ext w6, x.now.cell? ⟨gy, 1, none⟩ = some (.int .i64 b) := fun x => x.cell (by simpa using (HS.out.blk 2 rfl).cell 1)
          have ez0 : ∀ x : Ext w6, x.now.cell? ⟨gz, 0, none⟩ = some (.int .i64 z1) := fun x => x.cell (by simpa using (HS.out.blk 4 rfl).cell 0)
          have ez1 : ∀ x : Ext w6, x.now.cell? ⟨gz, 1, none⟩ = some (.int .i64 z2) := fun x => x.cell (by simpa using (HS.out.blk 4 rfl).cell 1)
          have hE := HE.out
          have hN := HN.out
          clear ha hb
          cases ok
          · as_aux_lemma =>
              refine wp_region_ext (by kernel_rfl) (by kernel_rfl) ?_
              repeat (first | go_big_quiet_step ((first | (go_at_call 16; with_reducible exact Calls.ext (hpack_any a b _ HOK1.out)) | (go_at_call 16; with_reducible exact Calls.ext (hpack_any a b _ HOK2.out)))) | (go_big_quiet_want; go_big_quiet_op; refine ⟨.bool E, fun _ => ?_, ?_⟩; (focus (simp [HE2.out])); go_big_quiet_on))
              refine wpQuiet_nil ?_
              rintro _ ⟨x, rfl⟩
              replace HS := Lib.hid (HS.out.grow x.keep)
              clear hE hN
              go_wp2
              go_ret
              exact ⟨rfl, HS.out.keep⟩
          · as_aux_lemma =>
              refine wp_region_ext (by kernel_rfl) (by kernel_rfl) ?_
              repeat (first | go_big_quiet_step ((first | (go_at_call 16; with_reducible exact Calls.ext (hpack_any a b _ HOK1.out)) | (go_at_call 16; with_reducible exact Calls.ext (hpack_any a b _ HOK2.out)))) | (go_big_quiet_want; go_big_quiet_op; refine ⟨.bool E, fun _ => ?_, ?_⟩; (focus (simp [HE2.out])); go_big_quiet_on) | (go_big_quiet_want; go_big_quiet_op; refine ⟨.bool true, fun _ => ?_, ?_⟩; (focus (by_cases e1 : z1 = a <;> by_cases e2 : z2 = b <;> simp [e1, e2] <;> exact HHZ.out rfl ⟨e1, e2⟩)); go_big_quiet_on))
              refine wpQuiet_nil ?_
              rintro _ ⟨x, rfl⟩
              replace HS := Lib.hid (HS.out.grow x.keep)
              clear hE hN
              go_wp2
              go_ret
              exact ⟨rfl, HS.out.keep⟩

theorem HeadApart.walk {w : World} (p q : Int) (hp : (lowest .u8 ≤ p ∧ p ≤ greatest .u8) ∧ (lowest .u8 ≤ q ∧ q ≤ greatest .u8)) (p' q' : Int) (hp' : (lowest .u8 ≤ p' ∧ p' ≤ greatest .u8) ∧ (lowest .u8 ≤ q' ∧ q' ≤ greatest .u8)) (t : Int) (t0 : lowest .u8 ≤ t) (t1 : t ≤ greatest .u8) (same : Bool) :
    Calls Try.prog 6 #[.agg #[.int .u8 p, .int .u8 q], .agg #[.int .u8 p', .int .u8 q'], .int .u8 t, .bool same] w fun e w' => e = .returned (.bool true) ∧ Below w.heap.size w w' := by
  obtain ⟨⟨p0, p1⟩, q0, q1⟩ := hp
  obtain ⟨⟨r0, r1⟩, s0, s1⟩ := hp'
  simp [lowest, greatest] at p0 p1 q0 q1 r0 r1 s0 s1 t0 t1
  exact (HeadApart.core p q p' q' t same w p0 p1 q0 q1 r0 r1 s0 s1 t0 t1).mono fun e w' ⟨he, hk⟩ => ⟨he, hk.below⟩
end Go.Proofs.Ythejggahengfnaa
