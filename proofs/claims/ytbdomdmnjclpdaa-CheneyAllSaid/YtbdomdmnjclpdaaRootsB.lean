/-
  Package roots: Read of what is no block.
-/
import Derived.Test.YtbdomdmnjclpdaaRoots
set_option linter.unusedSimpArgs false
set_option linter.unusedVariables false
set_option maxRecDepth 100000
namespace Go.Proofs.Ytbdomdmnjclpdaa
open Go.RowKit Go.Shelf

set_option maxHeartbeats 4000000 in
theorem rread_bad (d : DevI) (s : St) (k : Kfg) (a u : Int) (w : World) (h : Dev w d s) (hk : k.Ok) (hl : s.now.length = k.words) (ha : s.nw k.act = a) (hu : s.nw (k.act + 1) = u) (hbad : 1 < a ∨ (k.S : Int) < u) :
    Calls Try.prog 29 #[.pointer (some ⟨d.b, 0, none⟩), .agg k.cells] w fun e w' => e = .returned (.tuple #[.agg #[.int .i64 0, .int .i64 0, .slice none 0 0], .int .i64 10]) ∧ Keep w.heap.size [] w w' := by
  have H := Lib.hid h
  have HK := Lib.hid hk
  have HL := Lib.hid hl
  have HS := Lib.hid (Sep.start w [])
  have hkR : k.R ≤ 16 := by have := hk.r1; omega
  have hkS : k.S ≤ 4096 := by have := hk.s1; omega
  obtain ⟨na, hna⟩ : ∃ na, k.act = na := ⟨_, rfl⟩
  have hw := Kfg.words_le hk
  rw [hna] at ha hu
  have HNA := Lib.hid hna
  have HA := Lib.hid ha
  have HU := Lib.hid hu
  clear h hk hl ha hu hna
  simp only [Kfg.cells] at *
  go_enter Try.func29, Try.ntmps29
  go_wp2_with fail
  replace HS := Lib.hid ((HS.out.new 30 #[.int .i64 (k.L : Int), .int .i64 (k.R : Int), .int .i64 (k.S : Int)]).new 33 #[.int .i64 0, .int .i64 0, .slice none 0 0])
  rw [show (w.alloc (.cells #[.int .i64 (k.L : Int), .int .i64 (k.R : Int), .int .i64 (k.S : Int)] 30)).heap.size = w.heap.size + 1 by simp] at HS
  generalize (w.alloc _).alloc _ = w2 at *
  generalize w.heap.size = gb at *
  generalize gb + 1 = gr at *
  have c0 : ∀ x : Ext w2, x.now.cell? ⟨gb, 0, none⟩ = some (.int .i64 (k.L : Int)) := fun x => x.cell (by simpa using (HS.out.blk 0 rfl).cell 0)
  have c1 : ∀ x : Ext w2, x.now.cell? ⟨gb, 1, none⟩ = some (.int .i64 (k.R : Int)) := fun x => x.cell (by simpa using (HS.out.blk 0 rfl).cell 1)
  have c2 : ∀ x : Ext w2, x.now.cell? ⟨gb, 2, none⟩ = some (.int .i64 (k.S : Int)) := fun x => x.cell (by simpa using (HS.out.blk 0 rfl).cell 2)
  have hdv : ∀ x : Ext w2, Dev x.now d s := fun x => H.out.of_new (HS.out.grow x.keep).keep
  have hac : ∀ w, Calls Try.prog 49 #[.agg k.cells] w fun e w' => e = .returned (.int .i64 (na : Int)) ∧ Keep w.heap.size [] w w' := fun w => by have := kactive k w HK.out; rwa [HNA.out] at this
  have hus : ∀ w, Calls Try.prog 50 #[.agg k.cells] w fun e w' => e = .returned (.int .i64 ((na : Int) + 1)) ∧ Keep w.heap.size [] w w' := fun w => by have := kused k w HK.out; rwa [HNA.out] at this
  have hl1 : ∀ x : Ext w2, Calls Try.prog 32 #[.pointer (some ⟨d.b, 0, none⟩), .int .i64 (na : Int)] x.now fun e w' => e = .returned (.int .u64 a) ∧ x.now = w' := fun x => load_is d s na _ _ (hdv x) HA.out
  have hl2 : ∀ x : Ext w2, Calls Try.prog 32 #[.pointer (some ⟨d.b, 0, none⟩), .int .i64 ((na : Int) + 1)] x.now fun e w' => e = .returned (.int .u64 u) ∧ x.now = w' := fun x => load_is d s (na + 1) _ _ (hdv x) HU.out
  have HAC := Lib.hid hac
  have HUS := Lib.hid hus
  have HL1 := Lib.hid hl1
  have HL2 := Lib.hid hl2
  clear hdv hac hus hl1 hl2
  refine wp_region_ext (by kernel_rfl) (by kernel_rfl) ?_
  repeat (go_big_quiet_step ((first | (go_at_call 49; with_reducible exact Calls.ext (HAC.out _)) | (go_at_call 50; with_reducible exact Calls.ext (HUS.out _)) | (go_at_call 32; with_reducible exact Calls.ext_same (HL1.out _)) | (go_at_call 32; with_reducible exact Calls.ext_same (HL2.out _)))))
  refine wpQuiet_nil ?_
  rintro _ ⟨x, rfl⟩
  replace HS := Lib.hid (HS.out.grow x.keep)
  clear c0 c1 c2
  have c1 := (HS.out.blk 0 rfl).cell 1
  simp at c1
  have c2 := (HS.out.blk 0 rfl).cell 2
  simp at c2
  have d0 := (HS.out.blk 1 rfl).cell 0
  simp at d0
  have d1 := (HS.out.blk 1 rfl).cell 1
  simp at d1
  have d2 := (HS.out.blk 1 rfl).cell 2
  simp at d2
  have z0 := (HS.out.blk 1 rfl).frozen 0
  have z1 := (HS.out.blk 1 rfl).frozen 1
  have z2 := (HS.out.blk 1 rfl).frozen 2
  have e2 : IntKind.u64.wrap (k.S : Int) = (k.S : Int) := by rw [IntKind.wrap_u64]; omega
  have hS3 := ((HS.out.put (i := 1) rfl 0 (.int .i64 0)).put (i := 1) rfl 1 (.int .i64 0)).put (i := 1) rfl 2 (.slice none 0 0)
  have HS3 := Lib.hid hS3
  clear hS3
  have hend : ∀ wz, Blk wz gr 33 #[.int .i64 0, .int .i64 0, .slice none 0 0] → (loadVar 33 ⟨gr, 0, none⟩).run Try.prog wz = .ok (.agg #[.int .i64 0, .int .i64 0, .slice none 0 0]) wz := fun wz hb =>
    run_loadVar_mid wz gr 0 33 [.int .i64 0, .int .i64 0, .slice none 0 0] ((Try.prog.underlying 33).getD (.int .i64)) (fun j v hv => by rw [Nat.zero_add, hb.cell]; simpa using hv) (by kernel_rfl) (by kernel_rfl) (by kernel_rfl)
  have HEND := Lib.hid hend
  clear hend
  by_cases ha1 : 1 < a
  · have e1 : decide (a > 1) = true := by simpa using ha1
    have e1' : (1 < a) = True := by simpa using ha1
    go_wp2
    have hld := HEND.out _ (HS3.out.blk 1 rfl)
    generalize ((x.now.setCell _ _).setCell _ _).setCell _ _ = wz at *
    refine bodyPost_ret (v := .tuple #[.agg #[.int .i64 0, .int .i64 0, .slice none 0 0], .int .i64 10]) ?_ rfl ?_
    · rw [results_cell_tmp rfl]
      simp [asAddr, hld]
    exact ⟨rfl, HS3.out.keep⟩
  · have hu1 : (k.S : Int) < u := hbad.resolve_left ha1
    have e1 : decide (a > 1) = false := by simpa using ha1
    have e1' : (1 < a) = False := by simpa using ha1
    have e3 : decide (u > (k.S : Int)) = true := by simpa using hu1
    have e3' : ((k.S : Int) < u) = True := by simpa using hu1
    go_wp2
    have hld := HEND.out _ (HS3.out.blk 1 rfl)
    generalize ((x.now.setCell _ _).setCell _ _).setCell _ _ = wz at *
    refine bodyPost_ret (v := .tuple #[.agg #[.int .i64 0, .int .i64 0, .slice none 0 0], .int .i64 10]) ?_ rfl ?_
    · rw [results_cell_tmp rfl]
      simp [asAddr, hld]
    exact ⟨rfl, HS3.out.keep⟩
end Go.Proofs.Ytbdomdmnjclpdaa
