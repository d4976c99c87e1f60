/-
  Package object: Of, field, Read, Ref, Write, Point.
-/
import Derived.Deep.CutRange
import Derived.Test.YtbdomdmnjclpdaaSpaceD
import Derived.Test.YtbdomdmnjclpdaaMerge
set_option linter.unusedSimpArgs false
set_option linter.unusedVariables false
set_option maxRecDepth 100000
namespace Go.Proofs.Ytbdomdmnjclpdaa
open Go.RowKit Go.Shelf

/-- An object, as a value. -/
abbrev obV (m b at_ : Int) : Value := .agg #[.int .i64 m, .int .i64 b, .int .i64 at_]
abbrev ofR (m b at_ err : Int) : Value := .tuple #[obV m b at_, .int .i64 err]

theorem results_ob {w : World} {g : Nat} {m b at_ : Int} (hb : Blk w g 53 #[.int .i64 m, .int .i64 b, .int .i64 at_]) : (loadVar 53 ⟨g, 0, none⟩).run Try.prog w = .ok (obV m b at_) w :=
  run_loadVar_mid w g 0 53 [.int .i64 m, .int .i64 b, .int .i64 at_] ((Try.prog.underlying 53).getD (.int .i64)) (fun j v hv => by rw [Nat.zero_add, hb.cell]; simpa using hv) (by kernel_rfl) (by kernel_rfl) (by kernel_rfl)

set_option maxHeartbeats 4000000 in
theorem of_no (d : DevI) (t : St) (k : Kfg) (a u : Nat) (at_ : Int) (rv : Value) (w : World) (hd : Dev w d t) (hk : k.Ok) (ha : a ≤ 1) (hu : u ≤ k.S) (h1 : at_ ≤ 9223372036854775807) (h : at_ < 0 ∨ hasB k a u at_ = false) :
    Calls Try.prog 19 #[.pointer (some ⟨d.b, 0, none⟩), .agg k.cells, .agg (rbC a u rv), .int .i64 at_] w fun e w' => e = .returned (ofR 0 0 0 6) ∧ Keep w.heap.size [] w w' := by
  have HS := Lib.hid (Sep.start w [])
  have HD := Lib.hid hd
  have HK := Lib.hid hk
  have HAS := Lib.hid (fun x w (hx : 0 ≤ x ∧ x ≤ 18446744073709551615) => has_is k a u x rv w hk (by omega) (by have := hk.s1; omega) hx)
  clear hd hk
  simp only [Kfg.cells, rbC] at *
  go_enter Try.func19, Try.ntmps19
  go_upto_region 1 with fail
  replace HS := Lib.hid (((HS.out.new 30 #[.int .i64 (k.L : Int), .int .i64 (k.R : Int), .int .i64 (k.S : Int)]).new 33 #[.int .i64 (a : Int), .int .i64 (u : Int), rv]).new 53 #[.int .i64 0, .int .i64 0, .int .i64 0])
  rw [show ((w.alloc (.cells #[.int .i64 (k.L : Int), .int .i64 (k.R : Int), .int .i64 (k.S : Int)] 30)).alloc (.cells #[.int .i64 (a : Int), .int .i64 (u : Int), rv] 33)).heap.size = w.heap.size + 1 + 1 by simp, show (w.alloc (.cells #[.int .i64 (k.L : Int), .int .i64 (k.R : Int), .int .i64 (k.S : Int)] 30)).heap.size = w.heap.size + 1 by simp] at HS
  generalize ((w.alloc _).alloc _).alloc _ = w2 at *
  generalize w.heap.size = gk at *
  generalize gk + 1 = gb at *
  generalize gb + 1 = go at *
  by_cases hneg : at_ < 0
  · clear h
    have hneg2 : decide (at_ < 0) = true := by simpa using hneg
    have e0 := (HS.out.blk 2 rfl).cell 0
    simp at e0
    have e1 := (HS.out.blk 2 rfl).cell 1
    simp at e1
    have e2 := (HS.out.blk 2 rfl).cell 2
    simp at e2
    have z0 := (HS.out.blk 2 rfl).frozen 0
    have z1 := (HS.out.blk 2 rfl).frozen 1
    have z2 := (HS.out.blk 2 rfl).frozen 2
    have hS3 := ((HS.out.put (i := 2) rfl 0 (.int .i64 0)).put (i := 2) rfl 1 (.int .i64 0)).put (i := 2) rfl 2 (.int .i64 0)
    have HS3 := Lib.hid hS3
    clear hS3
    go_wp2
    generalize ((World.setCell _ _ _).setCell _ _).setCell _ _ = wz at *
    refine bodyPost_ret (v := ofR 0 0 0 6) ?_ rfl ⟨rfl, HS3.out.keep⟩
    rw [results_cell_tmp rfl]
    simp [asAddr, results_ob (HS3.out.blk 2 rfl)]
  · have hb : hasB k a u at_ = false := by rcases h with h | h; exact absurd h hneg; exact h
    have hneg2 : decide (at_ < 0) = false := by simpa using hneg
    have hcv : IntKind.u64.wrap at_ = at_ := by rw [IntKind.wrap_u64]; omega
    clear h
    have c0 := (HS.out.blk 0 rfl).cell 0
    simp at c0
    have c1 := (HS.out.blk 0 rfl).cell 1
    simp at c1
    have c2 := (HS.out.blk 0 rfl).cell 2
    simp at c2
    have b0 := (HS.out.blk 1 rfl).cell 0
    simp at b0
    have b1 := (HS.out.blk 1 rfl).cell 1
    simp at b1
    have b2 := (HS.out.blk 1 rfl).cell 2
    simp at b2
    go_wp2_with fail
    refine (HAS.out _ _ (by omega)).mono ?_
    rw [hb]
    rintro e w3 ⟨rfl, hkk⟩
    replace HS := Lib.hid (HS.out.grow hkk)
    clear hkk c0 c1 c2 b0 b1 b2
    have e0 := (HS.out.blk 2 rfl).cell 0
    simp at e0
    have e1 := (HS.out.blk 2 rfl).cell 1
    simp at e1
    have e2 := (HS.out.blk 2 rfl).cell 2
    simp at e2
    have z0 := (HS.out.blk 2 rfl).frozen 0
    have z1 := (HS.out.blk 2 rfl).frozen 1
    have z2 := (HS.out.blk 2 rfl).frozen 2
    have hS3 := ((HS.out.put (i := 2) rfl 0 (.int .i64 0)).put (i := 2) rfl 1 (.int .i64 0)).put (i := 2) rfl 2 (.int .i64 0)
    have HS3 := Lib.hid hS3
    clear hS3
    go_wp2
    generalize ((World.setCell _ _ _).setCell _ _).setCell _ _ = wz at *
    refine bodyPost_ret (v := ofR 0 0 0 6) ?_ rfl ⟨rfl, HS3.out.keep⟩
    rw [results_cell_tmp rfl]
    simp [asAddr, results_ob (HS3.out.blk 2 rfl)]

/-- Where a place lies. -/
theorem hasB_iff (k : Kfg) (a u p : Nat) : hasB k a u (p : Int) = true ↔ k.from_ a ≤ p ∧ p < k.from_ a + u := by
  unfold hasB
  simp
  omega

set_option maxHeartbeats 4000000 in
theorem of_bad (d : DevI) (t : St) (k : Kfg) (a u p f : Nat) (x m b : Int) (ok : Bool) (rv : Value) (w : World) (hd : Dev w d t) (hk : k.Ok) (ha : a ≤ 1) (hu : u ≤ k.S) (h : k.from_ a ≤ p ∧ p < k.from_ a + u) (hf : k.from_ a + u = f) (hx : t.nw p = x) (hx0 : 0 ≤ x) (hx1 : x ≤ 18446744073709551615) (hh : headOf x = (m, b, ok)) (hbad : ok = false ∨ (f : Int) - (p : Int) < m + 1) :
    Calls Try.prog 19 #[.pointer (some ⟨d.b, 0, none⟩), .agg k.cells, .agg (rbC a u rv), .int .i64 (p : Int)] w fun e w' => e = .returned (ofR 0 0 0 8) ∧ Keep w.heap.size [] w w' := by
  have HS := Lib.hid (Sep.start w [])
  have HD := Lib.hid hd
  have HK := Lib.hid hk
  have HAS := Lib.hid (fun w => has_is k a u (p : Int) rv w hk (by omega) (by have := hk.s1; omega) (by have := Kfg.from_words hk (a := a) (by omega); have := hk.s1; omega))
  rw [(hasB_iff k a u p).2 h] at HAS
  have hpw : p ≤ 20000 ∧ f ≤ 20000 := by have := Kfg.from_words hk (a := a) (by omega); have := hk.s1; omega
  have HPL := Lib.hid (fun w => place_is k a u u f rv w hk (by omega) hf (by have := hk.s1; omega))
  have hun := fun w => unpack_any x w hx0 hx1
  have hmo := headOf_ok (x := x) hx0
  rw [hh] at hun hmo
  have HUN := Lib.hid hun
  have HX := Lib.hid hx
  have HMO := Lib.hid hmo
  clear hd hk hun hx hh hmo
  simp only [Kfg.cells, rbC] at *
  go_enter Try.func19, Try.ntmps19
  go_upto_region 1 with fail
  replace HS := Lib.hid (((HS.out.new 30 #[.int .i64 (k.L : Int), .int .i64 (k.R : Int), .int .i64 (k.S : Int)]).new 33 #[.int .i64 (a : Int), .int .i64 (u : Int), rv]).new 53 #[.int .i64 0, .int .i64 0, .int .i64 0])
  rw [show ((w.alloc (.cells #[.int .i64 (k.L : Int), .int .i64 (k.R : Int), .int .i64 (k.S : Int)] 30)).alloc (.cells #[.int .i64 (a : Int), .int .i64 (u : Int), rv] 33)).heap.size = w.heap.size + 1 + 1 by simp, show (w.alloc (.cells #[.int .i64 (k.L : Int), .int .i64 (k.R : Int), .int .i64 (k.S : Int)] 30)).heap.size = w.heap.size + 1 by simp] at HS
  generalize ((w.alloc _).alloc _).alloc _ = w2 at *
  generalize w.heap.size = gk at *
  generalize gk + 1 = gb at *
  generalize gb + 1 = go at *
  have hneg2 : decide ((p : Int) < 0) = false := by simp
  have hcv : IntKind.u64.wrap (p : Int) = (p : Int) := by rw [IntKind.wrap_u64]; omega
  have c0 := (HS.out.blk 0 rfl).cell 0
  simp at c0
  have c1 := (HS.out.blk 0 rfl).cell 1
  simp at c1
  have c2 := (HS.out.blk 0 rfl).cell 2
  simp at c2
  have b0 := (HS.out.blk 1 rfl).cell 0
  simp at b0
  have b1 := (HS.out.blk 1 rfl).cell 1
  simp at b1
  have b2 := (HS.out.blk 1 rfl).cell 2
  simp at b2
  go_wp2_with fail
  refine (HAS.out _).mono ?_
  rintro e w3 ⟨rfl, hkk⟩
  replace HS := Lib.hid (HS.out.grow hkk)
  clear hkk c0 c1 c2 b0 b1 b2
  go_wp2_with fail
  refine (load_is d t p x _ (HD.out.of_new HS.out.keep) HX.out).mono ?_
  rintro e w4 ⟨rfl, rfl⟩
  go_wp2_with fail
  refine (HUN.out _).mono ?_
  rintro e w4 ⟨rfl, hkk⟩
  replace HS := Lib.hid (HS.out.grow hkk)
  clear hkk
  go_upto_region 4 with fail
  replace HS := Lib.hid (HS.out.new 51 #[.int .i64 m, .int .i64 b])
  generalize w4.alloc _ = w5 at *
  generalize w4.heap.size = gh at *
  have hmi := HMO.out
  unfold headOk at hmi

  have hsz := fun w => hsize_any m b w (by omega) (by omega)
  have HSZ := Lib.hid hsz
  have hsub : IntKind.i64.wrap ((f : Int) - (p : Int)) = (f : Int) - (p : Int) := by rw [IntWalk.i64_in _ (by omega)]
  have c0 : ∀ x : Ext w5, x.now.cell? ⟨gk, 0, none⟩ = some (.int .i64 (k.L : Int)) := fun x => x.cell (by simpa using (HS.out.blk 0 rfl).cell 0)
  have c1 : ∀ x : Ext w5, x.now.cell? ⟨gk, 1, none⟩ = some (.int .i64 (k.R : Int)) := fun x => x.cell (by simpa using (HS.out.blk 0 rfl).cell 1)
  have c2 : ∀ x : Ext w5, x.now.cell? ⟨gk, 2, none⟩ = some (.int .i64 (k.S : Int)) := fun x => x.cell (by simpa using (HS.out.blk 0 rfl).cell 2)
  have b0 : ∀ x : Ext w5, x.now.cell? ⟨gb, 0, none⟩ = some (.int .i64 (a : Int)) := fun x => x.cell (by simpa using (HS.out.blk 1 rfl).cell 0)
  have b1 : ∀ x : Ext w5, x.now.cell? ⟨gb, 1, none⟩ = some (.int .i64 (u : Int)) := fun x => x.cell (by simpa using (HS.out.blk 1 rfl).cell 1)
  have b2 : ∀ x : Ext w5, x.now.cell? ⟨gb, 2, none⟩ = some (rv) := fun x => x.cell (by simpa using (HS.out.blk 1 rfl).cell 2)
  have h0 : ∀ x : Ext w5, x.now.cell? ⟨gh, 0, none⟩ = some (.int .i64 m) := fun x => x.cell (by simpa using (HS.out.blk 3 rfl).cell 0)
  have h1 : ∀ x : Ext w5, x.now.cell? ⟨gh, 1, none⟩ = some (.int .i64 b) := fun x => x.cell (by simpa using (HS.out.blk 3 rfl).cell 1)
  clear hsz hmi
  cases ok
  · clear hbad
    refine wp_region_ext (by kernel_rfl) (by kernel_rfl) ?_
    repeat (go_big_quiet_step ((first | (go_at_call 20; with_reducible exact Calls.ext (HSZ.out _)) | (go_at_call 36; with_reducible exact Calls.ext (HPL.out _)))))
    refine wpQuiet_nil ?_
    rintro _ ⟨x, rfl⟩
    replace HS := Lib.hid (HS.out.grow x.keep)
    clear c0 c1 c2 b0 b1 b2 h0 h1
    have e0 := (HS.out.blk 2 rfl).cell 0
    simp at e0
    have e1 := (HS.out.blk 2 rfl).cell 1
    simp at e1
    have e2 := (HS.out.blk 2 rfl).cell 2
    simp at e2
    have z0 := (HS.out.blk 2 rfl).frozen 0
    have z1 := (HS.out.blk 2 rfl).frozen 1
    have z2 := (HS.out.blk 2 rfl).frozen 2
    have hS3 := ((HS.out.put (i := 2) rfl 0 (.int .i64 0)).put (i := 2) rfl 1 (.int .i64 0)).put (i := 2) rfl 2 (.int .i64 0)
    have HS3 := Lib.hid hS3
    clear hS3
    go_wp2
    generalize ((World.setCell _ _ _).setCell _ _).setCell _ _ = wz at *
    refine bodyPost_ret (v := ofR 0 0 0 8) ?_ rfl ⟨rfl, HS3.out.keep⟩
    rw [results_cell_tmp rfl]
    simp [asAddr, results_ob (HS3.out.blk 2 rfl)]
  · have hbad2 : (f : Int) - (p : Int) < m + 1 := by rcases hbad with h | h; cases h; exact h
    have hbad3 : decide (m + 1 > (f : Int) - (p : Int)) = true := by simpa using hbad2
    clear hbad
    refine wp_region_ext (by kernel_rfl) (by kernel_rfl) ?_
    repeat (go_big_quiet_step ((first | (go_at_call 20; with_reducible exact Calls.ext (HSZ.out _)) | (go_at_call 36; with_reducible exact Calls.ext (HPL.out _)))))
    refine wpQuiet_nil ?_
    rintro _ ⟨x, rfl⟩
    replace HS := Lib.hid (HS.out.grow x.keep)
    clear c0 c1 c2 b0 b1 b2 h0 h1
    have e0 := (HS.out.blk 2 rfl).cell 0
    simp at e0
    have e1 := (HS.out.blk 2 rfl).cell 1
    simp at e1
    have e2 := (HS.out.blk 2 rfl).cell 2
    simp at e2
    have z0 := (HS.out.blk 2 rfl).frozen 0
    have z1 := (HS.out.blk 2 rfl).frozen 1
    have z2 := (HS.out.blk 2 rfl).frozen 2
    have hS3 := ((HS.out.put (i := 2) rfl 0 (.int .i64 0)).put (i := 2) rfl 1 (.int .i64 0)).put (i := 2) rfl 2 (.int .i64 0)
    have HS3 := Lib.hid hS3
    clear hS3
    go_wp2
    generalize ((World.setCell _ _ _).setCell _ _).setCell _ _ = wz at *
    refine bodyPost_ret (v := ofR 0 0 0 8) ?_ rfl ⟨rfl, HS3.out.keep⟩
    rw [results_cell_tmp rfl]
    simp [asAddr, results_ob (HS3.out.blk 2 rfl)]

set_option maxHeartbeats 4000000 in
theorem of_yes (d : DevI) (t : St) (k : Kfg) (a u p f : Nat) (x m b : Int) (rv : Value) (w : World) (hd : Dev w d t) (hk : k.Ok) (ha : a ≤ 1) (hu : u ≤ k.S) (h : k.from_ a ≤ p ∧ p < k.from_ a + u) (hf : k.from_ a + u = f) (hx : t.nw p = x) (hx0 : 0 ≤ x) (hx1 : x ≤ 18446744073709551615) (hh : headOf x = (m, b, true)) (hbad : m + 1 ≤ (f : Int) - (p : Int)) :
    Calls Try.prog 19 #[.pointer (some ⟨d.b, 0, none⟩), .agg k.cells, .agg (rbC a u rv), .int .i64 (p : Int)] w fun e w' => e = .returned (ofR m b (p : Int) 0) ∧ Keep w.heap.size [] w w' := by
  have HS := Lib.hid (Sep.start w [])
  have HD := Lib.hid hd
  have HK := Lib.hid hk
  have HAS := Lib.hid (fun w => has_is k a u (p : Int) rv w hk (by omega) (by have := hk.s1; omega) (by have := Kfg.from_words hk (a := a) (by omega); have := hk.s1; omega))
  rw [(hasB_iff k a u p).2 h] at HAS
  have hpw : p ≤ 20000 ∧ f ≤ 20000 := by have := Kfg.from_words hk (a := a) (by omega); have := hk.s1; omega
  have HPL := Lib.hid (fun w => place_is k a u u f rv w hk (by omega) hf (by have := hk.s1; omega))
  have hun := fun w => unpack_any x w hx0 hx1
  have hmo := headOf_ok (x := x) hx0
  rw [hh] at hun hmo
  have HUN := Lib.hid hun
  have HX := Lib.hid hx
  have HMO := Lib.hid hmo
  clear hd hk hun hx hh hmo
  simp only [Kfg.cells, rbC] at *
  go_enter Try.func19, Try.ntmps19
  go_upto_region 1 with fail
  replace HS := Lib.hid (((HS.out.new 30 #[.int .i64 (k.L : Int), .int .i64 (k.R : Int), .int .i64 (k.S : Int)]).new 33 #[.int .i64 (a : Int), .int .i64 (u : Int), rv]).new 53 #[.int .i64 0, .int .i64 0, .int .i64 0])
  rw [show ((w.alloc (.cells #[.int .i64 (k.L : Int), .int .i64 (k.R : Int), .int .i64 (k.S : Int)] 30)).alloc (.cells #[.int .i64 (a : Int), .int .i64 (u : Int), rv] 33)).heap.size = w.heap.size + 1 + 1 by simp, show (w.alloc (.cells #[.int .i64 (k.L : Int), .int .i64 (k.R : Int), .int .i64 (k.S : Int)] 30)).heap.size = w.heap.size + 1 by simp] at HS
  generalize ((w.alloc _).alloc _).alloc _ = w2 at *
  generalize w.heap.size = gk at *
  generalize gk + 1 = gb at *
  generalize gb + 1 = go at *
  have hneg2 : decide ((p : Int) < 0) = false := by simp
  have hcv : IntKind.u64.wrap (p : Int) = (p : Int) := by rw [IntKind.wrap_u64]; omega
  have c0 := (HS.out.blk 0 rfl).cell 0
  simp at c0
  have c1 := (HS.out.blk 0 rfl).cell 1
  simp at c1
  have c2 := (HS.out.blk 0 rfl).cell 2
  simp at c2
  have b0 := (HS.out.blk 1 rfl).cell 0
  simp at b0
  have b1 := (HS.out.blk 1 rfl).cell 1
  simp at b1
  have b2 := (HS.out.blk 1 rfl).cell 2
  simp at b2
  go_wp2_with fail
  refine (HAS.out _).mono ?_
  rintro e w3 ⟨rfl, hkk⟩
  replace HS := Lib.hid (HS.out.grow hkk)
  clear hkk c0 c1 c2 b0 b1 b2
  go_wp2_with fail
  refine (load_is d t p x _ (HD.out.of_new HS.out.keep) HX.out).mono ?_
  rintro e w4 ⟨rfl, rfl⟩
  go_wp2_with fail
  refine (HUN.out _).mono ?_
  rintro e w4 ⟨rfl, hkk⟩
  replace HS := Lib.hid (HS.out.grow hkk)
  clear hkk
  go_upto_region 4 with fail
  replace HS := Lib.hid (HS.out.new 51 #[.int .i64 m, .int .i64 b])
  generalize w4.alloc _ = w5 at *
  generalize w4.heap.size = gh at *
  have hmi := HMO.out
  unfold headOk at hmi

  have hsz := fun w => hsize_any m b w (by omega) (by omega)
  have HSZ := Lib.hid hsz
  have hsub : IntKind.i64.wrap ((f : Int) - (p : Int)) = (f : Int) - (p : Int) := by rw [IntWalk.i64_in _ (by omega)]
  have c0 : ∀ x : Ext w5, x.now.cell? ⟨gk, 0, none⟩ = some (.int .i64 (k.L : Int)) := fun x => x.cell (by simpa using (HS.out.blk 0 rfl).cell 0)
  have c1 : ∀ x : Ext w5, x.now.cell? ⟨gk, 1, none⟩ = some (.int .i64 (k.R : Int)) := fun x => x.cell (by simpa using (HS.out.blk 0 rfl).cell 1)
  have c2 : ∀ x : Ext w5, x.now.cell? ⟨gk, 2, none⟩ = some (.int .i64 (k.S : Int)) := fun x => x.cell (by simpa using (HS.out.blk 0 rfl).cell 2)
  have b0 : ∀ x : Ext w5, x.now.cell? ⟨gb, 0, none⟩ = some (.int .i64 (a : Int)) := fun x => x.cell (by simpa using (HS.out.blk 1 rfl).cell 0)
  have b1 : ∀ x : Ext w5, x.now.cell? ⟨gb, 1, none⟩ = some (.int .i64 (u : Int)) := fun x => x.cell (by simpa using (HS.out.blk 1 rfl).cell 1)
  have b2 : ∀ x : Ext w5, x.now.cell? ⟨gb, 2, none⟩ = some (rv) := fun x => x.cell (by simpa using (HS.out.blk 1 rfl).cell 2)
  have h0 : ∀ x : Ext w5, x.now.cell? ⟨gh, 0, none⟩ = some (.int .i64 m) := fun x => x.cell (by simpa using (HS.out.blk 3 rfl).cell 0)
  have h1 : ∀ x : Ext w5, x.now.cell? ⟨gh, 1, none⟩ = some (.int .i64 b) := fun x => x.cell (by simpa using (HS.out.blk 3 rfl).cell 1)
  clear hsz hmi
  have hbad3 : decide (m + 1 > (f : Int) - (p : Int)) = false := by simp; omega
  have hbad2 : ((f : Int) - (p : Int) < m + 1) = False := by simp; omega
  clear hbad
  refine wp_region_ext (by kernel_rfl) (by kernel_rfl) ?_
  repeat (go_big_quiet_step ((first | (go_at_call 20; with_reducible exact Calls.ext (HSZ.out _)) | (go_at_call 36; with_reducible exact Calls.ext (HPL.out _)))))
  refine wpQuiet_nil ?_
  rintro _ ⟨x, rfl⟩
  replace HS := Lib.hid (HS.out.grow x.keep)
  clear c0 c1 c2 b0 b1 b2 h0 h1 hbad2 hbad3
  have h0 := (HS.out.blk 3 rfl).cell 0
  simp at h0
  have h1 := (HS.out.blk 3 rfl).cell 1
  simp at h1
  have e0 := (HS.out.blk 2 rfl).cell 0
  simp at e0
  have e1 := (HS.out.blk 2 rfl).cell 1
  simp at e1
  have e2 := (HS.out.blk 2 rfl).cell 2
  simp at e2
  have z0 := (HS.out.blk 2 rfl).frozen 0
  have z1 := (HS.out.blk 2 rfl).frozen 1
  have z2 := (HS.out.blk 2 rfl).frozen 2
  have hS3 := ((HS.out.put (i := 2) rfl 0 (.int .i64 m)).put (i := 2) rfl 1 (.int .i64 b)).put (i := 2) rfl 2 (.int .i64 (p : Int))
  have HS3 := Lib.hid hS3
  clear hS3
  go_wp2
  generalize ((World.setCell _ _ _).setCell _ _).setCell _ _ = wz at *
  refine bodyPost_ret (v := ofR m b (p : Int) 0) ?_ rfl ⟨rfl, HS3.out.keep⟩
  rw [results_cell_tmp rfl]
  simp [asAddr, results_ob (HS3.out.blk 2 rfl)]
end Go.Proofs.Ytbdomdmnjclpdaa
