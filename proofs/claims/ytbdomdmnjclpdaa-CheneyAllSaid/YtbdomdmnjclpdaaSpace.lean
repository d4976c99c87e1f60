/-
  Package space.
-/
import Derived.Deep.CutRange
import Derived.Test.YtbdomdmnjclpdaaAwk8
import Derived.Test.YtbdomdmnjclpdaaMerge
import Derived.Test.YtbdomdmnjclpdaaRootsB
import Derived.Test.YtbdomdmnjclpdaaHead
set_option linter.unusedSimpArgs false
set_option linter.unusedVariables false
set_option maxRecDepth 100000
namespace Go.Proofs.Ytbdomdmnjclpdaa
open Go.RowKit Go.Shelf

/-- A function that stores a row of words: what it answers, what stands. -/
structure Stores (G : FuncId) (bs cap : Array Value) (ops : List (Nat × Int)) (J : Nat → Res → Prop) (F : Int → Nat → Res → Prop) : Prop where
  enters : Enters Try.prog G
  step : ∀ i p, ops[i]? = some p → ∀ r, J i r → ∀ w, r.holds w → Calls Try.prog G (bs ++ (#[.int .i64 (p.1 : Int), .int .u64 p.2] ++ cap)) w fun e w' =>
      ∃ (err : Int) (r' : Res), e = .returned (.int .i64 err) ∧ Keep w.heap.size r.blocks w w' ∧ r'.holds w' ∧ (∀ k ∈ r'.blocks, k ∈ r.blocks ∨ w.heap.size ≤ k) ∧ ((err = 0 ∧ J (i + 1) r') ∨ (err ≠ 0 ∧ F err i r'))

/-- What an Alloc asks to be stored. -/
def allocOps (k : Kfg) (u n at_ : Nat) (hv : Int) : List (Nat × Int) := (k.act + 1, ((u + (n + 1) : Nat) : Int)) :: (List.range (n + 1)).map fun i => (at_ + i, if i = 0 then hv else 0)
theorem allocOps_zero (k : Kfg) (u n at_ : Nat) (hv : Int) : (allocOps k u n at_ hv)[0]? = some (k.act + 1, ((u + (n + 1) : Nat) : Int)) := rfl
theorem allocOps_succ (k : Kfg) (u n at_ : Nat) (hv : Int) {i : Nat} (hi : i < n + 1) : (allocOps k u n at_ hv)[i + 1]? = some (at_ + i, if i = 0 then hv else 0) := by
  simp [allocOps, hi]

set_option maxHeartbeats 2000000 in
theorem alloc_kind (d : DevI) (k : Kfg) (m b : Int) (F : Value) (w : World) (h : ¬ headOk m b) :
    Calls Try.prog 44 #[.pointer (some ⟨d.b, 0, none⟩), .agg k.cells, .agg #[.int .i64 m, .int .i64 b], F] w fun e w' => e = .returned (.tuple #[.int .i64 0, .int .i64 5]) ∧ Keep w.heap.size [] w w' := by
  have HS := Lib.hid (Sep.start w [])
  have H := Lib.hid h
  clear h
  simp only [Kfg.cells] at *
  go_enter Try.func44, Try.ntmps44
  go_wp2_with fail
  replace HS := Lib.hid ((HS.out.new 30 #[.int .i64 (k.L : Int), .int .i64 (k.R : Int), .int .i64 (k.S : Int)]).new 51 #[.int .i64 m, .int .i64 b])
  rw [show (w.alloc (.cells #[.int .i64 (k.L : Int), .int .i64 (k.R : Int), .int .i64 (k.S : Int)] 30)).heap.size = w.heap.size + 1 by simp] at HS
  generalize (w.alloc _).alloc _ = w2 at *
  generalize w.heap.size = gc at *
  generalize gc + 1 = gh at *
  have h0 := (HS.out.blk 1 rfl).cell 0
  simp at h0
  have h1 := (HS.out.blk 1 rfl).cell 1
  simp at h1
  go_wp2_with fail
  refine (hcheck_no m b _ H.out).mono ?_
  rintro e w1 ⟨rfl, hk⟩
  replace HS := Lib.hid (HS.out.grow hk)
  clear hk
  go_wp2
  go_ret2
  exact ⟨rfl, HS.out.keep⟩

set_option maxHeartbeats 2000000 in
theorem alloc_used (d : DevI) (s : St) (k : Kfg) (m b a u : Int) (F : Value) (w : World) (hd : Dev w d s) (hk : k.Ok) (hl : s.now.length = k.words) (h : headOk m b) (ha : s.nw k.act = a) (hu : s.nw (k.act + 1) = u) (hbad : 1 < a ∨ (k.S : Int) < u) :
    Calls Try.prog 44 #[.pointer (some ⟨d.b, 0, none⟩), .agg k.cells, .agg #[.int .i64 m, .int .i64 b], F] w fun e w' => e = .returned (.tuple #[.int .i64 0, .int .i64 10]) ∧ Keep w.heap.size [] w w' := by
  have HS := Lib.hid (Sep.start w [])
  have HD := Lib.hid hd
  have H := Lib.hid h
  have HK := Lib.hid hk
  have HB := Lib.hid (rread_bad d s k a u · · hk hl ha hu hbad)
  clear h hd hk hl ha hu hbad
  simp only [Kfg.cells] at *
  go_enter Try.func44, Try.ntmps44
  go_wp2_with fail
  replace HS := Lib.hid ((HS.out.new 30 #[.int .i64 (k.L : Int), .int .i64 (k.R : Int), .int .i64 (k.S : Int)]).new 51 #[.int .i64 m, .int .i64 b])
  rw [show (w.alloc (.cells #[.int .i64 (k.L : Int), .int .i64 (k.R : Int), .int .i64 (k.S : Int)] 30)).heap.size = w.heap.size + 1 by simp] at HS
  generalize (w.alloc _).alloc _ = w2 at *
  generalize w.heap.size = gc at *
  generalize gc + 1 = gh at *
  have h0 := (HS.out.blk 1 rfl).cell 0
  simp at h0
  have h1 := (HS.out.blk 1 rfl).cell 1
  simp at h1
  go_wp2_with fail
  refine (hcheck_yes m b _ H.out).mono ?_
  rintro e w1 ⟨rfl, hk⟩
  replace HS := Lib.hid (HS.out.grow hk)
  clear hk
  have c0 := (HS.out.blk 0 rfl).cell 0
  simp at c0
  have c1 := (HS.out.blk 0 rfl).cell 1
  simp at c1
  have c2 := (HS.out.blk 0 rfl).cell 2
  simp at c2
  go_wp2_with fail
  refine (HB.out _ (HD.out.of_new HS.out.keep)).mono ?_
  rintro e w1 ⟨rfl, hk⟩
  replace HS := Lib.hid (HS.out.grow hk)
  clear hk
  have hS2 := HS.out.alloc (.cells #[.int .i64 0, .int .i64 0, .slice none 0 0] 33)
  have HS2 := Lib.hid hS2
  clear hS2
  go_wp2
  go_ret2
  exact ⟨rfl, HS2.out.keep⟩

set_option maxHeartbeats 4000000 in
theorem alloc_space (d : DevI) (s : St) (k : Kfg) (n a u : Nat) (b : Int) (F : Value) (w : World) (hd : Dev w d s) (hk : k.Ok) (hl : s.now.length = k.words) (h : headOk (n : Int) b) (ha : s.nw k.act = (a : Int)) (hu : s.nw (k.act + 1) = (u : Int)) (ha1 : a ≤ 1) (hu1 : u ≤ k.S) (hno : k.S < u + (n + 1)) :
    Calls Try.prog 44 #[.pointer (some ⟨d.b, 0, none⟩), .agg k.cells, .agg #[.int .i64 (n : Int), .int .i64 b], F] w fun e w' => e = .returned (.tuple #[.int .i64 0, .int .i64 4]) ∧ Keep w.heap.size [] w w' := by
  have HS := Lib.hid (Sep.start w [])
  have HD := Lib.hid hd
  have H := Lib.hid h
  have HK := Lib.hid hk
  have hn : n ≤ 64 := by unfold headOk at h; omega
  have hkS : k.S ≤ 4096 := hk.s1
  have HB := Lib.hid (rread_any d s k a u · · hk hl ha hu ha1 hu1)
  clear h hd hk hl ha hu
  simp only [Kfg.cells] at *
  go_enter Try.func44, Try.ntmps44
  go_wp2_with fail
  replace HS := Lib.hid ((HS.out.new 30 #[.int .i64 (k.L : Int), .int .i64 (k.R : Int), .int .i64 (k.S : Int)]).new 51 #[.int .i64 (n : Int), .int .i64 b])
  rw [show (w.alloc (.cells #[.int .i64 (k.L : Int), .int .i64 (k.R : Int), .int .i64 (k.S : Int)] 30)).heap.size = w.heap.size + 1 by simp] at HS
  generalize (w.alloc _).alloc _ = w2 at *
  generalize w.heap.size = gc at *
  generalize gc + 1 = gh at *
  have h0 := (HS.out.blk 1 rfl).cell 0
  simp at h0
  have h1 := (HS.out.blk 1 rfl).cell 1
  simp at h1
  go_wp2_with fail
  refine (hcheck_yes (n : Int) b _ H.out).mono ?_
  rintro e w1 ⟨rfl, hk⟩
  replace HS := Lib.hid (HS.out.grow hk)
  clear hk
  have c0 := (HS.out.blk 0 rfl).cell 0
  simp at c0
  have c1 := (HS.out.blk 0 rfl).cell 1
  simp at c1
  have c2 := (HS.out.blk 0 rfl).cell 2
  simp at c2
  go_wp2_with fail
  refine (HB.out _ (HD.out.of_new HS.out.keep)).mono ?_
  rintro e w3 ⟨v, rfl, hkk, hrow, hnew⟩
  obtain ⟨RA, RC, hv⟩ := rowR_val hrow
  subst hv
  simp only [rbC]
  replace HS := Lib.hid (HS.out.grow hkk)
  clear hkk hrow hnew c0 c1 c2 h0 h1
  go_upto_region 7 with fail
  replace HS := Lib.hid (HS.out.new 33 #[.int .i64 (a : Int), .int .i64 (u : Int), .slice RA (uw (rootsOf s k k.R)).length RC])
  generalize w3.alloc _ = w4 at *
  generalize w3.heap.size = gb at *
  have c2 : ∀ x : Ext w4, x.now.cell? ⟨gc, 2, none⟩ = some (.int .i64 (k.S : Int)) := fun x => x.cell (by simpa using (HS.out.blk 0 rfl).cell 2)
  have h0 : ∀ x : Ext w4, x.now.cell? ⟨gh, 0, none⟩ = some (.int .i64 (n : Int)) := fun x => x.cell (by simpa using (HS.out.blk 1 rfl).cell 0)
  have h1 : ∀ x : Ext w4, x.now.cell? ⟨gh, 1, none⟩ = some (.int .i64 b) := fun x => x.cell (by simpa using (HS.out.blk 1 rfl).cell 1)
  have b1 : ∀ x : Ext w4, x.now.cell? ⟨gb, 1, none⟩ = some (.int .i64 (u : Int)) := fun x => x.cell (by simpa using (HS.out.blk 2 rfl).cell 1)
  have hsub : IntKind.i64.wrap ((k.S : Int) - (u : Int)) = ((k.S - u : Nat) : Int) := by rw [IntWalk.i64_in _ (by omega)]; omega
  have hgt : decide (((n + 1 : Nat) : Int) > ((k.S - u : Nat) : Int)) = true := by simp; omega
  obtain ⟨q, hq⟩ : ∃ q : Nat, n + 1 = q := ⟨_, rfl⟩
  obtain ⟨p, hp⟩ : ∃ p : Nat, k.S - u = p := ⟨_, rfl⟩
  have hgt2 : (k.S - u < n + 1) = True := by simp; omega
  rw [hq, hp] at hgt hgt2
  rw [hp] at hsub
  have HQ : Hid ((n : Int) + 1 = (q : Int)) := Lib.hid (by omega)
  have hsz := fun w => hsize_eq (n : Int) b (q : Int) w (by omega) (by omega) HQ.out
  have HSZ := Lib.hid hsz
  clear hq hp hsz
  go_wp2_with fail
  refine wp_region_ext (by kernel_rfl) (by kernel_rfl) ?_
  repeat (go_big_quiet_step ((first | (go_at_call 20; with_reducible exact Calls.ext (HSZ.out _)))))
  refine wpQuiet_nil ?_
  rintro _ ⟨x, rfl⟩
  replace HS := Lib.hid (HS.out.grow x.keep)
  go_wp2
  go_ret2
  exact ⟨rfl, HS.out.keep⟩

set_option maxHeartbeats 8000000 in
theorem alloc_go (d : DevI) (s : St) (k : Kfg) (n a u at_ : Nat) (b : Int) (G : FuncId) (bs cap : Array Value) (J : Nat → Res → Prop) (F : Int → Nat → Res → Prop) (r : Res) (w : World) (hk : k.Ok) (hl : s.now.length = k.words) (h : headOk (n : Int) b) (ha : s.nw k.act = (a : Int)) (hu : s.nw (k.act + 1) = (u : Int)) (ha1 : a ≤ 1) (hfit : u + (n + 1) ≤ k.S) (hat : k.from_ a + u = at_)
    (hT : Stores G bs cap (allocOps k u n at_ (hw (n : Int) b)) J F) (hJ : J 0 r) (hh : r.holds w) (hd : ∀ w, r.holds w → Dev w d s) :
    Calls Try.prog 44 #[.pointer (some ⟨d.b, 0, none⟩), .agg k.cells, .agg #[.int .i64 (n : Int), .int .i64 b], .func (.func G) bs cap] w fun e w' => ∃ (err : Int) (r' : Res), Sep w r.blocks [r'] w' ∧ ((err = 0 ∧ e = .returned (.tuple #[.int .i64 (at_ : Int), .int .i64 0]) ∧ J (n + 2) r') ∨ (err ≠ 0 ∧ e = .returned (.tuple #[.int .i64 0, .int .i64 err]) ∧ ∃ i, i < n + 2 ∧ F err i r')) := by
  have HS := Lib.hid (Sep.one hh)
  have HD := Lib.hid hd
  have H := Lib.hid h
  have HK := Lib.hid hk
  have HT := Lib.hid hT
  have HJ := Lib.hid hJ
  have hn : n ≤ 64 := by unfold headOk at h; omega
  have hkS : k.S ≤ 4096 := hk.s1
  have hu1 : u ≤ k.S := by omega
  have hfw := Kfg.from_words hk (a := a) (by omega)
  have HPL := Lib.hid (place_is k a u u at_ · · hk (by omega) hat (by omega))
  have HB := Lib.hid (rread_any d s k a u · · hk hl ha hu ha1 hu1)
  have HPK := Lib.hid (hpack_any (n : Int) b · h)
  obtain ⟨hv, hhv⟩ : ∃ hv, hw (n : Int) b = hv := ⟨_, rfl⟩
  rw [hhv] at HT HPK
  clear h hd hk hl ha hu hT hJ hh hhv
  simp only [Kfg.cells, rbC] at *
  go_enter Try.func44, Try.ntmps44
  go_wp2_with fail
  replace HS := Lib.hid ((HS.out.new 30 #[.int .i64 (k.L : Int), .int .i64 (k.R : Int), .int .i64 (k.S : Int)]).new 51 #[.int .i64 (n : Int), .int .i64 b])
  rw [show (w.alloc (.cells #[.int .i64 (k.L : Int), .int .i64 (k.R : Int), .int .i64 (k.S : Int)] 30)).heap.size = w.heap.size + 1 by simp] at HS
  generalize (w.alloc _).alloc _ = w2 at *
  generalize w.heap.size = gc at *
  generalize gc + 1 = gh at *
  have h0 := (HS.out.blk 2 rfl).cell 0
  simp at h0
  have h1 := (HS.out.blk 2 rfl).cell 1
  simp at h1
  go_wp2_with fail
  refine (hcheck_yes (n : Int) b _ H.out).mono ?_
  rintro e w1 ⟨rfl, hk⟩
  replace HS := Lib.hid (HS.out.grow hk)
  clear hk
  have c0 := (HS.out.blk 1 rfl).cell 0
  simp at c0
  have c1 := (HS.out.blk 1 rfl).cell 1
  simp at c1
  have c2 := (HS.out.blk 1 rfl).cell 2
  simp at c2
  go_wp2_with fail
  refine (HB.out _ (HD.out _ (HS.out.all 0 _ rfl))).mono ?_
  rintro e w3 ⟨v, rfl, hkk, hrow, hnew⟩
  obtain ⟨RA, RC, hv⟩ := rowR_val hrow
  subst hv
  simp only [rbC]
  replace HS := Lib.hid (HS.out.grow hkk)
  clear hkk hrow hnew c0 c1 c2 h0 h1
  obtain ⟨RL, hRL⟩ : ∃ RL, (uw (rootsOf s k k.R)).length = RL := ⟨_, rfl⟩
  rw [hRL]
  clear hRL
  go_upto_region 7 with fail
  replace HS := Lib.hid (HS.out.new 33 #[.int .i64 (a : Int), .int .i64 (u : Int), .slice RA RL RC])
  generalize w3.alloc _ = w4 at *
  generalize w3.heap.size = gb at *
  have c2 : ∀ x : Ext w4, x.now.cell? ⟨gc, 2, none⟩ = some (.int .i64 (k.S : Int)) := fun x => x.cell (by simpa using (HS.out.blk 1 rfl).cell 2)
  have h0 : ∀ x : Ext w4, x.now.cell? ⟨gh, 0, none⟩ = some (.int .i64 (n : Int)) := fun x => x.cell (by simpa using (HS.out.blk 2 rfl).cell 0)
  have h1 : ∀ x : Ext w4, x.now.cell? ⟨gh, 1, none⟩ = some (.int .i64 b) := fun x => x.cell (by simpa using (HS.out.blk 2 rfl).cell 1)
  have b1 : ∀ x : Ext w4, x.now.cell? ⟨gb, 1, none⟩ = some (.int .i64 (u : Int)) := fun x => x.cell (by simpa using (HS.out.blk 3 rfl).cell 1)
  obtain ⟨q, hq⟩ : ∃ q : Nat, n + 1 = q := ⟨_, rfl⟩
  obtain ⟨p, hp⟩ : ∃ p : Nat, k.S - u = p := ⟨_, rfl⟩
  have hsub : IntKind.i64.wrap ((k.S : Int) - (u : Int)) = (p : Int) := by rw [IntWalk.i64_in _ (by omega)]; omega
  have hgt : decide ((q : Int) > (p : Int)) = false := by simp; omega
  have hgt2 : (p < q) = False := by simp; omega
  have hsz := fun w => hsize_eq (n : Int) b (q : Int) w (by omega) (by omega) (by omega)
  have HSZ := Lib.hid hsz
  have HQ := Lib.hid hq
  have hq65 : (q : Int) ≤ 65 := by omega
  have hup : (u : Int) + (q : Int) ≤ 4096 := by omega
  have hat2 : (at_ : Int) + (q : Int) ≤ 20000 := by omega
  clear hq hp hsz hat
  go_wp2_with fail
  refine wp_region_ext (by kernel_rfl) (by kernel_rfl) ?_
  repeat (go_big_quiet_step ((first | (go_at_call 20; with_reducible exact Calls.ext (HSZ.out _)))))
  refine wpQuiet_nil ?_
  rintro _ ⟨x, rfl⟩
  replace HS := Lib.hid (HS.out.grow x.keep)
  clear c2 h0 h1 b1 hsub
  have c0 := (HS.out.blk 1 rfl).cell 0
  simp at c0
  have c1 := (HS.out.blk 1 rfl).cell 1
  simp at c1
  have c2 := (HS.out.blk 1 rfl).cell 2
  simp at c2
  have b0 := (HS.out.blk 3 rfl).cell 0
  simp at b0
  have b1 := (HS.out.blk 3 rfl).cell 1
  simp at b1
  have b2 := (HS.out.blk 3 rfl).cell 2
  simp at b2
  go_wp2_with fail
  refine (HPL.out _ _).mono ?_
  rintro e w5 ⟨rfl, hkk⟩
  replace HS := Lib.hid (HS.out.grow hkk)
  clear hkk c0 c1 c2 b0 b1 b2 hgt hgt2 HPL
  obtain ⟨ua, hua⟩ : ∃ ua, k.act + 1 = ua := ⟨_, rfl⟩
  obtain ⟨us, hus⟩ : ∃ us, u + (n + 1) = us := ⟨_, rfl⟩
  have hkus := fun w => kused k w HK.out
  have ht0 := fun (hJ0 : J 0 r) => HT.out.step 0 _ (allocOps_zero k u n at_ hv) r hJ0
  rw [hua] at hkus ht0
  rw [hus] at ht0
  simp only at ht0
  have hadd : IntKind.i64.wrap ((u : Int) + (q : Int)) = (us : Int) := by have := HQ.out; rw [IntWalk.i64_in _ (by omega)]; omega
  have hcv : IntKind.u64.wrap (us : Int) = (us : Int) := by have := HQ.out; rw [IntKind.wrap_u64]; omega
  have HUA := Lib.hid hkus
  have HT0 := Lib.hid ht0
  clear hkus ht0 hua hus
  have c0 : ∀ x : Ext w5, x.now.cell? ⟨gc, 0, none⟩ = some (.int .i64 (k.L : Int)) := fun x => x.cell (by simpa using (HS.out.blk 1 rfl).cell 0)
  have c1 : ∀ x : Ext w5, x.now.cell? ⟨gc, 1, none⟩ = some (.int .i64 (k.R : Int)) := fun x => x.cell (by simpa using (HS.out.blk 1 rfl).cell 1)
  have c2 : ∀ x : Ext w5, x.now.cell? ⟨gc, 2, none⟩ = some (.int .i64 (k.S : Int)) := fun x => x.cell (by simpa using (HS.out.blk 1 rfl).cell 2)
  have h0 : ∀ x : Ext w5, x.now.cell? ⟨gh, 0, none⟩ = some (.int .i64 (n : Int)) := fun x => x.cell (by simpa using (HS.out.blk 2 rfl).cell 0)
  have h1 : ∀ x : Ext w5, x.now.cell? ⟨gh, 1, none⟩ = some (.int .i64 b) := fun x => x.cell (by simpa using (HS.out.blk 2 rfl).cell 1)
  have b1 : ∀ x : Ext w5, x.now.cell? ⟨gb, 1, none⟩ = some (.int .i64 (u : Int)) := fun x => x.cell (by simpa using (HS.out.blk 3 rfl).cell 1)
  go_wp2_with fail
  refine wp_region_ext_tail 9 (by kernel_rfl) (by kernel_rfl) ?_
  simp only [List.take_succ_cons, List.take_zero, List.drop_succ_cons, List.drop_zero]
  repeat (go_big_quiet_step ((first | (go_at_call 50; with_reducible exact Calls.ext (HUA.out _)) | (go_at_call 20; with_reducible exact Calls.ext (HSZ.out _)))))
  refine wpQuiet_nil ?_
  rintro _ ⟨x, rfl⟩
  replace HS := Lib.hid (HS.out.grow x.keep)
  clear c0 c1 c2 h0 h1 b1
  go_wp2_with fail
  rw [HT.out.enters, Oper.upon_enter]
  refine (HT0.out HJ.out _ (HS.out.all 0 _ rfl)).mono ?_
  rintro e w6 ⟨err, r1, rfl, hkk, hh, hb, hor⟩
  replace HS := Lib.hid (HS.out.step (i := 0) rfl hkk (r' := r1) hh hb)
  replace HS : Hid (Sep w r.blocks [r1, blkR gc 30 #[.int .i64 (k.L : Int), .int .i64 (k.R : Int), .int .i64 (k.S : Int)], blkR gh 51 #[.int .i64 (n : Int), .int .i64 b], blkR gb 33 #[.int .i64 (a : Int), .int .i64 (u : Int), .slice RA RL RC]] w6) := HS
  clear hkk hh hb HT0 HB HUA HD HJ
  rcases hor with ⟨rfl, hj⟩ | ⟨herr, hf⟩
  rotate_left
  · have HF := Lib.hid hf
    have d1 : (err != 0) = true := by simpa using herr
    have d2 : decide (err = 0) = false := by simpa using herr
    have d3 : (err == 0) = false := by simpa using herr
    have HE := Lib.hid herr
    clear hf herr
    go_wp2
    go_ret2
    exact ⟨err, r1, HS.out.take 1, .inr ⟨HE.out, rfl, 0, by omega, HF.out⟩⟩
  have HJ := Lib.hid hj
  clear hj
  have h0 := (HS.out.blk 2 rfl).cell 0
  simp at h0
  have h1 := (HS.out.blk 2 rfl).cell 1
  simp at h1
  go_wp2_with fail
  refine (HSZ.out _).mono ?_
  rintro e w7 ⟨rfl, hkk⟩
  replace HS := Lib.hid (HS.out.grow hkk)
  clear hkk h0 h1 HSZ
  go_wp2_with fail
  go_loopw [15, 16, 17, 60] (fun _ _ _ v' wr => ∃ (i : Nat) (r2 : Res), i ≤ q ∧ v' = .int .i64 (i : Int) ∧ J (i + 1) r2 ∧ Sep w r.blocks [r2, blkR gc 30 #[.int .i64 (k.L : Int), .int .i64 (k.R : Int), .int .i64 (k.S : Int)], blkR gh 51 #[.int .i64 (n : Int), .int .i64 b], blkR gb 33 #[.int .i64 (a : Int), .int .i64 (u : Int), .slice RA RL RC]] wr) (fun _ _ _ v' _ => q - (intOf v').toNat)
  case atStart => exact ⟨0, r1, by omega, rfl, HJ.out, HS.out⟩
  case round =>
    clear HS HJ
    obtain ⟨i, r2, hi, rfl, hj, hs⟩ := hrel
    have HS := Lib.hid hs
    have HJ := Lib.hid hj
    clear hs hj
    by_cases hlt : i < q
    · have hiI : (i : Int) < (q : Int) := by omega
      obtain ⟨m, hm⟩ : ∃ m, at_ + i = m := ⟨_, rfl⟩
      have hsum : IntKind.i64.wrap ((at_ : Int) + (i : Int)) = (m : Int) := by rw [IntWalk.i64_in _ (by omega)]; omega
      have hst := HT.out.step (i + 1) _ (allocOps_succ k u n at_ hv (by have := HQ.out; omega)) r2 HJ.out
      simp only at hst
      rw [hm] at hst
      by_cases hi0 : i = 0
      · subst hi0
        rw [if_pos rfl] at hst
        have hm2 : m = at_ := by omega
        subst hm2
        have HST := Lib.hid hst
        clear hst hm
        have h0 := (HS.out.blk 2 rfl).cell 0
        simp at h0
        have h1 := (HS.out.blk 2 rfl).cell 1
        simp at h1
        go_wp2_with fail
        refine (HPK.out _).mono ?_
        rintro e w8 ⟨rfl, hkk⟩
        replace HS := Lib.hid (HS.out.grow hkk)
        clear hkk h0 h1
        go_wp2_with fail
        rw [HT.out.enters, Oper.upon_enter]
        refine (HST.out _ (HS.out.all 0 _ rfl)).mono ?_
        rintro e w9 ⟨err, r3, rfl, hkk, hh, hb, hor⟩
        replace HS := Lib.hid (HS.out.step (i := 0) rfl hkk (r' := r3) hh hb)
        clear hkk hh hb HST
        rcases hor with ⟨rfl, hj⟩ | ⟨herr, hf⟩
        · have HJ2 := Lib.hid hj
          clear hj
          go_wp2
          exact ⟨⟨1, r3, by omega, by first | rfl | go_num | simp, HJ2.out, HS.out⟩, by simp [intOf]; omega⟩
        · have HF := Lib.hid hf
          have d1 : (err != 0) = true := by simpa using herr
          have d2 : decide (err = 0) = false := by simpa using herr
          have d3 : (err == 0) = false := by simpa using herr
          have HE := Lib.hid herr
          clear hf herr
          go_wp2
          go_ret2
          exact ⟨err, r3, HS.out.take 1, .inr ⟨HE.out, rfl, 0 + 1, by have := HQ.out; omega, HF.out⟩⟩
      · rw [if_neg hi0] at hst
        have HST := Lib.hid hst
        have e0 : decide ((i : Int) = 0) = false := by simp; omega
        have e0' : ((i : Int) == 0) = false := by simp; omega
        clear hst hm
        go_wp2_with fail
        rw [HT.out.enters, Oper.upon_enter]
        refine (HST.out _ (HS.out.all 0 _ rfl)).mono ?_
        rintro e w9 ⟨err, r3, rfl, hkk, hh, hb, hor⟩
        replace HS := Lib.hid (HS.out.step (i := 0) rfl hkk (r' := r3) hh hb)
        clear hkk hh hb HST
        rcases hor with ⟨rfl, hj⟩ | ⟨herr, hf⟩
        · have HJ2 := Lib.hid hj
          clear hj
          go_wp2
          exact ⟨⟨i + 1, r3, by omega, by first | rfl | go_num | simp, HJ2.out, HS.out⟩, by simp [intOf]; omega⟩
        · have HF := Lib.hid hf
          have d1 : (err != 0) = true := by simpa using herr
          have d2 : decide (err = 0) = false := by simpa using herr
          have d3 : (err == 0) = false := by simpa using herr
          have HE := Lib.hid herr
          clear hf herr
          go_wp2
          go_ret2
          exact ⟨err, r3, HS.out.take 1, .inr ⟨HE.out, rfl, i + 1, by have := HQ.out; omega, HF.out⟩⟩
    · have hiq : i = q := by omega
      subst hiq
      have hlt' : ¬ (i : Int) < (i : Int) := by omega
      go_wp2
      go_ret2
      have hj := HJ.out
      rw [← HQ.out] at hj
      exact ⟨0, r2, HS.out.take 1, .inl ⟨rfl, rfl, hj⟩⟩
end Go.Proofs.Ytbdomdmnjclpdaa
