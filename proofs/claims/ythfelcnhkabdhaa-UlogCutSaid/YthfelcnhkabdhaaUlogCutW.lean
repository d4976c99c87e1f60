/-
  UlogCut: the walk.
-/
import Derived.Test.YthfelcnhkabdhaaUlogCutB
set_option linter.unusedSimpArgs false
set_option linter.unusedVariables false
namespace Go.Proofs.Ythfelcnhkabdhaa
open Go.RowKit Go.Shelf

theorem Rd.behind_cells {w : World} {g a n c : Nat} {xs : List Int} (h : ∀ j u, (uw xs)[j]? = some u → w.cell? ⟨g, j, none⟩ = some u) (hn : n = (xs.drop a).length) : Rd w (.slice (some ⟨g, a, none⟩) n c) (uw (xs.drop a)) := by
  subst hn
  refine ⟨some ⟨g, a, none⟩, c, by simp [uw], fun _ => ⟨g, a, rfl, fun j u hu => ?_⟩⟩
  refine h (a + j) u ?_
  rw [← hu]
  simp [uw, List.getElem?_map, List.getElem?_drop]

set_option maxRecDepth 100000 in
set_option maxHeartbeats 4000000 in
theorem UlogCut.core (l r s : Int) (v1 v2 : Value) (old : List Int) (al : List AV) (lm ag bt mr : Int) (w : World) (l0 : 0 ≤ l) (l1 : l ≤ 65535) (r0 : 0 ≤ r) (r1 : r ≤ 65535) (s0 : 0 ≤ s) (s1 : s ≤ 65535) (hv : Rd w v1 (uw old)) (hol : old.length ≤ maxLen) (hm : RdA w v2 al) (hok : ∀ x ∈ al, x.Ok) (hml : al.length ≤ maxLen) (m0 : 0 ≤ lm) (m1 : lm ≤ 65535) (g0 : 0 ≤ ag) (g1 : ag ≤ 65535) (t0 : 0 ≤ bt) (t1 : bt ≤ 18446744073709551615) (q0 : 0 ≤ mr) (q1 : mr ≤ 18446744073709551615) :
    Calls Try.prog 10 #[.agg #[.int .u16 l, .int .u16 r, .int .u16 s], v1, v2, .int .u16 lm, .int .u16 ag, .int .u64 bt, .int .u64 mr] w fun e w' => e = .returned (.bool true) ∧ Keep w.heap.size [] w w' := by
  have hmf : ∀ (fn : Fn) (first cap : Array Value) (w : World), (Instr.makeFunc fn first cap).run Try.prog w = .ok (.func fn first cap) w := fun _ _ _ _ => rfl
  simp only [maxLen] at hol hml
  have HV := Lib.hid hv
  have HM := Lib.hid hm
  have HOK := Lib.hid hok
  obtain ⟨A0, c0, rfl, hrd⟩ := hv.cellAt
  obtain ⟨A1, c1, rfl, hrs⟩ := hm
  have hs0 := ((((Sep.start w []).new 24 #[.int .u16 l, .int .u16 r, .int .u16 s]).new 55 #[.slice A1 al.length c1]).new 25 #[.int .u64 bt]).new 25 #[.int .u64 mr]
  simp only [World.size_alloc, Nat.add_assoc, Nat.reduceAdd] at hs0
  have HS := Lib.hid hs0
  clear hrd hrs hok hs0 hv
  by_cases hb1 : 20 < old.length
  · have hbI : (20 : Int) < old.length := by omega
    go_enter Try.func10, Try.ntmps10
    go_wp2_with fail
    generalize (((w.alloc _).alloc _).alloc _).alloc _ = w2 at *
    refine (awake6_any _).mono ?_
    rintro e w1 ⟨rfl, hk⟩
    replace HS := Lib.hid (HS.out.grow hk)
    clear hk
    go_wp2
    go_ret
    exact ⟨rfl, HS.out.keep⟩
  have hx2 : ((20 : Int) < old.length) = False := by rw [eq_iff_iff, iff_false]; omega
  have hx3 : (20 < old.length) = False := by rw [eq_iff_iff, iff_false]; omega
  by_cases hb2 : 20 < al.length
  · have hbI : (20 : Int) < al.length := by omega
    go_enter Try.func10, Try.ntmps10
    go_wp2_with fail
    generalize (((w.alloc _).alloc _).alloc _).alloc _ = w2 at *
    generalize w.heap.size = gx at *
    refine (awake6_any _).mono ?_
    rintro e w1 ⟨rfl, hk⟩
    replace HS := Lib.hid (HS.out.grow hk)
    clear hk
    have b1 := (HS.out.blk 1 rfl).cell 0
    simp at b1
    go_wp2
    go_ret
    exact ⟨rfl, HS.out.keep⟩
  have hx4 : ((20 : Int) < al.length) = False := by rw [eq_iff_iff, iff_false]; omega
  have hx5 : (20 < al.length) = False := by rw [eq_iff_iff, iff_false]; omega
  go_enter Try.func10, Try.ntmps10
  go_wp2_with fail
  generalize (((w.alloc _).alloc _).alloc _).alloc _ = w2 at *
  generalize w.heap.size = gx at *
  refine (awake6_any _).mono ?_
  rintro e w1 ⟨rfl, hk⟩
  replace HS := Lib.hid (HS.out.grow hk)
  clear hk
  have c0 := (HS.out.blk 0 rfl).cell 0
  simp at c0
  have c1 := (HS.out.blk 0 rfl).cell 1
  simp at c1
  have c2 := (HS.out.blk 0 rfl).cell 2
  simp at c2
  have b1 := (HS.out.blk 1 rfl).cell 0
  simp at b1
  go_wp2_with fail
  refine (kmake l r s _ l0 l1 r0 r1 s0 s1).mono ?_
  rintro e w3 ⟨k, hk, hL, hR, hS, rfl, hkk⟩
  simp only [Kfg.cells]
  replace HS := Lib.hid ((HS.out.grow hkk).new 30 #[.int .i64 (k.L : Int), .int .i64 (k.R : Int), .int .i64 (k.S : Int)])
  have HK := Lib.hid hk
  clear hkk hk c0 c1 c2 b1
  go_wp2_with fail
  generalize w3.alloc _ = w4 at *
  generalize w3.heap.size = gk at *
  refine (formatted_any k _ old _ HK.out (HV.out.keep HS.out.keep) (by omega)).mono ?_
  rintro e w5 ⟨d, rfl, hdb, hd, hkk⟩
  obtain ⟨s5, hs5⟩ : ∃ s5, s5 = (St.fresh (-1) 0 (fill old k.words)).run (fmtOps k) := ⟨_, rfl⟩
  rw [← hs5] at hd
  have hI : s5.Is k.words := by rw [hs5]; exact (fresh_fill old k).run _
  have hA : AllS s5 k := by rw [hs5]; exact all_of HK.out (fresh_fill old k)
  have hl5 : s5.l < 0 := by rw [hs5, St.run_l]; show (-1 : Int) < 0; decide
  replace HS := Lib.hid (HS.out.add hkk (r := devR d s5) hd hdb)
  have HI := Lib.hid hI
  have HA := Lib.hid hA
  have HW := Lib.hid hA.whole
  have HL := Lib.hid hl5
  have HE := Lib.hid hs5
  clear hdb hd hkk hs5 hI hA hl5
  obtain ⟨og, hog⟩ : ∃ og, s5.nw = og := ⟨_, rfl⟩
  have hP0 : P1 s5 k og 0 (fun _ => 0) (fun _ => 0) := by rw [← hog]; exact AllS.start HK.out HA.out HE.out _ _
  have HI5 := HI
  have HOG := Lib.hid hog
  have HP0 := Lib.hid hP0
  clear hog hP0
  go_upto_region 9 with fail
  replace HS := Lib.hid (HS.out.new 32 #[.pointer (some ⟨d.b, 0, none⟩)])
  generalize w5.alloc _ = w6 at *
  generalize w5.heap.size = gdv at *
  have b6 := (HS.out.blk 6 rfl).cell 0
  simp at b6
  have c0 := (HS.out.blk 4 rfl).cell 0
  simp at c0
  have c1 := (HS.out.blk 4 rfl).cell 1
  simp at c1
  have c2 := (HS.out.blk 4 rfl).cell 2
  simp at c2
  go_wp2_with fail
  refine (behind_any d s5 k _ (HS.out.dev 5 rfl) HK.out HI.out.now).mono ?_
  rintro e w7 ⟨gw, xb, cb, rfl, hblk, hnew, hkk⟩
  replace HS := Lib.hid (HS.out.add hkk (r := blkR gw 25 (uw s5.now ++ xb).toArray) hblk (by intro y hy; simp [blkR] at hy; subst hy; exact hnew))
  clear hblk hnew hkk c0 c1 c2 b6
  have b6 := (HS.out.blk 6 rfl).cell 0
  simp at b6
  have c0 := (HS.out.blk 4 rfl).cell 0
  simp at c0
  have c1 := (HS.out.blk 4 rfl).cell 1
  simp at c1
  have c2 := (HS.out.blk 4 rfl).cell 2
  simp at c2
  go_wp2_with fail
  refine (open_any d s5 k 1 0 _ (HS.out.dev 5 rfl) HK.out (by rw [HW.out.w8]; decide) (by rw [HW.out.w8]; decide) (AllS.log HK.out HW.out)).mono ?_
  rintro e w8 ⟨gl, rfl, hgn, hb, hkk⟩
  replace HS := Lib.hid (HS.out.add hkk (r := blkR gl 79 (logC d k 1 0)) hb (by intro y hy; simp [blkR] at hy; subst hy; exact hgn))
  clear hb hkk hgn c0 c1 c2 b6
  have hgd : gl ∉ d.blocks := HS.out.apart 8 5 _ _ (by decide) rfl rfl gl (by simp [blkR])
  have HGD := Lib.hid hgd
  clear hgd
  go_upto_region 11 with fail
  replace HS := Lib.hid (HS.out.new 40 #[.pointer (some ⟨gl, 0, none⟩)])
  generalize w8.alloc _ = w9 at *
  generalize w8.heap.size = gu at *
  obtain ⟨lq, hlq⟩ : ∃ lq, lm % 300 = lq := ⟨_, rfl⟩
  have hlq0 : 0 ≤ lq ∧ lq ≤ 299 := by omega
  obtain ⟨hlq0, hlq1⟩ := hlq0
  have hwl : IntKind.i64.wrap lq = lq := by rw [IntKind.wrap_i64]; omega
  have hlt : lm.tmod 300 = lm % 300 := Int.tmod_eq_emod_of_nonneg m0
  have b6 : ∀ x : Ext w9, x.now.cell? ⟨gdv, 0, none⟩ = some (.pointer (some ⟨d.b, 0, none⟩)) := fun x => x.cell (by simpa using (HS.out.blk 6 rfl).cell 0)
  refine wp_region_rel_tail 5 rfl (by kernel_rfl) (by kernel_rfl) (by kernel_rfl) (by kernel_rfl) ?_
  simp only [List.take_succ_cons, List.take_zero, List.drop_succ_cons, List.drop_zero]
  simp only [puts, Act.put, List.setIfInBounds_toArray, List.set_cons_succ, List.set_cons_zero, Nat.zero_add, Nat.reduceAdd]
  repeat (apply wpRel_is; (focus (intro u y K hK; simp only [sure, told, lay, Region.binds, List.getElem?_cons_zero, List.getElem?_cons_succ, List.getElem?_nil, if_true, Nat.reduceBEq, cond_true, cond_false]; intros; go_simp; simp only [yUpon]; with_reducible refine hK y (Keep.refl _ _ _))); simp only [List.nil_append, List.cons_append])
  refine wpRel_so (fun v w' => PowAt w9 v (lq) w') (fun v w1 w2 h hk => h.keep hk) ?_ ?_
  · intro u y K hK
    simp only [sure, told, lay, Region.binds, List.getElem?_cons_zero, List.getElem?_cons_succ, List.getElem?_nil, if_true, Nat.reduceBEq, cond_true, cond_false]
    intros
    go_simp
    simp only [yUpon]
    refine (pnew_any _ _).mono ?_
    rintro e w' ⟨rfl, hw⟩
    have hk : Keep y.now.heap.size [] y.now w' := by rw [hw]; exact (Keep.refl _ _ _).alloc (Nat.le_refl _) _
    exact hK _ ⟨w', y.keep.join hk y.keep.size (by simp)⟩ hk (PowAt.new y.keep.size hw)
  simp only [List.nil_append, List.cons_append]
  repeat (apply wpRel_is; (focus (intro u y K hK; simp only [sure, told, lay, Region.binds, List.getElem?_cons_zero, List.getElem?_cons_succ, List.getElem?_nil, if_true, Nat.reduceBEq, cond_true, cond_false]; intros; go_simp; simp only [yUpon]; with_reducible refine hK y (Keep.refl _ _ _))); simp only [List.nil_append, List.cons_append])
  refine wpRel_nil ?_
  intro u y h
  have h0 : u 0 = .pointer (some ⟨d.b, 0, none⟩) := h 0 _ rfl
  obtain ⟨gp, h4, hbp, hgpn⟩ : PowAt w9 (u 4) lq y.now := h 4 _ rfl
  replace HS := Lib.hid (HS.out.add y.keep (r := blkR gp 84 #[.int .i64 lq, .int .i64 0]) hbp (by intro q hq; simp [blkR] at hq; subst hq; exact hgpn))
  change wpList _ _ _ _ _ _
  simp only [h0, h4]
  clear h h0 h4 hbp hgpn b6
  have hgp : gp ∉ d.blocks := HS.out.apart 10 5 _ _ (by decide) rfl rfl gp (by simp [blkR])
  go_wp2_with fail
  refine (power_any d s5 gp lq _ (HS.out.dev 5 rfl) (HS.out.blk 10 rfl) hgp).mono ?_
  have hgl : gl ≠ gp := HS.out.ne 8 10 rfl rfl (by decide)
  rintro e wp ⟨rfl, hd, hkk⟩
  obtain ⟨d2, hd'⟩ : ∃ d', ({ d with p := gp } : DevI) = d' := ⟨_, rfl⟩
  have hdb : d2.b = d.b := by rw [← hd']
  have hsub : ∀ q ∈ d2.blocks, q ∈ d.blocks ∨ q ∈ [gp] := by
    intro q hq
    rw [← hd'] at hq
    simp only [DevI.blocks, List.mem_cons, List.not_mem_nil, or_false] at hq ⊢
    omega
  have hkd : ∀ q ∈ [d.b], q ∈ d.blocks ++ [gp] := by intro q hq; simp at hq; subst hq; simp [DevI.blocks]
  rw [hd'] at hd
  have hgd2 : gl ∉ d2.blocks := by
    have := HGD.out
    rw [← hd']
    simp only [DevI.blocks, List.mem_cons, List.not_mem_nil, or_false, not_or] at this ⊢
    exact ⟨this.1, hgl, this.2.2.1, this.2.2.2.1, this.2.2.2.2⟩
  obtain ⟨s6, hs6⟩ : ∃ s6, ({ s5 with l := lq, u := 0 } : St) = s6 := ⟨_, rfl⟩
  have hP6 : P1 s6 k og 0 (fun _ => 0) (fun _ => 0) := by rw [← hs6]; exact HP0.out.power HK.out _ _
  have hI6 : s6.Is k.words := by rw [← hs6]; exact ⟨HI.out.now, HI.out.kept⟩
  rw [hs6] at hd
  replace HS := Lib.hid (HS.out.merge (i := 5) (j := 10) (by decide) rfl rfl (hkk.sub fun q _ hq => hkd q hq) (r' := devR d2 s6) hd hsub)
  have hlc : ∀ e n, logC d k e n = logC d2 k e n := fun e n => by rw [← hd']
  rw [← hdb] at HS ⊢
  simp only [hlc] at HS
  have HGD2 := Lib.hid hgd2
  have HP6 := Lib.hid hP6
  have HI6 := Lib.hid hI6
  clear hd hkk hd' hdb hsub hkd hgp hgl hs6 hP6 hI6 hgd2 hlc hlq hwl hlt HE HL HW HA HGD HP0
  go_wp2_with fail
  have hrun : ∀ cap, cap = #[.pointer (some ⟨gx + 1, 0, none⟩), .pointer (some ⟨gu, 0, none⟩), .pointer (some ⟨gk, 0, none⟩), .pointer (some ⟨gdv, 0, none⟩)] → Calls Try.prog 34 #[.func (.func 41) #[] cap] wp fun e w' => ∃ (b : Bool) (a : St × Array Value), e = .returned (.bool b) ∧ CutOk a.1 k og ∧ Sep w [] ((cutT l r s (.slice A1 al.length c1) bt mr k gx gk gdv gw gl gu wp.heap.size (uw s5.now ++ xb).toArray d2 a.1 a.2).set 11 noR) w' := by
    rintro _ rfl
    refine (HS.out.run (α := St × Array Value) (β := St × Array Value) (PA := fun a => CutOk a.1 k og) (PB := fun a => CutOk a.1 k og) (LA := fun a => cutT l r s (.slice A1 al.length c1) bt mr k gx gk gdv gw gl gu wp.heap.size (uw s5.now ++ xb).toArray d2 a.1 a.2) (LB := fun a => cutT l r s (.slice A1 al.length c1) bt mr k gx gk gdv gw gl gu wp.heap.size (uw s5.now ++ xb).toArray d2 a.1 a.2) 11 rfl _ _ (enters_of Try.func41 (by kernel_rfl) rfl) (fun _ => rfl) (fun _ => rfl)
      (fun w0 h0 => cut1_body l r s _ bt mr k gx gk gdv gw gl gu _ _ d2 og s6 w w0 al HK.out HI6.out HP6.out HGD2.out HM.out HOK.out (by omega) h0)).mono ?_
    rintro e w6 (⟨rfl, a, h1, h2⟩ | ⟨rfl, a, h1, h2⟩)
    · exact ⟨true, a, rfl, h1, h2⟩
    · exact ⟨false, a, rfl, h1, h2⟩
  refine (hrun _ rfl).mono ?_
  clear hrun HS
  rintro e wq ⟨b, ⟨t, c⟩, rfl, hok, hs7⟩
  simp only [cutT] at hs7
  have HS : Hid (Sep w [] [blkR gx 24 #[.int .u16 l, .int .u16 r, .int .u16 s], blkR (gx + 1) 55 #[.slice A1 al.length c1], blkR (gx + 2) 25 #[.int .u64 bt], blkR (gx + 3) 25 #[.int .u64 mr], blkR gk 30 #[.int .i64 (k.L : Int), .int .i64 (k.R : Int), .int .i64 (k.S : Int)], devR d2 t, blkR gdv 32 #[.pointer (some ⟨d2.b, 0, none⟩)], blkR gw 25 (uw s5.now ++ xb).toArray, blkR gl 79 c, blkR gu 40 #[.pointer (some ⟨gl, 0, none⟩)]] wq) := Lib.hid (hs7.take 10)
  have HOK1 := Lib.hid hok
  clear hs7 hok
  have b6 := (HS.out.blk 6 rfl).cell 0
  simp at b6
  go_wp2_with fail
  refine (crash_bits d2 t _ _ bt _ (HS.out.dev 5 rfl) (enters_of Try.func42 (by kernel_rfl) rfl) (HS.out.blk 2 rfl) (HS.out.gd 2 5 rfl rfl (by decide)) (fun k w h => cut2_bits k bt _ w t0 t1 h)).mono ?_
  rintro e w1 ⟨rfl, hd, hk⟩
  replace HS := Lib.hid (HS.out.did (i := 5) rfl hd hk)
  clear hd hk
  have hPt2 := HOK1.out.2 (choiceOf bt)
  have hIt2 := HOK1.out.1.crash (choiceOf bt)
  obtain ⟨t2, ht2⟩ : ∃ t2, t.crash (choiceOf bt) = t2 := ⟨_, rfl⟩
  rw [ht2] at hPt2 hIt2 HS
  have HPt2 := Lib.hid hPt2
  have HIt2 := Lib.hid hIt2
  clear hPt2 hIt2 ht2 HOK1 b6 HP6 HI6
  go_upto_region 14 with fail
  obtain ⟨lq2, hlq⟩ : ∃ lq, ag % 60 = lq := ⟨_, rfl⟩
  have hlq0 : 0 ≤ lq2 ∧ lq2 ≤ 59 := by omega
  obtain ⟨hlq20, hlq21⟩ := hlq0
  have hwl : IntKind.i64.wrap lq2 = lq2 := by rw [IntKind.wrap_i64]; omega
  have hlt : ag.tmod 60 = ag % 60 := Int.tmod_eq_emod_of_nonneg g0
  have b6 : ∀ x : Ext w1, x.now.cell? ⟨gdv, 0, none⟩ = some (.pointer (some ⟨d2.b, 0, none⟩)) := fun x => x.cell (by simpa using (HS.out.blk 6 rfl).cell 0)
  refine wp_region_rel_tail 5 rfl (by kernel_rfl) (by kernel_rfl) (by kernel_rfl) (by kernel_rfl) ?_
  simp only [List.take_succ_cons, List.take_zero, List.drop_succ_cons, List.drop_zero]
  simp only [puts, Act.put, List.setIfInBounds_toArray, List.set_cons_succ, List.set_cons_zero, Nat.zero_add, Nat.reduceAdd]
  repeat (apply wpRel_is; (focus (intro u y K hK; simp only [sure, told, lay, Region.binds, List.getElem?_cons_zero, List.getElem?_cons_succ, List.getElem?_nil, if_true, Nat.reduceBEq, cond_true, cond_false]; intros; go_simp; simp only [yUpon]; with_reducible refine hK y (Keep.refl _ _ _))); simp only [List.nil_append, List.cons_append])
  refine wpRel_so (fun v w' => PowAt w1 v (lq2) w') (fun v w1 w2 h hk => h.keep hk) ?_ ?_
  · intro u y K hK
    simp only [sure, told, lay, Region.binds, List.getElem?_cons_zero, List.getElem?_cons_succ, List.getElem?_nil, if_true, Nat.reduceBEq, cond_true, cond_false]
    intros
    go_simp
    simp only [yUpon]
    refine (pnew_any _ _).mono ?_
    rintro e w' ⟨rfl, hw⟩
    have hk : Keep y.now.heap.size [] y.now w' := by rw [hw]; exact (Keep.refl _ _ _).alloc (Nat.le_refl _) _
    exact hK _ ⟨w', y.keep.join hk y.keep.size (by simp)⟩ hk (PowAt.new y.keep.size hw)
  simp only [List.nil_append, List.cons_append]
  repeat (apply wpRel_is; (focus (intro u y K hK; simp only [sure, told, lay, Region.binds, List.getElem?_cons_zero, List.getElem?_cons_succ, List.getElem?_nil, if_true, Nat.reduceBEq, cond_true, cond_false]; intros; go_simp; simp only [yUpon]; with_reducible refine hK y (Keep.refl _ _ _))); simp only [List.nil_append, List.cons_append])
  refine wpRel_nil ?_
  intro u y h
  have h0 : u 0 = .pointer (some ⟨d2.b, 0, none⟩) := h 0 _ rfl
  obtain ⟨gp, h4, hbp, hgpn⟩ : PowAt w1 (u 4) (lq2) y.now := h 4 _ rfl
  replace HS := Lib.hid (HS.out.add y.keep (r := blkR gp 84 #[.int .i64 (lq2), .int .i64 0]) hbp (by intro q hq; simp [blkR] at hq; subst hq; exact hgpn))
  change wpList _ _ _ _ _ _
  simp only [h0, h4]
  clear h h0 h4 hbp hgpn b6
  have hgp : gp ∉ d2.blocks := HS.out.apart 10 5 _ _ (by decide) rfl rfl gp (by simp [blkR])
  go_wp2_with fail
  refine (power_any d2 t2 gp (lq2) _ (HS.out.dev 5 rfl) (HS.out.blk 10 rfl) hgp).mono ?_
  rintro e wp ⟨rfl, hd, hkk⟩
  obtain ⟨d3, hd'⟩ : ∃ d', ({ d2 with p := gp } : DevI) = d' := ⟨_, rfl⟩
  have hdb : d3.b = d2.b := by rw [← hd']
  have hsub : ∀ q ∈ d3.blocks, q ∈ d2.blocks ∨ q ∈ [gp] := by
    intro q hq
    rw [← hd'] at hq
    simp only [DevI.blocks, List.mem_cons, List.not_mem_nil, or_false] at hq ⊢
    omega
  have hkd : ∀ q ∈ [d2.b], q ∈ d2.blocks ++ [gp] := by intro q hq; simp at hq; subst hq; simp [DevI.blocks]
  rw [hd'] at hd
  obtain ⟨t3, ht3⟩ : ∃ s6, ({ t2 with l := lq2, u := 0 } : St) = s6 := ⟨_, rfl⟩
  have hPt3 : (∃ n p v, P1 t3 k og n p v) ∨ P2 t3 k og := by rw [← ht3]; exact CutOk.power HK.out HPt2.out
  have hIt3 : t3.Is k.words := by rw [← ht3]; exact ⟨HIt2.out.now, HIt2.out.kept⟩
  have hlt3 : t3.l = lq2 := by rw [← ht3]
  rw [ht3] at hd
  replace HS := Lib.hid (HS.out.merge (i := 5) (j := 10) (by decide) rfl rfl (hkk.sub fun q _ hq => hkd q hq) (r' := devR d3 t3) hd hsub)
  rw [← hdb] at HS ⊢
  have HPt3 := Lib.hid hPt3
  have HIt3 := Lib.hid hIt3
  have HLt3 := Lib.hid hlt3
  clear hd hkk hd' hdb hsub hkd hgp ht3 hPt3 hIt3 hlt3
  clear hlq hwl hlt
  go_wp2_with fail
  have hrun : ∀ cap, cap = #[.pointer (some ⟨gdv, 0, none⟩), .pointer (some ⟨gk, 0, none⟩)] → Calls Try.prog 34 #[.func (.func 43) #[] cap] wp fun e w' => ∃ (b : Bool) (a : St × Array Value), e = .returned (.bool b) ∧ CutOk a.1 k og ∧ Sep w [] ((cutT l r s (.slice A1 al.length c1) bt mr k gx gk gdv gw gl gu wp.heap.size (uw s5.now ++ xb).toArray d3 a.1 a.2).set 11 noR) w' := by
    rintro _ rfl
    refine (HS.out.run (α := St × Array Value) (β := St × Array Value) (PA := fun a => CutOk a.1 k og) (PB := fun a => CutOk a.1 k og) (LA := fun a => cutT l r s (.slice A1 al.length c1) bt mr k gx gk gdv gw gl gu wp.heap.size (uw s5.now ++ xb).toArray d3 a.1 a.2) (LB := fun a => cutT l r s (.slice A1 al.length c1) bt mr k gx gk gdv gw gl gu wp.heap.size (uw s5.now ++ xb).toArray d3 a.1 a.2) 11 rfl _ _ (enters_of Try.func43 (by kernel_rfl) rfl) (fun _ => rfl) (fun _ => rfl)
      (fun w0 h0 => cut3_body l r s _ bt mr k gx gk gdv gw gl gu _ _ d3 og t3 c w w0 HK.out HIt3.out HPt3.out h0)).mono ?_
    rintro e w6 (⟨rfl, a, h1, h2⟩ | ⟨rfl, a, h1, h2⟩)
    · exact ⟨true, a, rfl, h1, h2⟩
    · exact ⟨false, a, rfl, h1, h2⟩
  refine (hrun _ rfl).mono ?_
  clear hrun HS
  rintro e wz ⟨b2, ⟨t4, c4⟩, rfl, hok, hs7⟩
  simp only [cutT] at hs7
  have HS : Hid (Sep w [] [blkR gx 24 #[.int .u16 l, .int .u16 r, .int .u16 s], blkR (gx + 1) 55 #[.slice A1 al.length c1], blkR (gx + 2) 25 #[.int .u64 bt], blkR (gx + 3) 25 #[.int .u64 mr], blkR gk 30 #[.int .i64 (k.L : Int), .int .i64 (k.R : Int), .int .i64 (k.S : Int)], devR d3 t4, blkR gdv 32 #[.pointer (some ⟨d3.b, 0, none⟩)], blkR gw 25 (uw s5.now ++ xb).toArray, blkR gl 79 c4, blkR gu 40 #[.pointer (some ⟨gl, 0, none⟩)]] wz) := Lib.hid (hs7.take 10)
  have HOK1 := Lib.hid hok
  clear hs7 hok
  have b6 := (HS.out.blk 6 rfl).cell 0
  simp at b6
  go_wp2_with fail
  refine (crash_bits d3 t4 _ _ mr _ (HS.out.dev 5 rfl) (enters_of Try.func44 (by kernel_rfl) rfl) (HS.out.blk 3 rfl) (HS.out.gd 3 5 rfl rfl (by decide)) (fun k w h => cut4_bits k mr _ w q0 q1 h)).mono ?_
  rintro e w1 ⟨rfl, hd, hk⟩
  replace HS := Lib.hid (HS.out.did (i := 5) rfl hd hk)
  clear hd hk
  have hPt5 := HOK1.out.2 (choiceOf mr)
  have hIt5 := HOK1.out.1.crash (choiceOf mr)
  obtain ⟨t5, ht5⟩ : ∃ t5, t4.crash (choiceOf mr) = t5 := ⟨_, rfl⟩
  rw [ht5] at hPt5 hIt5 HS
  have HPt5 := Lib.hid hPt5
  have HIt5 := Lib.hid hIt5
  clear hPt5 hIt5 ht5 HOK1 b6
  go_upto_region 17 with fail
  have b6 : ∀ x : Ext w1, x.now.cell? ⟨gdv, 0, none⟩ = some (.pointer (some ⟨d3.b, 0, none⟩)) := fun x => x.cell (by simpa using (HS.out.blk 6 rfl).cell 0)
  refine wp_region_rel_tail 2 rfl (by kernel_rfl) (by kernel_rfl) (by kernel_rfl) (by kernel_rfl) ?_
  simp only [List.take_succ_cons, List.take_zero, List.drop_succ_cons, List.drop_zero]
  simp only [puts, Act.put, List.setIfInBounds_toArray, List.set_cons_succ, List.set_cons_zero, Nat.zero_add, Nat.reduceAdd]
  repeat (apply wpRel_is; (focus (intro u y K hK; simp only [sure, told, lay, Region.binds, List.getElem?_cons_zero, List.getElem?_cons_succ, List.getElem?_nil, if_true, Nat.reduceBEq, cond_true, cond_false]; intros; go_simp; simp only [yUpon]; with_reducible refine hK y (Keep.refl _ _ _))); simp only [List.nil_append, List.cons_append])
  refine wpRel_so (fun v w' => PowAt w1 v (-1) w') (fun v w1 w2 h hk => h.keep hk) ?_ ?_
  · intro u y K hK
    simp only [sure, told, lay, Region.binds, List.getElem?_cons_zero, List.getElem?_cons_succ, List.getElem?_nil, if_true, Nat.reduceBEq, cond_true, cond_false]
    intros
    go_simp
    simp only [yUpon]
    refine (pnew_any _ _).mono ?_
    rintro e w' ⟨rfl, hw⟩
    have hk : Keep y.now.heap.size [] y.now w' := by rw [hw]; exact (Keep.refl _ _ _).alloc (Nat.le_refl _) _
    exact hK _ ⟨w', y.keep.join hk y.keep.size (by simp)⟩ hk (PowAt.new y.keep.size hw)
  simp only [List.nil_append, List.cons_append]
  repeat (apply wpRel_is; (focus (intro u y K hK; simp only [sure, told, lay, Region.binds, List.getElem?_cons_zero, List.getElem?_cons_succ, List.getElem?_nil, if_true, Nat.reduceBEq, cond_true, cond_false]; intros; go_simp; simp only [yUpon]; with_reducible refine hK y (Keep.refl _ _ _))); simp only [List.nil_append, List.cons_append])
  refine wpRel_nil ?_
  intro u y h
  have h0 : u 0 = .pointer (some ⟨d3.b, 0, none⟩) := h 0 _ rfl
  obtain ⟨gp, h4, hbp, hgpn⟩ : PowAt w1 (u 1) (-1) y.now := h 1 _ rfl
  replace HS := Lib.hid (HS.out.add y.keep (r := blkR gp 84 #[.int .i64 (-1), .int .i64 0]) hbp (by intro q hq; simp [blkR] at hq; subst hq; exact hgpn))
  change wpList _ _ _ _ _ _
  simp only [h0, h4]
  clear h h0 h4 hbp hgpn b6
  have hgp : gp ∉ d3.blocks := HS.out.apart 10 5 _ _ (by decide) rfl rfl gp (by simp [blkR])
  go_wp2_with fail
  refine (power_any d3 t5 gp (-1) _ (HS.out.dev 5 rfl) (HS.out.blk 10 rfl) hgp).mono ?_
  rintro e wp ⟨rfl, hd, hkk⟩
  obtain ⟨d4, hd'⟩ : ∃ d', ({ d3 with p := gp } : DevI) = d' := ⟨_, rfl⟩
  have hdb : d4.b = d3.b := by rw [← hd']
  have hsub : ∀ q ∈ d4.blocks, q ∈ d3.blocks ∨ q ∈ [gp] := by
    intro q hq
    rw [← hd'] at hq
    simp only [DevI.blocks, List.mem_cons, List.not_mem_nil, or_false] at hq ⊢
    omega
  have hkd : ∀ q ∈ [d3.b], q ∈ d3.blocks ++ [gp] := by intro q hq; simp at hq; subst hq; simp [DevI.blocks]
  rw [hd'] at hd
  obtain ⟨t6, ht6⟩ : ∃ s6, ({ t5 with l := -1, u := 0 } : St) = s6 := ⟨_, rfl⟩
  have hPt6 : (∃ n p v, P1 t6 k og n p v) ∨ P2 t6 k og := by rw [← ht6]; exact CutOk.power HK.out HPt5.out
  have hIt6 : t6.Is k.words := by rw [← ht6]; exact ⟨HIt5.out.now, HIt5.out.kept⟩
  have hlt6 : t6.l = -1 := by rw [← ht6]
  rw [ht6] at hd
  replace HS := Lib.hid (HS.out.merge (i := 5) (j := 10) (by decide) rfl rfl (hkk.sub fun q _ hq => hkd q hq) (r' := devR d4 t6) hd hsub)
  rw [← hdb] at HS ⊢
  have HPt6 := Lib.hid hPt6
  have HIt6 := Lib.hid hIt6
  have HLt6 := Lib.hid hlt6
  clear hd hkk hd' hdb hsub hkd hgp ht6 hPt6 hIt6 hlt6
  obtain ⟨ep, n, hcl⟩ := cutLog_of HPt6.out
  have HCL := Lib.hid hcl
  clear hcl
  have b6 := (HS.out.blk 6 rfl).cell 0
  simp at b6
  have c0 := (HS.out.blk 4 rfl).cell 0
  simp at c0
  have c1 := (HS.out.blk 4 rfl).cell 1
  simp at c1
  have c2 := (HS.out.blk 4 rfl).cell 2
  simp at c2
  go_wp2_with fail
  refine (open_any d4 t6 k ep n _ (HS.out.dev 5 rfl) HK.out (by rw [HCL.out.w8]; exact HCL.out.e0) (by rw [HCL.out.w8]; have := HCL.out.e1; omega) HCL.out.log).mono ?_
  rintro e w11 ⟨gm, rfl, hgn, hb, hkk⟩
  replace HS := Lib.hid (HS.out.add hkk (r := blkR gm 79 (logC d4 k ep n)) hb (by intro y hy; simp [blkR] at hy; subst hy; exact hgn))
  clear hb hkk hgn c0 c1 c2 b6
  have hgm : gm ∉ d4.blocks := HS.out.apart 11 5 _ _ (by decide) rfl rfl gm (by simp [blkR])
  have HGM := Lib.hid hgm
  clear hgm
  go_wp2_with fail
  refine (good_any d4 t6 k ep (-1) n gm _ (HS.out.dev 5 rfl) (HS.out.blk 11 rfl) HK.out HIt6.out.now HCL.out.log.le HCL.out.good).mono ?_
  rintro e w1 ⟨rfl, hk⟩
  replace HS := Lib.hid (HS.out.grow hk)
  clear hk
  go_wp2_with fail
  refine (undo_final d4 t6 k og ep n gm _ (HS.out.dev 5 rfl) (HS.out.blk 11 rfl) HGM.out HK.out HIt6.out (by rw [HLt6.out]; decide) HCL.out).mono ?_
  rintro e w12 ⟨rfl, t7, c7, hd, hb, hkp, hI7, hall⟩
  replace HS := Lib.hid (HS.out.step2 (i := 5) (j := 11) (by decide) rfl rfl hkp (r' := devR d4 t7) (q' := blkR gm 79 c7) hd hb (fun _ h => h) (fun _ h => h))
  have HI7 := Lib.hid hI7
  have hn1 : t7.now.drop k.act = s5.now.drop k.act := drop_ext HI5.out.now hI7.now fun j hj hjw => (hall j hj hjw).1.trans (by rw [← HOG.out]; rfl)
  have hn2 : t7.kept.drop k.act = s5.now.drop k.act := drop_ext HI5.out.now hI7.kept fun j hj hjw => (hall j hj hjw).2.2.trans (by rw [← HOG.out]; rfl)
  have hlen : (s5.now.drop k.act).length ≤ 1099511627776 := by rw [List.length_drop, HI5.out.now]; have := Kfg.words_le HK.out; omega
  clear hd hb hkp hI7 hall
  go_wp2_with fail
  have heq : ∀ (v' : Value) (y : Ext w12), Rd y.now v' (uw (s5.now.drop k.act)) → Calls Try.prog 26 #[v', .slice (some ⟨gw, k.act, none⟩) (s5.now.length - k.act) cb] y.now fun e w' => e = .returned (.bool true) ∧ Keep y.now.heap.size [] y.now w' := fun v' y hr => by
    have hb := (HS.out.grow y.keep).blk 7 rfl
    have := equal_any v' _ (s5.now.drop k.act) (s5.now.drop k.act) y.now hr (Rd.behind (c := cb) hb List.length_drop.symm) hlen
    rwa [decide_eq_true rfl] at this
  have HEQ := Lib.hid heq
  have HN1 := Lib.hid hn1
  have HN2 := Lib.hid hn2
  clear heq hn1 hn2 hlen
  have b6 : ∀ x : Ext w12, x.now.cell? ⟨gdv, 0, none⟩ = some (.pointer (some ⟨d4.b, 0, none⟩)) := fun x => x.cell (by simpa using (HS.out.blk 6 rfl).cell 0)
  have c0 : ∀ x : Ext w12, x.now.cell? ⟨gk, 0, none⟩ = some (.int .i64 (k.L : Int)) := fun x => x.cell (by simpa using (HS.out.blk 4 rfl).cell 0)
  have c1 : ∀ x : Ext w12, x.now.cell? ⟨gk, 1, none⟩ = some (.int .i64 (k.R : Int)) := fun x => x.cell (by simpa using (HS.out.blk 4 rfl).cell 1)
  have c2 : ∀ x : Ext w12, x.now.cell? ⟨gk, 2, none⟩ = some (.int .i64 (k.S : Int)) := fun x => x.cell (by simpa using (HS.out.blk 4 rfl).cell 2)
  refine wp_region_rel (by kernel_rfl) (by kernel_rfl) (by kernel_rfl) ?_
  simp only [puts, Act.put, List.setIfInBounds_toArray, List.set_cons_succ, List.set_cons_zero, Nat.zero_add, Nat.reduceAdd]
  repeat (apply wpRel_is; (focus (intro u y K hK; simp only [sure, told, lay, Region.binds, List.getElem?_cons_zero, List.getElem?_cons_succ, List.getElem?_nil, if_true, Nat.reduceBEq, cond_true, cond_false]; intros; go_simp; simp only [yUpon]; with_reducible refine hK y (Keep.refl _ _ _))); simp only [List.nil_append, List.cons_append])
  refine wpRel_so (fun v w' => Rd w' v (uw (s5.now.drop k.act))) (fun v w1 w2 h hk => h.keep hk) ?_ ?_
  · intro u y K hK
    simp only [sure, told, lay, Region.binds, List.getElem?_cons_zero, List.getElem?_cons_succ, List.getElem?_nil, if_true, Nat.reduceBEq, cond_true, cond_false]
    intros
    go_simp
    simp only [yUpon]
    refine (behind_any d4 t7 k _ ((HS.out.grow y.keep).dev 5 rfl) HK.out HI7.out.now).mono ?_
    rintro e w' ⟨gz, xz, cz, rfl, hblk, hnew, hk⟩
    exact hK _ ⟨w', y.keep.join hk y.keep.size (by simp)⟩ hk (by rw [← HN1.out]; exact Rd.behind hblk rfl)
  simp only [List.nil_append, List.cons_append]
  repeat (apply wpRel_is; (focus (intro u y K hK; simp only [sure, told, lay, Region.binds, List.getElem?_cons_zero, List.getElem?_cons_succ, List.getElem?_nil, if_true, Nat.reduceBEq, cond_true, cond_false]; intros; go_simp; simp only [yUpon]; with_reducible refine hK y (Keep.refl _ _ _))); simp only [List.nil_append, List.cons_append])
  apply wpRel_is
  · intro u y K hK
    simp only [sure, told, lay, Region.binds, List.getElem?_cons_zero, List.getElem?_cons_succ, List.getElem?_nil, if_true, Nat.reduceBEq, cond_true, cond_false]
    go_simp
    simp only [yUpon]
    intro hr
    intros
    refine (HEQ.out _ y hr).mono ?_
    rintro e w' ⟨rfl, hk⟩
    exact hK ⟨w', y.keep.join hk y.keep.size (by simp)⟩ hk
  simp only [List.nil_append, List.cons_append]
  repeat (apply wpRel_is; (focus (intro u y K hK; simp only [sure, told, lay, Region.binds, List.getElem?_cons_zero, List.getElem?_cons_succ, List.getElem?_nil, if_true, Nat.reduceBEq, cond_true, cond_false]; intros; go_simp; simp only [yUpon]; with_reducible refine hK y (Keep.refl _ _ _))); simp only [List.nil_append, List.cons_append])
  refine wpRel_so (fun v w' => RowAt w' v (uw t7.kept)) (fun v w1 w2 h hk => h.keep hk) ?_ ?_
  · intro u y K hK
    simp only [sure, told, lay, Region.binds, List.getElem?_cons_zero, List.getElem?_cons_succ, List.getElem?_nil, if_true, Nat.reduceBEq, cond_true, cond_false]
    intros
    go_simp
    simp only [yUpon]
    refine (kept_any d4 t7 _ ((HS.out.grow y.keep).dev 5 rfl)).mono ?_
    rintro e w' ⟨v, g, ex, rfl, hn⟩
    exact hK v ⟨w', y.keep.join hn.keep y.keep.size (by simp)⟩ hn.keep hn.at_
  simp only [List.nil_append, List.cons_append]
  repeat (apply wpRel_is; (focus (intro u y K hK; simp only [sure, told, lay, Region.binds, List.getElem?_cons_zero, List.getElem?_cons_succ, List.getElem?_nil, if_true, Nat.reduceBEq, cond_true, cond_false]; intros; go_simp; simp only [yUpon]; with_reducible refine hK y (Keep.refl _ _ _))); simp only [List.nil_append, List.cons_append])
  apply wpRel_is
  · intro u y K hK
    simp only [sure, told, lay, Region.binds, List.getElem?_cons_zero, List.getElem?_cons_succ, List.getElem?_nil, if_true, Nat.reduceBEq, cond_true, cond_false]
    intros
    go_simp
    simp only [yUpon]
    refine (kactive k _ HK.out).mono ?_
    rintro e w' ⟨rfl, hk⟩
    exact hK ⟨w', y.keep.join hk y.keep.size (by simp)⟩ hk
  simp only [List.nil_append, List.cons_append]
  repeat (apply wpRel_is; (focus (intro u y K hK; simp only [sure, told, lay, Region.binds, List.getElem?_cons_zero, List.getElem?_cons_succ, List.getElem?_nil, if_true, Nat.reduceBEq, cond_true, cond_false]; intros; go_simp; simp only [yUpon]; with_reducible refine hK y (Keep.refl _ _ _))); simp only [List.nil_append, List.cons_append])
  refine wpRel_so (fun v w' => Rd w' v (uw (s5.now.drop k.act))) (fun v w1 w2 h hk => h.keep hk) ?_ ?_
  · intro u y K hK
    simp only [sure, told, lay, Region.binds, List.getElem?_cons_zero, List.getElem?_cons_succ, List.getElem?_nil, if_true, Nat.reduceBEq, cond_true, cond_false]
    rintro ⟨g, m, he, hm, hc⟩
    rw [he]
    have hlk : (uw t7.kept).length = k.words := by rw [uw_length, HI7.out.kept]
    rw [hlk] at hm ⊢
    obtain ⟨hw1, hw2⟩ := Kfg.words_le HK.out
    have hne : (m = k.act) = False := by rw [eq_iff_iff, iff_false]; omega
    go_simp
    rw [if_pos (by omega)]
    simp only [yUpon]
    refine hK _ y (Keep.refl _ _ _) ?_
    rw [← HN2.out]
    exact Rd.behind_cells hc (by rw [List.length_drop, HI7.out.kept])
  simp only [List.nil_append, List.cons_append]
  repeat (apply wpRel_is; (focus (intro u y K hK; simp only [sure, told, lay, Region.binds, List.getElem?_cons_zero, List.getElem?_cons_succ, List.getElem?_nil, if_true, Nat.reduceBEq, cond_true, cond_false]; intros; go_simp; simp only [yUpon]; with_reducible refine hK y (Keep.refl _ _ _))); simp only [List.nil_append, List.cons_append])
  apply wpRel_is
  · intro u y K hK
    simp only [sure, told, lay, Region.binds, List.getElem?_cons_zero, List.getElem?_cons_succ, List.getElem?_nil, if_true, Nat.reduceBEq, cond_true, cond_false]
    go_simp
    simp only [yUpon]
    intro hr
    intros
    refine (HEQ.out _ y hr).mono ?_
    rintro e w' ⟨rfl, hk⟩
    exact hK ⟨w', y.keep.join hk y.keep.size (by simp)⟩ hk
  simp only [List.nil_append, List.cons_append]
  repeat (apply wpRel_is; (focus (intro u y K hK; simp only [sure, told, lay, Region.binds, List.getElem?_cons_zero, List.getElem?_cons_succ, List.getElem?_nil, if_true, Nat.reduceBEq, cond_true, cond_false]; intros; go_simp; simp only [yUpon]; with_reducible refine hK y (Keep.refl _ _ _))); simp only [List.nil_append, List.cons_append])
  refine wpRel_nil ?_
  intro u y h
  have hN : u 14 = .bool true := h 14 _ rfl
  have hk := y.keep
  have HY := Lib.hid hk
  clear h hk
  simp only [hN]
  go_wp2
  go_ret
  exact ⟨rfl, HS.out.keep.join HY.out (by have := HS.out.keep.size; omega) (by simp)⟩

theorem UlogCut.walk {v1 v2 : Value} {w : World} (l r s : Int) (h : (lowest .u16 ≤ l ∧ l ≤ greatest .u16) ∧ (lowest .u16 ≤ r ∧ r ≤ greatest .u16) ∧ (lowest .u16 ≤ s ∧ s ≤ greatest .u16)) (old : List Int) (hv : Rd w v1 (uw old)) (_ : ∀ x ∈ old, lowest .u64 ≤ x ∧ x ≤ greatest .u64) (hol : old.length ≤ maxLen) (al : List AV) (hm : RdA w v2 al) (hok : ∀ x ∈ al, x.Ok) (hml : al.length ≤ maxLen) (lm : Int) (m0 : lowest .u16 ≤ lm) (m1 : lm ≤ greatest .u16) (ag : Int) (g0 : lowest .u16 ≤ ag) (g1 : ag ≤ greatest .u16) (bt : Int) (t0 : lowest .u64 ≤ bt) (t1 : bt ≤ greatest .u64) (mr : Int) (q0 : lowest .u64 ≤ mr) (q1 : mr ≤ greatest .u64) :
    Calls Try.prog 10 #[.agg #[.int .u16 l, .int .u16 r, .int .u16 s], v1, v2, .int .u16 lm, .int .u16 ag, .int .u64 bt, .int .u64 mr] w fun e w' => e = .returned (.bool true) ∧ Below w.heap.size w w' := by
  obtain ⟨⟨l0, l1⟩, ⟨r0, r1⟩, s0, s1⟩ := h
  simp [lowest, greatest] at l0 l1 r0 r1 s0 s1 t0 t1 m0 m1 g0 g1 q0 q1
  exact (UlogCut.core l r s v1 v2 old al lm ag bt mr w l0 l1 r0 r1 s0 s1 hv hol hm hok hml m0 m1 g0 g1 t0 t1 q0 q1).mono fun e w' ⟨he, hk⟩ => ⟨he, hk.below⟩
end Go.Proofs.Ythfelcnhkabdhaa
