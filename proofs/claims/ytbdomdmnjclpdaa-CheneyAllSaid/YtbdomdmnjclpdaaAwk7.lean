/-
  tumuluslaw07.Awake.
-/
import Derived.Test.YtbdomdmnjclpdaaAwk6
import Derived.Test.YtbdomdmnjclpdaaSec
import Derived.Test.YtbdomdmnjclpdaaSt
set_option linter.unusedSimpArgs false
set_option linter.unusedVariables false
set_option maxRecDepth 100000
namespace Go.Proofs.Ytbdomdmnjclpdaa
open Go.RowKit Go.Shelf

set_option maxHeartbeats 4000000 in
theorem awake7_any (w : World) : Calls Try.prog 75 #[] w fun e w' => e = .returned (.bool true) ∧ Keep w.heap.size [] w w' := by
  have HS := Lib.hid (Sep.start w [])
  obtain ⟨k, hkd⟩ : ∃ k, k = Kfg.mk 3 1 8 := ⟨_, rfl⟩
  have hk : k.Ok := by rw [hkd]; exact k318_ok
  have HK := Lib.hid hk
  have hcf : Value.agg #[.int .i64 3, .int .i64 1, .int .i64 8] = .agg k.cells := by rw [hkd]; rfl
  have hw56 : k.words = 56 := by rw [hkd]; rfl
  have hact : k.act = 32 := by rw [hkd]; rfl
  have hkL : k.L = 3 := by rw [hkd]
  have hkR : k.R = 1 := by rw [hkd]
  have HCF := Lib.hid hcf
  have HW56 := Lib.hid hw56
  have HACT := Lib.hid hact
  have HKL := Lib.hid hkL
  have HKR := Lib.hid hkR
  clear hcf hw56 hkL hkd hk hact hkR
  go_enter Try.func75, Try.ntmps75
  go_wp2_with fail
  refine (awake6_any _).mono ?_
  rintro e w1 ⟨rfl, hk⟩
  replace HS := Lib.hid (HS.out.grow hk)
  clear hk
  go_wp2_with fail
  replace HS := Lib.hid (HS.out.new 30 #[.int .i64 3, .int .i64 1, .int .i64 8])
  generalize w1.alloc _ = w4 at *
  generalize w1.heap.size = gk at *
  have c0 := (HS.out.blk 0 rfl).cell 0
  simp at c0
  have c1 := (HS.out.blk 0 rfl).cell 1
  simp at c1
  have c2 := (HS.out.blk 0 rfl).cell 2
  simp at c2
  go_wp2_with fail
  rw [HCF.out]
  refine (formatted_any k _ [] _ HK.out (rd_nil6 _ 0) (by decide)).mono ?_
  rintro e w5 ⟨d, rfl, hdb, hd, hkk⟩
  obtain ⟨s5, hs5⟩ : ∃ s5, s5 = (St.fresh (-1) 0 (fill [] k.words)).run (fmtOps k) := ⟨_, rfl⟩
  rw [← hs5] at hd
  have hI : s5.Is k.words := by rw [hs5]; exact (fresh_fill [] k).run _
  have hA : AllS s5 k := by rw [hs5]; exact all_of HK.out (fresh_fill [] k)
  have hP := AllS.start HK.out hA hs5 (fun _ => 0) (fun _ => 0)
  have hl5 : s5.l < 0 := by rw [hs5, St.run_l]; show (-1 : Int) < 0; decide
  have h40 : s5.nw 40 = 0 := by
    have h := St.all_run (j := 40) (by rw [HW56.out]; decide) (fmtOps k) (fresh_fill [] k) (fresh_all (-1) 0 (fill [] k.words) 40) (fun o ho q x e => by
      have := fmt_free HK.out o ho q x e
      rw [HACT.out, HKR.out] at this
      exact ⟨by rw [HW56.out]; omega, by omega⟩)
    rw [← hs5] at h
    rw [h.1, HW56.out]
    rfl
  replace HS := Lib.hid (HS.out.add hkk (r := devR d s5) hd hdb)
  have HI := Lib.hid hI
  have HA := Lib.hid hA
  have HP := Lib.hid hP
  have HW := Lib.hid hA.whole
  have HL := Lib.hid hl5
  have H40 := Lib.hid h40
  clear hdb hd hkk hs5 hI hA hl5 hP h40 c0 c1 c2
  have c0 := (HS.out.blk 0 rfl).cell 0
  simp at c0
  have c1 := (HS.out.blk 0 rfl).cell 1
  simp at c1
  have c2 := (HS.out.blk 0 rfl).cell 2
  simp at c2
  go_wp2_with fail
  rw [HCF.out]
  refine (secnew_any d s5 k 1 0 _ (HS.out.dev 1 rfl) HK.out (by rw [HW.out.w8]; decide) (by rw [HW.out.w8]; decide) (AllS.log HK.out HW.out)).mono ?_
  rintro e w6 ⟨g, gl, rfl, hg1, hg2, hne, hbl, hbs, hkk⟩
  replace HS := Lib.hid (HS.out.grow_news hkk [blkR gl 148 (logC d k 1 0), blkR g 139 (secC gl d k false 0 0 none none)]
    (by intro q hq; simp at hq; rcases hq with rfl | rfl; exact ⟨hbl, by simp [blkR]; exact hg2⟩; exact ⟨hbs, by simp [blkR]; exact hg1⟩) (by simp [blkR]; exact fun e => hne e.symm))
  clear hkk hbl hbs hg1 hg2 hne c0 c1 c2
  have c0 := (HS.out.blk 3 rfl).cell 0
  simp at c0
  go_wp2_with fail
  refine (secbegin_any d k gl g _ (HS.out.blk 3 rfl)).mono ?_
  rintro e w7 ⟨ms, md, rfl, hm1, hm2, hne, hi1, hi2, hbs, hkk⟩
  replace HS := Lib.hid (HS.out.step_news (i := 3) rfl hkk (r' := blkR g 139 (secC gl d k true 0 0 (some ms) (some md))) hbs (fun _ h => h) [mapR ms (fun _ => none), mapR md (fun _ => none)]
    (by intro q hq; simp at hq; rcases hq with rfl | rfl; exact ⟨hi1, by simp [mapR]; exact hm1⟩; exact ⟨hi2, by simp [mapR]; exact hm2⟩) (by simp [mapR]; exact hne))
  clear hkk hbs hi1 hi2 hm1 hm2 hne c0
  have h40 : ((40 : Nat) : Int) = 40 := rfl
  have hst := secstore_any d s5 k 0 40 5 gl g ms md _ w [] w7 HS.out HK.out HL.out HI.out (by rw [HKL.out]; decide) (by rw [HACT.out, HW56.out]; decide)
  rw [h40] at hst
  go_wp2_with fail
  refine hst.mono ?_
  rintro e w8 ⟨rfl, m, m', hS⟩
  replace HS := Lib.hid hS
  clear hst hS h40
  rw [H40.out] at HS
  have h1 : P1 (s5.run (appOps 1 0 40 0)) k s5.nw (0 + 1) (upd (fun _ => (0 : Nat)) 0 40) (upd (fun _ => (0 : Int)) 0 0) := HP.out.app HK.out HI.out (by rw [HKL.out]; decide) (by rw [HACT.out, HW56.out]; decide) H40.out
  have h2 : P1 ((s5.run (appOps 1 0 40 0)).store 40 5) k s5.nw (0 + 1) (upd (fun _ => (0 : Nat)) 0 40) (upd (fun _ => (0 : Int)) 0 0) := h1.store HK.out (HI.out.run _) (i := 0) (by decide) 5
  have h3 : ((s5.run (appOps 1 0 40 0)).store 40 5).Is k.words := (HI.out.run _).store _ _
  have h4 : ((s5.run (appOps 1 0 40 0)).store 40 5).nw 40 = 5 := by rw [St.nw_store (HI.out.run _) (by rw [HW56.out]; decide), if_pos rfl]
  have h5 : ((s5.run (appOps 1 0 40 0)).store 40 5).l < 0 := by show (s5.run (appOps 1 0 40 0)).l < 0; rw [St.run_l]; exact HL.out
  have h6 : (((s5.run (appOps 1 0 40 0)).store 40 5).run (undoOps 1 (upd (fun _ => (0 : Nat)) 0 40) (upd (fun _ => (0 : Int)) 0 0) 1)).nw 40 = 0 := by
    have := (h2.undo_all HK.out h3 40 (by rw [HACT.out]; decide) (by rw [HW56.out]; decide)).1
    rw [H40.out] at this
    exact this
  have h7 := h2.undo_pre
  generalize upd (fun _ => (0 : Nat)) 0 40 = pp at *
  generalize upd (fun _ => (0 : Int)) 0 0 = vv at *
  generalize (s5.run (appOps 1 0 40 0)).store 40 5 = t at *
  generalize hu : t.run (undoOps 1 pp vv 1) = u at h6
  have H3 := Lib.hid h3
  have H4 := Lib.hid h4
  have H5 := Lib.hid h5
  have H6 := Lib.hid h6
  have H7 := Lib.hid h7
  have HU := Lib.hid hu
  clear h1 h2 h3 h4 h5 h6 h7 hu
  go_wp2_with fail
  refine (load_is d t 40 5 _ (HS.out.dev 1 rfl) H4.out).mono ?_
  rintro e w' ⟨rfl, rfl⟩
  go_wp2_with fail
  refine (secabort_any d t k 1 pp vv gl g (some ms) (some md) _ w [] _ (HS.out.take 4) HK.out H5.out H3.out (by rw [HKL.out]; decide) H7.out).mono ?_
  rintro e w9 ⟨rfl, hS⟩
  rw [HU.out] at hS
  replace HS := Lib.hid hS
  clear hS
  go_wp2_with fail
  refine (load_is d u 40 0 _ (HS.out.dev 1 rfl) H6.out).mono ?_
  rintro e w' ⟨rfl, rfl⟩
  go_wp2_with fail
  refine (secopen_any d k false 0 0 (some ms) (some md) gl g _ (HS.out.blk 3 rfl)).mono ?_
  rintro e w' ⟨rfl, rfl⟩
  go_wp2
  go_ret
  exact ⟨rfl, HS.out.keep⟩
end Go.Proofs.Ytbdomdmnjclpdaa
