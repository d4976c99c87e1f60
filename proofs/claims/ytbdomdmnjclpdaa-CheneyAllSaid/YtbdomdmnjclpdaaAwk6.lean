/-
  tumuluslaw06.Awake.
-/
import Derived.Test.YtbdomdmnjclpdaaAwk5
import Derived.Test.YtbdomdmnjclpdaaApp
set_option linter.unusedSimpArgs false
set_option linter.unusedVariables false
set_option maxRecDepth 100000
namespace Go.Proofs.Ytbdomdmnjclpdaa
open Go.RowKit Go.Shelf

theorem rd_nil6 (w : World) (n : Nat) : Rd w (.slice none 0 n) (uw []) := ⟨none, n, rfl, fun h => by simp [uw] at h⟩

set_option maxRecDepth 100000 in
set_option maxHeartbeats 2000000 in
theorem records_fn (g : Nat) (w : World) : Calls Try.prog 85 #[.pointer (some ⟨g, 0, none⟩)] w fun e w' => ∃ b : Nat, e = .returned (.func (.func 92) #[] #[.pointer (some ⟨b, 0, none⟩)]) ∧ w.heap.size ≤ b ∧ Blk w' b 134 #[.pointer (some ⟨g, 0, none⟩)] ∧ Keep w.heap.size [] w w' := by
  have HS := Lib.hid (Sep.start w [])
  go_enter Try.func85, Try.ntmps85
  go_wp2
  go_ret
  exact ⟨w.heap.size, rfl, Nat.le_refl _, Blk.new _ _ _, (Keep.refl _ _ _).alloc (Nat.le_refl _) _⟩

set_option maxRecDepth 100000 in
set_option maxHeartbeats 2000000 in
theorem awake6_any (w : World) : Calls Try.prog 76 #[] w fun e w' => e = .returned (.bool true) ∧ Keep w.heap.size [] w w' := by
  have HS := Lib.hid (Sep.start w [])
  obtain ⟨k, hkd⟩ : ∃ k, k = Kfg.mk 3 1 8 := ⟨_, rfl⟩
  have hk : k.Ok := by rw [hkd]; exact k318_ok
  have HK := Lib.hid hk
  have hcf : Value.agg #[.int .i64 3, .int .i64 1, .int .i64 8] = .agg k.cells := by rw [hkd]; rfl
  have hw56 : k.words = 56 := by rw [hkd]; rfl
  have hkL : k.L = 3 := by rw [hkd]
  have HCF := Lib.hid hcf
  have HW56 := Lib.hid hw56
  have HKL := Lib.hid hkL
  clear hcf hw56 hkL hkd hk
  go_enter Try.func76, Try.ntmps76
  go_wp2_with fail
  refine (awake5_any _).mono ?_
  rintro e w1 ⟨rfl, hk⟩
  replace HS := Lib.hid (HS.out.grow hk)
  clear hk
  go_wp2_with fail
  replace HS := Lib.hid (HS.out.new 30 #[.int .i64 3, .int .i64 1, .int .i64 8])
  generalize w1.alloc _ = w4 at *
  generalize w1.heap.size = gk at *
  have c0 := (HS.out.blk 0 rfl).cell 0
  simp at c0
  have c1 := (HS.out.blk 0 rfl).cell 1
  simp at c1
  have c2 := (HS.out.blk 0 rfl).cell 2
  simp at c2
  go_wp2_with fail
  rw [HCF.out]
  refine (formatted_any k _ [] _ HK.out (rd_nil6 _ 0) (by decide)).mono ?_
  rintro e w5 ⟨d, rfl, hdb, hd, hkk⟩
  obtain ⟨s5, hs5⟩ : ∃ s5, s5 = (St.fresh (-1) 0 (fill [] k.words)).run (fmtOps k) := ⟨_, rfl⟩
  rw [← hs5] at hd
  have hI : s5.Is k.words := by rw [hs5]; exact (fresh_fill [] k).run _
  have hA : AllS s5 k := by rw [hs5]; exact all_of HK.out (fresh_fill [] k)
  have hl5 : s5.l < 0 := by rw [hs5, St.run_l]; show (-1 : Int) < 0; decide
  replace HS := Lib.hid (HS.out.add hkk (r := devR d s5) hd hdb)
  have HI := Lib.hid hI
  have HA := Lib.hid hA
  have HW := Lib.hid hA.whole
  have HL := Lib.hid hl5
  clear hdb hd hkk hs5 hI hA hl5 c0 c1 c2
  have c0 := (HS.out.blk 0 rfl).cell 0
  simp at c0
  have c1 := (HS.out.blk 0 rfl).cell 1
  simp at c1
  have c2 := (HS.out.blk 0 rfl).cell 2
  simp at c2
  go_wp2_with fail
  rw [HCF.out]
  refine (open_any d s5 k 1 0 _ (HS.out.dev 1 rfl) HK.out (by rw [HW.out.w8]; decide) (by rw [HW.out.w8]; decide) (AllS.log HK.out HW.out)).mono ?_
  rintro e w6 ⟨gl, rfl, hgn, hb, hkk⟩
  replace HS := Lib.hid (HS.out.add hkk (r := blkR gl 148 (logC d k 1 0)) hb (by intro y hy; simp [blkR] at hy; subst hy; exact hgn))
  clear hb hkk hgn
  have hgd : gl ∉ d.blocks := HS.out.apart 2 1 _ _ (by decide) rfl rfl gl (by simp [blkR])
  have HGD := Lib.hid hgd
  clear hgd c0 c1 c2
  go_wp2_with fail
  refine (append_any d s5 k 1 _ 0 40 gl _ (HS.out.dev 1 rfl) (HS.out.blk 2 rfl) HGD.out HK.out HI.out.now (by decide) (by decide) (by rw [HKL.out]; decide) (by rw [HW56.out]; decide) rfl).mono ?_
  rintro e w7 hp
  obtain ⟨rfl, hd, hb, hk⟩ := hp.free HL.out
  obtain ⟨v, hv⟩ : ∃ v, (s5.store (16 + 4 * 0 + 1) ((40 : Nat) : Int)).nw 40 = v := ⟨_, rfl⟩
  rw [hv] at hd
  have hx : s5.nw (16 + 4 * (0 + 1)) ≠ stampOf 1 (0 + 1) := by rw [(HA.out.recs 1 (by rw [HKL.out]; decide)).1]; decide
  have hlog : LogIs (s5.run (appOps 1 0 40 v)) k 1 1 := (AllS.log HK.out HW.out).app HK.out HI.out (by rw [HKL.out]; decide) (fun _ => hx)
  have h8 : (s5.run (appOps 1 0 40 v)).nw 8 = 1 := by rw [app_nw HK.out HI.out (by rw [HKL.out]; decide)]; simp [HW.out.w8]
  obtain ⟨s6, hs6⟩ : ∃ s6, s5.run (appOps 1 0 40 v) = s6 := ⟨_, rfl⟩
  rw [hs6] at hd hlog h8
  have HLOG := Lib.hid hlog
  have H8 := Lib.hid h8
  replace HS := Lib.hid (HS.out.step2 (i := 1) (j := 2) (by decide) rfl rfl hk (r' := devR d s6) (q' := blkR gl 148 (logC d k 1 1)) hd hb (fun _ h => h) (fun _ h => h))
  clear hp hd hb hk hv hx hlog h8 hs6
  go_wp2_with fail
  refine (records_fn gl _).mono ?_
  rintro e w8 ⟨b, rfl, _, _, hk⟩
  replace HS := Lib.hid (HS.out.grow hk)
  clear hk
  have hcmp : ∀ w, (Go.binOp .eql 143 (.func (.func 92) #[] #[.pointer (some ⟨b, 0, none⟩)]) .nilFunc).run Try.prog w = .ok (.bool false) w := fun w => rfl
  have c0 := (HS.out.blk 0 rfl).cell 0
  simp at c0
  have c1 := (HS.out.blk 0 rfl).cell 1
  simp at c1
  have c2 := (HS.out.blk 0 rfl).cell 2
  simp at c2
  go_wp2_with fail
  rw [HCF.out]
  refine (open_any d s6 k 1 1 _ (HS.out.dev 1 rfl) HK.out (by rw [H8.out]; decide) (by rw [H8.out]; decide) HLOG.out).mono ?_
  rintro e w9 ⟨gm, rfl, hgn, hb, hkk⟩
  replace HS := Lib.hid (HS.out.add hkk (r := blkR gm 148 (logC d k 1 1)) hb (by intro y hy; simp [blkR] at hy; subst hy; exact hgn))
  clear hb hkk hgn c0 c1 c2
  go_wp2_with fail
  refine (log_len d k 1 1 gm _ (HS.out.blk 3 rfl)).mono ?_
  rintro e w' ⟨rfl, rfl⟩
  go_wp2_with fail
  refine (log_epoch d k 1 1 gm _ (HS.out.blk 3 rfl)).mono ?_
  rintro e w' ⟨rfl, rfl⟩
  go_wp2
  go_ret
  exact ⟨rfl, HS.out.keep⟩
end Go.Proofs.Ytbdomdmnjclpdaa
