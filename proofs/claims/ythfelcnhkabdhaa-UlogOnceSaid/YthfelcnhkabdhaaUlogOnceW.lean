/-
  UlogOnce: the walk.
-/
import Derived.Deep.CutRange
import Derived.Test.YthfelcnhkabdhaaUndoQ
import Derived.Test.YthfelcnhkabdhaaBehind
set_option linter.unusedSimpArgs false
set_option linter.unusedVariables false
namespace Go.Proofs.Ythfelcnhkabdhaa
open Go.RowKit Go.Shelf

theorem once_bits (k : Nat) (b : Int) (g : Nat) (w : World) (b0 : 0 ≤ b) (b1 : b ≤ 18446744073709551615) (hk : k ≤ 1099511627776) (hc : w.cell? ⟨g, 0, none⟩ = some (.int .u64 b)) :
    Calls Try.prog 38 #[.int .i64 k, .pointer (some ⟨g, 0, none⟩)] w fun e w' => e = .returned (.int .u8 (choiceOf b k)) ∧ w = w' := by
  have hch := choice_any b k w b0 b1 hk
  go_enter Try.func38, Try.ntmps38
  go_wp2_with fail
  refine (choice_any b k w b0 b1 hk).mono ?_
  rintro e w' ⟨rfl, rfl⟩
  go_wp2
  go_ret
  exact ⟨rfl, rfl⟩

set_option maxRecDepth 100000 in
set_option maxHeartbeats 2000000 in
theorem UlogOnce.core (l r s : Int) (v1 : Value) (al : List AV) (bt : Int) (w : World) (l0 : 0 ≤ l) (l1 : l ≤ 65535) (r0 : 0 ≤ r) (r1 : r ≤ 65535) (s0 : 0 ≤ s) (s1 : s ≤ 65535) (hm : RdA w v1 al) (hok : ∀ x ∈ al, x.Ok) (hml : al.length ≤ maxLen) (t0 : 0 ≤ bt) (t1 : bt ≤ 18446744073709551615) :
    Calls Try.prog 8 #[.agg #[.int .u16 l, .int .u16 r, .int .u16 s], v1, .int .u64 bt] w fun e w' => e = .returned (.bool true) ∧ Keep w.heap.size [] w w' := by
  have hmf : ∀ (fn : Fn) (first cap : Array Value) (w : World), (Instr.makeFunc fn first cap).run Try.prog w = .ok (.func fn first cap) w := fun _ _ _ _ => rfl
  simp only [maxLen] at hml
  have HM := Lib.hid hm
  have HOK := Lib.hid hok
  obtain ⟨A1, c1, rfl, hrs⟩ := hm
  have hs0 := ((Sep.start w []).new 24 #[.int .u16 l, .int .u16 r, .int .u16 s]).new 25 #[.int .u64 bt]
  simp only [World.size_alloc] at hs0
  have HS := Lib.hid hs0
  clear hrs hok hs0
  by_cases hb1 : 20 < al.length
  · have hbI : (20 : Int) < al.length := by omega
    go_enter Try.func8, Try.ntmps8
    go_wp2_with fail
    generalize (w.alloc _).alloc _ = w2 at *
    refine (awake6_any _).mono ?_
    rintro e w1 ⟨rfl, hk⟩
    replace HS := Lib.hid (HS.out.grow hk)
    clear hk
    go_wp2
    go_ret
    exact ⟨rfl, HS.out.keep⟩
  have hx2 : ((20 : Int) < al.length) = False := by rw [eq_iff_iff, iff_false]; omega
  have hx3 : (20 < al.length) = False := by rw [eq_iff_iff, iff_false]; omega
  go_enter Try.func8, Try.ntmps8
  go_wp2_with fail
  generalize (w.alloc _).alloc _ = w2 at *
  generalize w.heap.size = gx at *
  refine (awake6_any _).mono ?_
  rintro e w1 ⟨rfl, hk⟩
  replace HS := Lib.hid (HS.out.grow hk)
  clear hk
  have c0 := (HS.out.blk 0 rfl).cell 0
  simp at c0
  have c1 := (HS.out.blk 0 rfl).cell 1
  simp at c1
  have c2 := (HS.out.blk 0 rfl).cell 2
  simp at c2
  go_wp2_with fail
  refine (kmake l r s _ l0 l1 r0 r1 s0 s1).mono ?_
  rintro e w3 ⟨k, hk, hL, hR, hS, rfl, hkk⟩
  simp only [Kfg.cells]
  replace HS := Lib.hid ((HS.out.grow hkk).new 30 #[.int .i64 (k.L : Int), .int .i64 (k.R : Int), .int .i64 (k.S : Int)])
  have HK := Lib.hid hk
  clear hkk hk c0 c1 c2
  go_wp2_with fail
  generalize w3.alloc _ = w4 at *
  generalize w3.heap.size = gk at *
  refine (formatted_any k _ [] _ HK.out (rd_nil6 _ 0) (by decide)).mono ?_
  rintro e w5 ⟨d, rfl, hdb, hd, hkk⟩
  obtain ⟨s5, hs5⟩ : ∃ s5, s5 = (St.fresh (-1) 0 (fill [] k.words)).run (fmtOps k) := ⟨_, rfl⟩
  rw [← hs5] at hd
  have hI : s5.Is k.words := by rw [hs5]; exact (fresh_fill [] k).run _
  have hA : AllS s5 k := by rw [hs5]; exact all_of HK.out (fresh_fill [] k)
  have hl5 : s5.l < 0 := by rw [hs5, St.run_l]; show (-1 : Int) < 0; decide
  replace HS := Lib.hid (HS.out.add hkk (r := devR d s5) hd hdb)
  have HI := Lib.hid hI
  have HA := Lib.hid hA
  have HW := Lib.hid hA.whole
  have HL := Lib.hid hl5
  have HE := Lib.hid hs5
  clear hdb hd hkk hs5 hI hA hl5
  obtain ⟨og, hog⟩ : ∃ og, s5.nw = og := ⟨_, rfl⟩
  have hP0 : P1 s5 k og 0 (fun _ => 0) (fun _ => 0) := by rw [← hog]; exact AllS.start HK.out HA.out HE.out _ _
  have HP0 := Lib.hid hP0
  have HPA0 := Lib.hid (AllS.startA HK.out HA.out HE.out (fun _ => 0))
  clear hog hP0
  have c0 := (HS.out.blk 2 rfl).cell 0
  simp at c0
  have c1 := (HS.out.blk 2 rfl).cell 1
  simp at c1
  have c2 := (HS.out.blk 2 rfl).cell 2
  simp at c2
  go_wp2_with fail
  refine (open_any d s5 k 1 0 _ (HS.out.dev 3 rfl) HK.out (by rw [HW.out.w8]; decide) (by rw [HW.out.w8]; decide) (AllS.log HK.out HW.out)).mono ?_
  rintro e w6 ⟨gl, rfl, hgn, hb, hkk⟩
  replace HS := Lib.hid (HS.out.add hkk (r := blkR gl 79 (logC d k 1 0)) hb (by intro y hy; simp [blkR] at hy; subst hy; exact hgn))
  clear hb hkk hgn c0 c1 c2
  have hgd : gl ∉ d.blocks := HS.out.apart 4 3 _ _ (by decide) rfl rfl gl (by simp [blkR])
  have HGD := Lib.hid hgd
  clear hgd
  go_wp2_with fail
  go_loopw [34] (fun v' wr => ∃ (j n : Nat) (p : Nat → Nat) (v : Nat → Int) (s' : St), j ≤ al.length ∧ v' = .int .i64 (j : Int) ∧ (P1 s' k og n p v ∧ s'.Is k.words ∧ s'.l < 0) ∧ PA s' k n p ∧ Sep w [] [blkR gx 24 #[.int .u16 l, .int .u16 r, .int .u16 s], blkR (gx + 1) 25 #[.int .u64 bt], blkR gk 30 #[.int .i64 (k.L : Int), .int .i64 (k.R : Int), .int .i64 (k.S : Int)], devR d s', blkR gl 79 (logC d k 1 n)] wr) (fun v' _ => al.length - (intOf v').toNat)
  case atStart => exact ⟨0, 0, _, _, s5, by omega, by simp, ⟨HP0.out, HI.out, HL.out⟩, HPA0.out, HS.out⟩
  case round =>
    clear HS HE HL HI HW HA HP0 HPA0
    obtain ⟨j, n, p, v, s', hj, rfl, hf, hpa, hs⟩ := hrel
    have HS := Lib.hid hs
    have HF := Lib.hid hf
    have HPA := Lib.hid hpa
    clear hs hf hpa
    have hkL : (k.L : Int) ≤ 200 := by have := HK.out.l1; omega
    have hnI : (n : Int) ≤ 200 := by have := HF.out.1.le; have := HK.out.l1; omega
    by_cases hlt : j < al.length
    · have hjI : (j : Int) < al.length := by omega
      obtain ⟨x, hx⟩ : ∃ x, al[j]? = some x := ⟨_, List.getElem?_eq_getElem hlt⟩
      obtain ⟨u0, u1, u2, u3⟩ := HOK.out x (List.mem_of_getElem? hx)
      obtain ⟨A', c', hA, hr⟩ := HM.out.keep HS.out.keep
      injection hA with e1 e2 e3
      subst e1
      obtain ⟨g, off, rfl, k0, k1⟩ := hr j x hx
      obtain ⟨at_, y⟩ := x
      simp only at k0 k1 u0 u1 u2 u3
      rw [show off + 2 * j = off + j * 2 by omega] at k0
      rw [show off + (2 * j + 1) = off + j * 2 + 1 by omega] at k1
      obtain ⟨a, rfl⟩ : ∃ a : Nat, at_ = (a : Int) := ⟨at_.toNat, by omega⟩
      have ha : a ≤ 65535 := by omega
      clear hx hr e2 e3
      obtain ⟨q, hp⟩ : ∃ q, k.place a = q := ⟨_, rfl⟩
      obtain ⟨hpl1, hpl2⟩ := Kfg.place_lt HK.out a
      rw [hp] at hpl1 hpl2
      have hpc : ∀ w : World, Calls Try.prog 24 #[.agg #[.int .u16 a, .int .u64 y], .agg #[.int .i64 (k.L : Int), .int .i64 (k.R : Int), .int .i64 (k.S : Int)]] w fun e w' => e = .returned (.int .i64 (q : Int)) ∧ Keep w.heap.size [] w w' := fun w => by rw [← hp]; exact place_any k a y w HK.out ha
      have HPC := Lib.hid hpc
      clear hp hpc
      go_upto_region 13 with fail
      replace HS := Lib.hid (HS.out.new 48 #[.int .u16 a, .int .u64 y])
      generalize wr.alloc _ = wa at *
      generalize wr.heap.size = ga at *
      have a0 := (HS.out.blk 5 rfl).cell 0
      simp at a0
      have a1 := (HS.out.blk 5 rfl).cell 1
      simp at a1
      have c0 := (HS.out.blk 2 rfl).cell 0
      simp at c0
      have c1 := (HS.out.blk 2 rfl).cell 1
      simp at c1
      have c2 := (HS.out.blk 2 rfl).cell 2
      simp at c2
      go_wp2_with fail
      refine (HPC.out _).mono ?_
      rintro e w1 ⟨rfl, hk⟩
      replace HS := Lib.hid (HS.out.grow hk)
      clear hk
      clear a0 a1 c0 c1 c2 k0 k1
      by_cases hnL : n < k.L
      · obtain ⟨z, hy⟩ : ∃ z, s'.nw q = z := ⟨_, rfl⟩
        have hval : (s'.store (16 + 4 * n + 1) (q : Int)).nw q = z := by
          rw [St.nw_store HF.out.2.1 (by have := k.act_le; omega), if_neg (by have := k.act_le; omega)]; exact hy
        have hP1 := HF.out.1.app HK.out HF.out.2.1 hnL ⟨hpl1, hpl2⟩ hy
        have hI1 : (s'.run (appOps 1 n q z)).Is k.words := HF.out.2.1.run _
        have hP2 := hP1.store HK.out hI1 (i := n) (by omega) y
        have hA2 := (HPA.out.app HK.out HF.out.2.1 HF.out.1 hnL ⟨hpl1, hpl2⟩ hy).store HK.out hI1 hP1 (i := n) (by omega) y
        rw [show upd p n q n = q from if_pos rfl] at hP2 hA2
        have HA2 := Lib.hid hA2
        have hl1 : (s'.run (appOps 1 n q z)).l < 0 := by rw [St.run_l]; exact HF.out.2.2
        have hI2 := hI1.store q y
        have hl2 : ((s'.run (appOps 1 n q z)).store q y).l < 0 := hl1
        have HP2 := Lib.hid hP2
        have HI1 := Lib.hid hI1
        have HI2 := Lib.hid hI2
        have HL1 := Lib.hid hl1
        have HL2 := Lib.hid hl2
        have HV := Lib.hid hval
        clear hy hval hP1 hP2 hA2 hI1 hI2 hl1 hl2
        go_wp2_with fail
        refine (append_any d s' k 1 z n q gl _ (HS.out.dev 3 rfl) (HS.out.blk 4 rfl) HGD.out HK.out HF.out.2.1.now (by decide) (by decide) hnL hpl2 HV.out).mono ?_
        rintro e w1 hp
        obtain ⟨rfl, hd, hb, hkp⟩ := hp.free (HF.out.2.2)
        replace HS := Lib.hid (HS.out.step2 (i := 3) (j := 4) (by decide) rfl rfl hkp (r' := devR d (s'.run (appOps 1 n q z))) (q' := blkR gl 79 (logC d k 1 (n + 1))) hd hb (fun _ h => h) (fun _ h => h))
        clear hp hd hb hkp
        go_wp2_with fail
        have a0 : ∀ x : Ext w1, x.now.cell? ⟨ga, 0, none⟩ = some (.int .u16 (a : Int)) := fun x => x.cell (by simpa using (HS.out.blk 5 rfl).cell 0)
        have a1 : ∀ x : Ext w1, x.now.cell? ⟨ga, 1, none⟩ = some (.int .u64 y) := fun x => x.cell (by simpa using (HS.out.blk 5 rfl).cell 1)
        have c0 : ∀ x : Ext w1, x.now.cell? ⟨gk, 0, none⟩ = some (.int .i64 (k.L : Int)) := fun x => x.cell (by simpa using (HS.out.blk 2 rfl).cell 0)
        have c1 : ∀ x : Ext w1, x.now.cell? ⟨gk, 1, none⟩ = some (.int .i64 (k.R : Int)) := fun x => x.cell (by simpa using (HS.out.blk 2 rfl).cell 1)
        have c2 : ∀ x : Ext w1, x.now.cell? ⟨gk, 2, none⟩ = some (.int .i64 (k.S : Int)) := fun x => x.cell (by simpa using (HS.out.blk 2 rfl).cell 2)
        refine wp_region_ext_tail 6 (by kernel_rfl) (by kernel_rfl) ?_
        simp only [List.take_succ_cons, List.take_zero, List.drop_succ_cons, List.drop_zero]
        repeat (go_big_quiet_step ((first | (go_at_call 24; with_reducible exact Calls.ext (HPC.out _)))))
        refine wpQuiet_nil ?_
        rintro _ ⟨x, rfl⟩
        replace HS := Lib.hid (HS.out.grow x.keep)
        clear a0 a1 c0 c1 c2
        go_wp2_with fail
        refine (store_free d _ q y _ (HS.out.dev 3 rfl) HL1.out (by rw [HI1.out.now]; exact hpl2)).mono ?_
        rintro e w1 ⟨rfl, hd, hk⟩
        replace HS := Lib.hid (HS.out.did (i := 3) rfl hd hk)
        clear hd hk
        go_wp2
        exact ⟨⟨j + 1, n + 1, _, _, _, by omega, by simp, ⟨HP2.out, HI2.out, HL2.out⟩, HA2.out, HS.out.take 5⟩, by simp [intOf]; omega⟩
      · go_wp2_with fail
        refine (append_full d s' k 1 (q : Int) n gl _ (HS.out.dev 3 rfl) (HS.out.blk 4 rfl) (by omega) (by rw [HF.out.2.1.now]; omega) (by have := HF.out.1.le; omega)).mono ?_
        rintro e w1 ⟨rfl, hk⟩
        replace HS := Lib.hid (HS.out.grow hk)
        clear hk
        go_wp2
        exact ⟨⟨j + 1, n, p, v, s', by omega, by simp, HF.out, HPA.out, HS.out.take 5⟩, by simp [intOf]; omega⟩
    · obtain rfl : j = al.length := by omega
      have hua := HPA.out.undo HK.out HF.out.2.1 HF.out.1
      have hul := HF.out.1.undo_log HK.out HF.out.2.1
      have hI2 : (s'.run (undoOps 1 p v n)).Is k.words := HF.out.2.1.run _
      have hl2 : (s'.run (undoOps 1 p v n)).l < 0 := by rw [St.run_l]; exact HF.out.2.2
      obtain ⟨ep, hep⟩ : ∃ ep, undoEp n = ep := ⟨_, rfl⟩
      have he0 : ep = 1 ∨ ep = 2 := by rw [← hep]; unfold undoEp; split <;> simp
      have huc := undo_cells (d := d) (k := k) n
      rw [hep] at hul huc
      go_wp2_with fail
      refine (undo_any d s' k 1 n gl p v _ (HS.out.dev 3 rfl) (HS.out.blk 4 rfl) HGD.out HK.out HF.out.2.1 (by decide) (by decide) HF.out.1.le HF.out.1.undo_pre).mono ?_
      rintro e w8 hp
      obtain ⟨rfl, hd, hb, hkp⟩ := hp.free HF.out.2.2
      rw [huc] at hb
      obtain ⟨t, ht⟩ : ∃ t, s'.run (undoOps 1 p v n) = t := ⟨_, rfl⟩
      rw [ht] at hd hua hul hI2 hl2
      replace HS := Lib.hid (HS.out.step2 (i := 3) (j := 4) (by decide) rfl rfl hkp (r' := devR d t) (q' := blkR gl 79 (logC d k ep 0)) hd hb (fun _ h => h) (fun _ h => h))
      have HUA := Lib.hid hua
      have HUL := Lib.hid hul
      have HI2 := Lib.hid hI2
      have HL2 := Lib.hid hl2
      clear hp hd hb hkp hua hul hI2 hl2 huc hep ht HF HPA
      have hep0 : 0 ≤ ep ∧ ep < 4294967296 := by omega
      obtain ⟨hep0, hep1⟩ := hep0
      clear he0
      go_wp2_with fail
      refine (words_any d t _ (HS.out.dev 3 rfl)).mono ?_
      rintro e w1 ⟨vw, gw, xw, rfl, hn⟩
      have vw_v := hn.val
      replace HS := Lib.hid (HS.out.add hn.keep (r := blkR gw _ _) hn.blk (by intro k hk; simp [blkR] at hk; subst hk; exact hn.new))
      clear hn
      go_wp2_with fail
      refine (undo_zero d t k ep gl _ (HS.out.dev 3 rfl) (HS.out.blk 4 rfl) HGD.out HK.out HI2.out hep0 hep1).mono ?_
      rintro e w1 ⟨rfl, hd, hb, hkp⟩
      replace HS := Lib.hid (HS.out.step2 (i := 3) (j := 4) (by decide) rfl rfl hkp (r' := devR d (t)) (q' := blkR gl 79 (logC d k ep 0)) hd hb (fun _ h => h) (fun _ h => h))
      clear hd hb hkp
      have c0 := (HS.out.blk 2 rfl).cell 0
      simp at c0
      have c1 := (HS.out.blk 2 rfl).cell 1
      simp at c1
      have c2 := (HS.out.blk 2 rfl).cell 2
      simp at c2
      go_wp2_with fail
      refine (open_any d t k ep 0 _ (HS.out.dev 3 rfl) HK.out (by rw [HUL.out.1]; omega) (by rw [HUL.out.1]; omega) HUL.out.2).mono ?_
      rintro e w6 ⟨gm, rfl, hgn, hb, hkk⟩
      replace HS := Lib.hid (HS.out.add hkk (r := blkR gm 79 (logC d k ep 0)) hb (by intro y hy; simp [blkR] at hy; subst hy; exact hgn))
      clear hb hkk hgn c0 c1 c2
      have hgm : gm ∉ d.blocks := HS.out.apart 6 3 _ _ (by decide) rfl rfl gm (by simp [blkR])
      have HGM := Lib.hid hgm
      clear hgm
      go_wp2_with fail
      refine (undo_zero d t k ep gm _ (HS.out.dev 3 rfl) (HS.out.blk 6 rfl) HGM.out HK.out HI2.out hep0 hep1).mono ?_
      rintro e w1 ⟨rfl, hd, hb, hkp⟩
      replace HS := Lib.hid (HS.out.step2 (i := 3) (j := 6) (by decide) rfl rfl hkp (r' := devR d (t)) (q' := blkR gm 79 (logC d k ep 0)) hd hb (fun _ h => h) (fun _ h => h))
      clear hd hb hkp
      go_wp2_with fail
      refine (crash_bits d t _ _ bt _ (HS.out.dev 3 rfl) (enters_of Try.func38 (by kernel_rfl) rfl) (HS.out.blk 1 rfl) (HS.out.gd 1 3 rfl rfl (by decide)) (fun k w h => once_bits k bt _ w t0 t1 h)).mono ?_
      rintro e w1 ⟨rfl, hd, hk⟩
      replace HS := Lib.hid (HS.out.did (i := 3) rfl hd hk)
      clear hd hk
      have hnow := crash_same HI2.out HUA.out (choiceOf bt)
      have HNOW := Lib.hid hnow
      clear hnow
      go_wp2_with fail
      refine (words_any d _ _ (HS.out.dev 3 rfl)).mono ?_
      rintro e w1 ⟨vx, gy, xx, rfl, hn⟩
      have vx_v := hn.val
      replace HS := Lib.hid (HS.out.add hn.keep (r := blkR gy _ _) hn.blk (by intro k hk; simp [blkR] at hk; subst hk; exact hn.new))
      clear hn
      rw [HNOW.out] at vx_v HS
      subst vx_v
      have hlen : t.now.length ≤ 1099511627776 := by rw [HI2.out.now]; have := Kfg.words_le HK.out; omega
      go_wp2_with fail
      refine (equal_any _ _ t.now t.now _ (Rd.of_blk (HS.out.blk 7 rfl)) (Rd.of_blk (HS.out.blk 5 rfl)) hlen).mono ?_
      rintro e w1 ⟨rfl, hk⟩
      replace HS := Lib.hid (HS.out.grow hk)
      clear hk
      rw [decide_eq_true (rfl : t.now = t.now)]
      go_wp2_with fail
      refine (log_epoch d k ep 0 gm _ (HS.out.blk 6 rfl)).mono ?_
      rintro e w' ⟨rfl, rfl⟩
      go_wp2_with fail
      refine (log_epoch d k ep 0 gl _ (HS.out.blk 4 rfl)).mono ?_
      rintro e w' ⟨rfl, rfl⟩
      go_wp2
      go_ret
      exact ⟨rfl, HS.out.keep⟩

theorem UlogOnce.walk {v1 : Value} {w : World} (l r s : Int) (h : (lowest .u16 ≤ l ∧ l ≤ greatest .u16) ∧ (lowest .u16 ≤ r ∧ r ≤ greatest .u16) ∧ (lowest .u16 ≤ s ∧ s ≤ greatest .u16)) (al : List AV) (hm : RdA w v1 al) (hok : ∀ x ∈ al, x.Ok) (hml : al.length ≤ maxLen) (bt : Int) (t0 : lowest .u64 ≤ bt) (t1 : bt ≤ greatest .u64) :
    Calls Try.prog 8 #[.agg #[.int .u16 l, .int .u16 r, .int .u16 s], v1, .int .u64 bt] w fun e w' => e = .returned (.bool true) ∧ Below w.heap.size w w' := by
  obtain ⟨⟨l0, l1⟩, ⟨r0, r1⟩, s0, s1⟩ := h
  simp [lowest, greatest] at l0 l1 r0 r1 s0 s1 t0 t1
  exact (UlogOnce.core l r s v1 al bt w l0 l1 r0 r1 s0 s1 hm hok hml t0 t1).mono fun e w' ⟨he, hk⟩ => ⟨he, hk.below⟩
end Go.Proofs.Ythfelcnhkabdhaa
