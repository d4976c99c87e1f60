/-
  UlogTruncates: the walk.
-/
import Derived.Deep.CutRange
import Derived.Test.YthfelcnhkabdhaaUndoQ
import Derived.Test.YthfelcnhkabdhaaBehind
set_option linter.unusedSimpArgs false
set_option linter.unusedVariables false
namespace Go.Proofs.Ythfelcnhkabdhaa
open Go.RowKit Go.Shelf

theorem trunc_bits (k : Nat) (b : Int) (g : Nat) (w : World) (b0 : 0 ≤ b) (b1 : b ≤ 18446744073709551615) (hk : k ≤ 1099511627776) (hc : w.cell? ⟨g, 0, none⟩ = some (.int .u64 b)) :
    Calls Try.prog 36 #[.int .i64 k, .pointer (some ⟨g, 0, none⟩)] w fun e w' => e = .returned (.int .u8 (choiceOf b k)) ∧ w = w' := by
  have hch := choice_any b k w b0 b1 hk
  go_enter Try.func36, Try.ntmps36
  go_wp2_with fail
  refine (choice_any b k w b0 b1 hk).mono ?_
  rintro e w' ⟨rfl, rfl⟩
  go_wp2
  go_ret
  exact ⟨rfl, rfl⟩

set_option maxRecDepth 100000 in
set_option maxHeartbeats 2000000 in
theorem UlogTruncates.core (l r s : Int) (v1 : Value) (al : List AV) (lm bt : Int) (w : World) (l0 : 0 ≤ l) (l1 : l ≤ 65535) (r0 : 0 ≤ r) (r1 : r ≤ 65535) (s0 : 0 ≤ s) (s1 : s ≤ 65535) (hm : RdA w v1 al) (hok : ∀ x ∈ al, x.Ok) (hml : al.length ≤ maxLen) (m0 : 0 ≤ lm) (m1 : lm ≤ 255) (t0 : 0 ≤ bt) (t1 : bt ≤ 18446744073709551615) :
    Calls Try.prog 7 #[.agg #[.int .u16 l, .int .u16 r, .int .u16 s], v1, .int .u8 lm, .int .u64 bt] w fun e w' => e = .returned (.bool true) ∧ Keep w.heap.size [] w w' := by
  have hmf : ∀ (fn : Fn) (first cap : Array Value) (w : World), (Instr.makeFunc fn first cap).run Try.prog w = .ok (.func fn first cap) w := fun _ _ _ _ => rfl
  simp only [maxLen] at hml
  have HM := Lib.hid hm
  have HOK := Lib.hid hok
  obtain ⟨A1, c1, rfl, hrs⟩ := hm
  have hs0 := ((Sep.start w []).new 24 #[.int .u16 l, .int .u16 r, .int .u16 s]).new 25 #[.int .u64 bt]
  simp only [World.size_alloc] at hs0
  have HS := Lib.hid hs0
  clear hrs hok hs0
  by_cases hb1 : 20 < al.length
  · have hbI : (20 : Int) < al.length := by omega
    go_enter Try.func7, Try.ntmps7
    go_wp2_with fail
    generalize (w.alloc _).alloc _ = w2 at *
    refine (awake6_any _).mono ?_
    rintro e w1 ⟨rfl, hk⟩
    replace HS := Lib.hid (HS.out.grow hk)
    clear hk
    go_wp2
    go_ret
    exact ⟨rfl, HS.out.keep⟩
  have hx2 : ((20 : Int) < al.length) = False := by rw [eq_iff_iff, iff_false]; omega
  have hx3 : (20 < al.length) = False := by rw [eq_iff_iff, iff_false]; omega
  go_enter Try.func7, Try.ntmps7
  go_wp2_with fail
  generalize (w.alloc _).alloc _ = w2 at *
  generalize w.heap.size = gx at *
  refine (awake6_any _).mono ?_
  rintro e w1 ⟨rfl, hk⟩
  replace HS := Lib.hid (HS.out.grow hk)
  clear hk
  have c0 := (HS.out.blk 0 rfl).cell 0
  simp at c0
  have c1 := (HS.out.blk 0 rfl).cell 1
  simp at c1
  have c2 := (HS.out.blk 0 rfl).cell 2
  simp at c2
  go_wp2_with fail
  refine (kmake l r s _ l0 l1 r0 r1 s0 s1).mono ?_
  rintro e w3 ⟨k, hk, hL, hR, hS, rfl, hkk⟩
  simp only [Kfg.cells]
  replace HS := Lib.hid ((HS.out.grow hkk).new 30 #[.int .i64 (k.L : Int), .int .i64 (k.R : Int), .int .i64 (k.S : Int)])
  have HK := Lib.hid hk
  clear hkk hk c0 c1 c2
  go_wp2_with fail
  generalize w3.alloc _ = w4 at *
  generalize w3.heap.size = gk at *
  refine (formatted_any k _ [] _ HK.out (rd_nil6 _ 0) (by decide)).mono ?_
  rintro e w5 ⟨d, rfl, hdb, hd, hkk⟩
  obtain ⟨s5, hs5⟩ : ∃ s5, s5 = (St.fresh (-1) 0 (fill [] k.words)).run (fmtOps k) := ⟨_, rfl⟩
  rw [← hs5] at hd
  have hI : s5.Is k.words := by rw [hs5]; exact (fresh_fill [] k).run _
  have hA : AllS s5 k := by rw [hs5]; exact all_of HK.out (fresh_fill [] k)
  have hl5 : s5.l < 0 := by rw [hs5, St.run_l]; show (-1 : Int) < 0; decide
  replace HS := Lib.hid (HS.out.add hkk (r := devR d s5) hd hdb)
  have HI := Lib.hid hI
  have HA := Lib.hid hA
  have HW := Lib.hid hA.whole
  have HL := Lib.hid hl5
  have HE := Lib.hid hs5
  clear hdb hd hkk hs5 hI hA hl5
  obtain ⟨og, hog⟩ : ∃ og, s5.nw = og := ⟨_, rfl⟩
  have hP0 : P1 s5 k og 0 (fun _ => 0) (fun _ => 0) := by rw [← hog]; exact AllS.start HK.out HA.out HE.out _ _
  have HP0 := Lib.hid hP0
  have HPA0 : Hid (PB s5 k) := Lib.hid (fun j hj => AllS.startA HK.out HA.out HE.out (fun _ => 0) j hj fun i hi => by omega)
  clear hog hP0
  have c0 := (HS.out.blk 2 rfl).cell 0
  simp at c0
  have c1 := (HS.out.blk 2 rfl).cell 1
  simp at c1
  have c2 := (HS.out.blk 2 rfl).cell 2
  simp at c2
  go_wp2_with fail
  refine (open_any d s5 k 1 0 _ (HS.out.dev 3 rfl) HK.out (by rw [HW.out.w8]; decide) (by rw [HW.out.w8]; decide) (AllS.log HK.out HW.out)).mono ?_
  rintro e w6 ⟨gl, rfl, hgn, hb, hkk⟩
  replace HS := Lib.hid (HS.out.add hkk (r := blkR gl 79 (logC d k 1 0)) hb (by intro y hy; simp [blkR] at hy; subst hy; exact hgn))
  clear hb hkk hgn c0 c1 c2
  have hgd : gl ∉ d.blocks := HS.out.apart 4 3 _ _ (by decide) rfl rfl gl (by simp [blkR])
  have HGD := Lib.hid hgd
  clear hgd
  go_wp2_with fail
  go_loopw [38] (fun v' wr => ∃ (j n : Nat) (p : Nat → Nat) (v : Nat → Int) (s' : St), j ≤ al.length ∧ v' = .int .i64 (j : Int) ∧ (P1 s' k og n p v ∧ s'.Is k.words ∧ s'.l < 0) ∧ PB s' k ∧ Sep w [] [blkR gx 24 #[.int .u16 l, .int .u16 r, .int .u16 s], blkR (gx + 1) 25 #[.int .u64 bt], blkR gk 30 #[.int .i64 (k.L : Int), .int .i64 (k.R : Int), .int .i64 (k.S : Int)], devR d s', blkR gl 79 (logC d k 1 n)] wr) (fun v' _ => al.length - (intOf v').toNat)
  case atStart => exact ⟨0, 0, _, _, s5, by omega, by simp, ⟨HP0.out, HI.out, HL.out⟩, HPA0.out, HS.out⟩
  case round =>
    clear HS HE HL HI HW HA HP0 HPA0
    obtain ⟨j, n, p, v, s', hj, rfl, hf, hpa, hs⟩ := hrel
    have HS := Lib.hid hs
    have HF := Lib.hid hf
    have HPA := Lib.hid hpa
    clear hs hf hpa
    have hkL : (k.L : Int) ≤ 200 := by have := HK.out.l1; omega
    have hnI : (n : Int) ≤ 200 := by have := HF.out.1.le; have := HK.out.l1; omega
    by_cases hlt : j < al.length
    · have hjI : (j : Int) < al.length := by omega
      obtain ⟨x, hx⟩ : ∃ x, al[j]? = some x := ⟨_, List.getElem?_eq_getElem hlt⟩
      obtain ⟨u0, u1, u2, u3⟩ := HOK.out x (List.mem_of_getElem? hx)
      obtain ⟨A', c', hA, hr⟩ := HM.out.keep HS.out.keep
      injection hA with e1 e2 e3
      subst e1
      obtain ⟨g, off, rfl, k0, k1⟩ := hr j x hx
      obtain ⟨at_, y⟩ := x
      simp only at k0 k1 u0 u1 u2 u3
      rw [show off + 2 * j = off + j * 2 by omega] at k0
      rw [show off + (2 * j + 1) = off + j * 2 + 1 by omega] at k1
      obtain ⟨a, rfl⟩ : ∃ a : Nat, at_ = (a : Int) := ⟨at_.toNat, by omega⟩
      have ha : a ≤ 65535 := by omega
      clear hx hr e2 e3
      obtain ⟨q, hp⟩ : ∃ q, k.place a = q := ⟨_, rfl⟩
      obtain ⟨hpl1, hpl2⟩ := Kfg.place_lt HK.out a
      rw [hp] at hpl1 hpl2
      have hpc : ∀ w : World, Calls Try.prog 24 #[.agg #[.int .u16 a, .int .u64 y], .agg #[.int .i64 (k.L : Int), .int .i64 (k.R : Int), .int .i64 (k.S : Int)]] w fun e w' => e = .returned (.int .i64 (q : Int)) ∧ Keep w.heap.size [] w w' := fun w => by rw [← hp]; exact place_any k a y w HK.out ha
      have HPC := Lib.hid hpc
      clear hp hpc
      go_upto_region 13 with fail
      replace HS := Lib.hid (HS.out.new 48 #[.int .u16 a, .int .u64 y])
      generalize wr.alloc _ = wa at *
      generalize wr.heap.size = ga at *
      have a0 := (HS.out.blk 5 rfl).cell 0
      simp at a0
      have a1 := (HS.out.blk 5 rfl).cell 1
      simp at a1
      have c0 := (HS.out.blk 2 rfl).cell 0
      simp at c0
      have c1 := (HS.out.blk 2 rfl).cell 1
      simp at c1
      have c2 := (HS.out.blk 2 rfl).cell 2
      simp at c2
      go_wp2_with fail
      refine (HPC.out _).mono ?_
      rintro e w1 ⟨rfl, hk⟩
      replace HS := Lib.hid (HS.out.grow hk)
      clear hk
      clear a0 a1 c0 c1 c2 k0 k1
      by_cases hnL : n < k.L
      · obtain ⟨z, hy⟩ : ∃ z, s'.nw q = z := ⟨_, rfl⟩
        have hval : (s'.store (16 + 4 * n + 1) (q : Int)).nw q = z := by
          rw [St.nw_store HF.out.2.1 (by have := k.act_le; omega), if_neg (by have := k.act_le; omega)]; exact hy
        have hP1 := HF.out.1.app HK.out HF.out.2.1 hnL ⟨hpl1, hpl2⟩ hy
        have hI1 : (s'.run (appOps 1 n q z)).Is k.words := HF.out.2.1.run _
        have hP2 := hP1.sff HK.out hI1 (i := n) (by omega) y
        have hA2 := (HPA.out.app HK.out HF.out.2.1 HF.out.1 hnL ⟨hpl1, hpl2⟩ hy).sff hI1 hpl2 y
        rw [show upd p n q n = q from if_pos rfl] at hP2
        have HA2 := Lib.hid hA2
        have hl1 : (s'.run (appOps 1 n q z)).l < 0 := by rw [St.run_l]; exact HF.out.2.2
        have hI2 := hI1.store q y
        have hl2 : ((s'.run (appOps 1 n q z)).store q y).l < 0 := hl1
        have HP2 := Lib.hid hP2
        have HI1 := Lib.hid hI1
        have HI2 := Lib.hid hI2
        have HL1 := Lib.hid hl1
        have HL2 := Lib.hid hl2
        have HV := Lib.hid hval
        clear hy hval hP1 hP2 hA2 hI1 hI2 hl1 hl2
        go_wp2_with fail
        refine (append_any d s' k 1 z n q gl _ (HS.out.dev 3 rfl) (HS.out.blk 4 rfl) HGD.out HK.out HF.out.2.1.now (by decide) (by decide) hnL hpl2 HV.out).mono ?_
        rintro e w1 hp
        obtain ⟨rfl, hd, hb, hkp⟩ := hp.free (HF.out.2.2)
        replace HS := Lib.hid (HS.out.step2 (i := 3) (j := 4) (by decide) rfl rfl hkp (r' := devR d (s'.run (appOps 1 n q z))) (q' := blkR gl 79 (logC d k 1 (n + 1))) hd hb (fun _ h => h) (fun _ h => h))
        clear hp hd hb hkp
        go_wp2_with fail
        have a0 : ∀ x : Ext w1, x.now.cell? ⟨ga, 0, none⟩ = some (.int .u16 (a : Int)) := fun x => x.cell (by simpa using (HS.out.blk 5 rfl).cell 0)
        have a1 : ∀ x : Ext w1, x.now.cell? ⟨ga, 1, none⟩ = some (.int .u64 y) := fun x => x.cell (by simpa using (HS.out.blk 5 rfl).cell 1)
        have c0 : ∀ x : Ext w1, x.now.cell? ⟨gk, 0, none⟩ = some (.int .i64 (k.L : Int)) := fun x => x.cell (by simpa using (HS.out.blk 2 rfl).cell 0)
        have c1 : ∀ x : Ext w1, x.now.cell? ⟨gk, 1, none⟩ = some (.int .i64 (k.R : Int)) := fun x => x.cell (by simpa using (HS.out.blk 2 rfl).cell 1)
        have c2 : ∀ x : Ext w1, x.now.cell? ⟨gk, 2, none⟩ = some (.int .i64 (k.S : Int)) := fun x => x.cell (by simpa using (HS.out.blk 2 rfl).cell 2)
        refine wp_region_ext_tail 6 (by kernel_rfl) (by kernel_rfl) ?_
        simp only [List.take_succ_cons, List.take_zero, List.drop_succ_cons, List.drop_zero]
        repeat (go_big_quiet_step ((first | (go_at_call 24; with_reducible exact Calls.ext (HPC.out _)))))
        refine wpQuiet_nil ?_
        rintro _ ⟨x, rfl⟩
        replace HS := Lib.hid (HS.out.grow x.keep)
        clear a0 a1 c0 c1 c2
        go_wp2_with fail
        refine (store_free d _ q y _ (HS.out.dev 3 rfl) HL1.out (by rw [HI1.out.now]; exact hpl2)).mono ?_
        rintro e w1 ⟨rfl, hd, hk⟩
        replace HS := Lib.hid (HS.out.did (i := 3) rfl hd hk)
        clear hd hk
        have a0 := (HS.out.blk 5 rfl).cell 0
        simp at a0
        have a1 := (HS.out.blk 5 rfl).cell 1
        simp at a1
        have c0 := (HS.out.blk 2 rfl).cell 0
        simp at c0
        have c1 := (HS.out.blk 2 rfl).cell 1
        simp at c1
        have c2 := (HS.out.blk 2 rfl).cell 2
        simp at c2
        go_wp2_with fail
        refine (HPC.out _).mono ?_
        rintro e w1 ⟨rfl, hk⟩
        replace HS := Lib.hid (HS.out.grow hk)
        clear hk
        clear a0 a1 c0 c1 c2
        go_wp2_with fail
        refine (flush_free d _ q _ (HS.out.dev 3 rfl) HL2.out (by rw [HI2.out.now]; exact hpl2)).mono ?_
        rintro e w1 ⟨rfl, hd, hk⟩
        replace HS := Lib.hid (HS.out.did (i := 3) rfl hd hk)
        clear hd hk
        go_wp2_with fail
        refine (fence_free d _ _ (HS.out.dev 3 rfl) HL2.out).mono ?_
        rintro e w1 ⟨rfl, hd, hk⟩
        replace HS := Lib.hid (HS.out.did (i := 3) rfl hd hk)
        clear hd hk
        go_wp2
        exact ⟨⟨j + 1, n + 1, _, _, _, by omega, by simp, ⟨HP2.out, (HI2.out.flush _).fence, HL2.out⟩, HA2.out, HS.out.take 5⟩, by simp [intOf]; omega⟩
      · go_wp2_with fail
        refine (append_full d s' k 1 (q : Int) n gl _ (HS.out.dev 3 rfl) (HS.out.blk 4 rfl) (by omega) (by rw [HF.out.2.1.now]; omega) (by have := HF.out.1.le; omega)).mono ?_
        rintro e w1 ⟨rfl, hk⟩
        replace HS := Lib.hid (HS.out.grow hk)
        clear hk
        go_wp2
        exact ⟨⟨j + 1, n, p, v, s', by omega, by simp, HF.out, HPA.out, HS.out.take 5⟩, by simp [intOf]; omega⟩
    · obtain rfl : j = al.length := by omega
      go_wp2_with fail
      have c0 : ∀ x : Ext wr, x.now.cell? ⟨gk, 0, none⟩ = some (.int .i64 (k.L : Int)) := fun x => x.cell (by simpa using (HS.out.blk 2 rfl).cell 0)
      have c1 : ∀ x : Ext wr, x.now.cell? ⟨gk, 1, none⟩ = some (.int .i64 (k.R : Int)) := fun x => x.cell (by simpa using (HS.out.blk 2 rfl).cell 1)
      have c2 : ∀ x : Ext wr, x.now.cell? ⟨gk, 2, none⟩ = some (.int .i64 (k.S : Int)) := fun x => x.cell (by simpa using (HS.out.blk 2 rfl).cell 2)
      have hll : ∀ x : Ext wr, Calls Try.prog 19 #[.pointer (some ⟨gl, 0, none⟩)] x.now fun e w' => e = .returned (.int .i64 n) ∧ x.now = w' := fun x => log_len d k 1 n gl _ ((HS.out.grow x.keep).blk 4 rfl)
      have HLL := Lib.hid hll
      clear hll
      refine wp_region_ext_tail 4 (by kernel_rfl) (by kernel_rfl) ?_
      simp only [List.take_succ_cons, List.take_zero, List.drop_succ_cons, List.drop_zero]
      repeat (go_big_quiet_step ((first | (go_at_call 19; with_reducible exact Calls.ext_same (HLL.out _)))))
      refine wpQuiet_nil ?_
      rintro _ ⟨x, rfl⟩
      replace HS := Lib.hid (HS.out.grow x.keep)
      clear HLL
      clear c0 c1 c2
      go_wp2_with fail
      refine (behind_any d s' k _ (HS.out.dev 3 rfl) HK.out HF.out.2.1.now).mono ?_
      rintro e w8 ⟨gb, xb, cb, rfl, hblk, hnew, hkk⟩
      replace HS := Lib.hid (HS.out.add hkk (r := blkR gb 25 (uw s'.now ++ xb).toArray) hblk (by intro y hy; simp [blkR] at hy; subst hy; exact hnew))
      clear hblk hnew hkk
      obtain ⟨lq, hlq⟩ : ∃ lq, lm % 5 = lq := ⟨_, rfl⟩
      go_wp2_with fail
      refine (pnew_any _ _).mono ?_
      rintro e wa ⟨rfl, hw⟩
      have hs1 := HS.out.new 84 #[.int .i64 lq, .int .i64 0]
      rw [← hw] at hs1
      replace HS := Lib.hid hs1
      clear hs1 hw
      generalize w8.heap.size = gp at *
      have hgp : gp ∉ d.blocks := HS.out.apart 6 3 _ _ (by decide) rfl rfl gp (by simp [blkR])
      have hgl : gl ≠ gp := HS.out.ne 4 6 rfl rfl (by decide)
      go_wp2_with fail
      refine (power_any d s' gp lq _ (HS.out.dev 3 rfl) (HS.out.blk 6 rfl) hgp).mono ?_
      rintro e wr2 ⟨rfl, hd, hkk⟩
      obtain ⟨d', hd'⟩ : ∃ d', ({ d with p := gp } : DevI) = d' := ⟨_, rfl⟩
      have hdb : d'.b = d.b := by rw [← hd']
      have hgd' : gl ∉ d'.blocks := by
        have := HGD.out
        rw [← hd']
        simp only [DevI.blocks, List.mem_cons, List.not_mem_nil, or_false, not_or] at this ⊢
        exact ⟨this.1, hgl, this.2.2.1, this.2.2.2.1, this.2.2.2.2⟩
      have hsub : ∀ q ∈ d'.blocks, q ∈ d.blocks ∨ q ∈ [gp] := by
        intro q hq
        rw [← hd'] at hq
        simp only [DevI.blocks, List.mem_cons, List.not_mem_nil, or_false] at hq ⊢
        omega
      rw [hd'] at hd
      obtain ⟨s2, hs2⟩ : ∃ s2, ({ s' with l := lq, u := 0 } : St) = s2 := ⟨_, rfl⟩
      have hP2 : P1 s2 k og n p v := by rw [← hs2]; exact HF.out.1.power HK.out _ _
      have hB2 : PB s2 k := by rw [← hs2]; exact HPA.out
      have hI2 : s2.Is k.words := by rw [← hs2]; exact ⟨HF.out.2.1.now, HF.out.2.1.kept⟩
      have hnw2 : s2.nw = s'.nw := by rw [← hs2]; rfl
      rw [hs2] at hd
      replace HS := Lib.hid (HS.out.merge (i := 3) (j := 6) (by decide) rfl rfl (hkk.sub (by intro q _ hq; simp at hq; subst hq; simp [devR, blkR, DevI.blocks])) (r' := devR d' s2) hd hsub)
      have hlc : ∀ e n, logC d k e n = logC d' k e n := fun e n => by rw [← hd']
      rw [← hdb]
      simp only [hlc] at HS
      have HGD' := Lib.hid hgd'
      have HP2 := Lib.hid hP2
      have HB2 := Lib.hid hB2
      have HI2 := Lib.hid hI2
      have HNW := Lib.hid hnw2
      clear hd hkk hd' hdb hgd' hsub hgp hgl hs2 hP2 hB2 hI2 hnw2 hlc hlq
      go_wp2_with fail
      by_cases hn0 : n = 0
      · subst hn0
        refine (HS.out.run_bound (α := Unit) (β := Unit) (PA := fun _ => True) (PB := fun _ => False) (LA := fun _ => [blkR gx 24 #[.int .u16 l, .int .u16 r, .int .u16 s], blkR (gx + 1) 25 #[.int .u64 bt], blkR gk 30 #[.int .i64 (k.L : Int), .int .i64 (k.R : Int), .int .i64 (k.S : Int)], devR d' (s2), blkR gl 79 (logC d' k 1 0), blkR gb 25 (uw s'.now ++ xb).toArray, noR, blkR wr2.heap.size 4 #[.bool false]]) (LB := fun _ => [blkR gx 24 #[.int .u16 l, .int .u16 r, .int .u16 s], blkR (gx + 1) 25 #[.int .u64 bt], blkR gk 30 #[.int .i64 (k.L : Int), .int .i64 (k.R : Int), .int .i64 (k.S : Int)], devR d' (s2), blkR gl 79 (logC d' k 1 0), blkR gb 25 (uw s'.now ++ xb).toArray, noR, blkR wr2.heap.size 4 #[.bool false]]) 7 rfl _ _ (enters_of Try.func23 (by kernel_rfl) rfl) (fun _ => rfl) (fun _ => rfl)
          (fun w0 h0 => (truncate_none d' k 1 gl w0 (h0.blk 4 rfl)).mono fun e w1 h => .inl ⟨⟨_, h.1⟩, (), trivial, by rw [← h.2]; exact h0⟩)).mono ?_
        rintro e w6 (⟨rfl, _, _, hs6⟩ | ⟨rfl, _, h, _⟩)
        · have HS := Lib.hid hs6
          clear hs6
          obtain ⟨t, ht⟩ : ∃ t, s2 = t := ⟨_, rfl⟩
          have HT : Hid ((∀ j, k.act ≤ j → j < k.words → (t.crash (choiceOf bt)).nw j = s'.nw j) ∧ (t.crash (choiceOf bt)).nw 8 = 1 ∧ LogIs (t.crash (choiceOf bt)) k 1 0 ∧ (t.crash (choiceOf bt)).Is k.words) := by
            rw [← ht]
            have hp := HP2.out.crash HK.out HI2.out (choiceOf bt)
            refine ⟨fun j hj hjw => ?_, hp.epo.1, hp.log, HI2.out.crash _⟩
            obtain ⟨x, hx⟩ := HB2.out j hjw
            rw [St.nw_crash HI2.out _ hjw, hx.left, ← HNW.out, hx.1]
          rw [ht] at HS
          clear ht
          as_aux_lemma =>
            go_wp2_with fail
            refine (crash_bits d' t _ _ bt _ (HS.out.dev 3 rfl) (enters_of Try.func36 (by kernel_rfl) rfl) (HS.out.blk 1 rfl) (HS.out.gd 1 3 rfl rfl (by decide)) (fun k w h => trunc_bits k bt _ w t0 t1 h)).mono ?_
            rintro e w1 ⟨rfl, hd, hk⟩
            replace HS := Lib.hid (HS.out.did (i := 3) rfl hd hk)
            clear hd hk
            obtain ⟨t2, ht2⟩ : ∃ t2, t.crash (choiceOf bt) = t2 := ⟨_, rfl⟩
            have HT2 : Hid ((∀ j, k.act ≤ j → j < k.words → t2.nw j = s'.nw j) ∧ t2.nw 8 = 1 ∧ LogIs t2 k 1 0 ∧ t2.Is k.words) := by rw [← ht2]; exact HT
            rw [ht2] at HS
            clear ht2 HT
            have c0 := (HS.out.blk 2 rfl).cell 0
            simp at c0
            have c1 := (HS.out.blk 2 rfl).cell 1
            simp at c1
            have c2 := (HS.out.blk 2 rfl).cell 2
            simp at c2
            go_wp2_with fail
            refine (open_any d' t2 k 1 0 _ (HS.out.dev 3 rfl) HK.out (by rw [HT2.out.2.1]; decide) (by rw [HT2.out.2.1]; decide) HT2.out.2.2.1).mono ?_
            rintro e w9 ⟨gm, rfl, hgn, hb, hkk⟩
            replace HS := Lib.hid (HS.out.add hkk (r := blkR gm 79 (logC d' k 1 0)) hb (by intro y hy; simp [blkR] at hy; subst hy; exact hgn))
            clear hb hkk hgn c0 c1 c2
            have c0 := (HS.out.blk 2 rfl).cell 0
            simp at c0
            have c1 := (HS.out.blk 2 rfl).cell 1
            simp at c1
            have c2 := (HS.out.blk 2 rfl).cell 2
            simp at c2
            go_wp2_with fail
            refine (behind_any d' t2 k _ (HS.out.dev 3 rfl) HK.out HT2.out.2.2.2.now).mono ?_
            rintro e w10 ⟨gz, xz, cz, rfl, hblk, hnew, hkk⟩
            replace HS := Lib.hid (HS.out.add hkk (r := blkR gz 25 (uw t2.now ++ xz).toArray) hblk (by intro y hy; simp [blkR] at hy; subst hy; exact hnew))
            clear hblk hnew hkk c0 c1 c2
            have heq : t2.now.drop k.act = s'.now.drop k.act := drop_ext HF.out.2.1.now HT2.out.2.2.2.now HT2.out.1
            have hlen : (t2.now.drop k.act).length ≤ 1099511627776 := by rw [List.length_drop, HT2.out.2.2.2.now]; have := Kfg.words_le HK.out; omega
            have heqc : Calls Try.prog 26 #[.slice (some ⟨gz, k.act, none⟩) (t2.now.length - k.act) cz, .slice (some ⟨gb, k.act, none⟩) (s'.now.length - k.act) cb] w10 fun e w' => e = .returned (.bool true) ∧ Keep w10.heap.size [] w10 w' := by
              have := equal_any _ _ (t2.now.drop k.act) (s'.now.drop k.act) _ (Rd.behind (c := cz) (HS.out.blk 9 rfl) List.length_drop.symm) (Rd.behind (c := cb) (HS.out.blk 5 rfl) List.length_drop.symm) hlen
              rwa [decide_eq_true heq] at this
            have HEQ := Lib.hid heqc
            clear heq hlen heqc
            go_wp2_with fail
            refine (HEQ.out).mono ?_
            rintro e w1 ⟨rfl, hk⟩
            replace HS := Lib.hid (HS.out.grow hk)
            clear hk
            go_wp2_with fail
            refine (log_len d' k 1 0 gm _ (HS.out.blk 8 rfl)).mono ?_
            rintro e w' ⟨rfl, rfl⟩
            go_wp2
            go_ret
            exact ⟨rfl, HS.out.keep⟩
        · exact h.elim
      · have hw8 : 8 < s2.now.length := by rw [HI2.out.now]; have := Kfg.words_le HK.out; have := k.act_le; omega
        refine (HS.out.run_bound (α := Unit) (β := Nat) (PA := fun _ => True) (PB := fun m => m < 3) (LA := fun _ => [blkR gx 24 #[.int .u16 l, .int .u16 r, .int .u16 s], blkR (gx + 1) 25 #[.int .u64 bt], blkR gk 30 #[.int .i64 (k.L : Int), .int .i64 (k.R : Int), .int .i64 (k.S : Int)], devR d' (s2.run (truncOps 1)), blkR gl 79 (logC d' k ((1 + 1) % 4294967296) 0), blkR gb 25 (uw s'.now ++ xb).toArray, noR, blkR wr2.heap.size 4 #[.bool false]]) (LB := fun m => [blkR gx 24 #[.int .u16 l, .int .u16 r, .int .u16 s], blkR (gx + 1) 25 #[.int .u64 bt], blkR gk 30 #[.int .i64 (k.L : Int), .int .i64 (k.R : Int), .int .i64 (k.S : Int)], devR d' (s2.run ((truncOps 1).take m)), blkR gl 79 (logC d' k 1 n), blkR gb 25 (uw s'.now ++ xb).toArray, noR, blkR wr2.heap.size 4 #[.bool false]]) 7 rfl _ _ (enters_of Try.func23 (by kernel_rfl) rfl) (fun _ => rfl) (fun _ => rfl)
          (fun w0 h0 => (truncate_any d' s2 k 1 n gl w0 (h0.dev 3 rfl) (h0.blk 4 rfl) HGD'.out hw8 (by decide) (by decide) (by omega)).mono ?_)).mono ?_
        · rintro e w1 (⟨rfl, hd, hb, hkp⟩ | ⟨m, hm, hg, rfl, hd, hb, hkp⟩)
          · exact .inl ⟨⟨_, rfl⟩, (), trivial, h0.step2 (i := 3) (j := 4) (by decide) rfl rfl hkp (r' := devR d' _) (q' := blkR gl 79 _) hd hb (fun _ h => h) (fun _ h => h)⟩
          · exact .inr ⟨rfl, m, hm, h0.step2 (i := 3) (j := 4) (by decide) rfl rfl hkp (r' := devR d' _) (q' := blkR gl 79 _) hd hb (fun _ h => h) (fun _ h => h)⟩
        rintro e w6 (⟨rfl, _, _, hs6⟩ | ⟨rfl, m, hm, hs6⟩)
        · have HS := Lib.hid hs6
          clear hs6
          have htc := trunc_cut HK.out HI2.out HP2.out HB2.out 3 (by omega) (choiceOf bt)
          rw [show (truncOps 1).take 3 = truncOps 1 from rfl] at htc
          have hIt : (s2.run (truncOps 1)).Is k.words := HI2.out.run _
          obtain ⟨t, ht⟩ : ∃ t, s2.run (truncOps 1) = t := ⟨_, rfl⟩
          rw [ht] at htc HS hIt
          have HT : Hid ((∀ j, k.act ≤ j → j < k.words → (t.crash (choiceOf bt)).nw j = s'.nw j) ∧ (t.crash (choiceOf bt)).nw 8 = 2 ∧ LogIs (t.crash (choiceOf bt)) k 2 0 ∧ (t.crash (choiceOf bt)).Is k.words) := by
            rcases htc.2 with h | h
            · exact absurd h.1 (by omega)
            · exact ⟨fun j hj hjw => by rw [htc.1 j hj hjw, HNW.out], h.1, h.2, hIt.crash _⟩
          clear ht htc hIt hw8
          as_aux_lemma =>
            go_wp2_with fail
            refine (crash_bits d' t _ _ bt _ (HS.out.dev 3 rfl) (enters_of Try.func36 (by kernel_rfl) rfl) (HS.out.blk 1 rfl) (HS.out.gd 1 3 rfl rfl (by decide)) (fun k w h => trunc_bits k bt _ w t0 t1 h)).mono ?_
            rintro e w1 ⟨rfl, hd, hk⟩
            replace HS := Lib.hid (HS.out.did (i := 3) rfl hd hk)
            clear hd hk
            obtain ⟨t2, ht2⟩ : ∃ t2, t.crash (choiceOf bt) = t2 := ⟨_, rfl⟩
            have HT2 : Hid ((∀ j, k.act ≤ j → j < k.words → t2.nw j = s'.nw j) ∧ t2.nw 8 = 2 ∧ LogIs t2 k 2 0 ∧ t2.Is k.words) := by rw [← ht2]; exact HT
            rw [ht2] at HS
            clear ht2 HT
            have c0 := (HS.out.blk 2 rfl).cell 0
            simp at c0
            have c1 := (HS.out.blk 2 rfl).cell 1
            simp at c1
            have c2 := (HS.out.blk 2 rfl).cell 2
            simp at c2
            go_wp2_with fail
            refine (open_any d' t2 k 2 0 _ (HS.out.dev 3 rfl) HK.out (by rw [HT2.out.2.1]; decide) (by rw [HT2.out.2.1]; decide) HT2.out.2.2.1).mono ?_
            rintro e w9 ⟨gm, rfl, hgn, hb, hkk⟩
            replace HS := Lib.hid (HS.out.add hkk (r := blkR gm 79 (logC d' k 2 0)) hb (by intro y hy; simp [blkR] at hy; subst hy; exact hgn))
            clear hb hkk hgn c0 c1 c2
            have c0 := (HS.out.blk 2 rfl).cell 0
            simp at c0
            have c1 := (HS.out.blk 2 rfl).cell 1
            simp at c1
            have c2 := (HS.out.blk 2 rfl).cell 2
            simp at c2
            go_wp2_with fail
            refine (behind_any d' t2 k _ (HS.out.dev 3 rfl) HK.out HT2.out.2.2.2.now).mono ?_
            rintro e w10 ⟨gz, xz, cz, rfl, hblk, hnew, hkk⟩
            replace HS := Lib.hid (HS.out.add hkk (r := blkR gz 25 (uw t2.now ++ xz).toArray) hblk (by intro y hy; simp [blkR] at hy; subst hy; exact hnew))
            clear hblk hnew hkk c0 c1 c2
            have heq : t2.now.drop k.act = s'.now.drop k.act := drop_ext HF.out.2.1.now HT2.out.2.2.2.now HT2.out.1
            have hlen : (t2.now.drop k.act).length ≤ 1099511627776 := by rw [List.length_drop, HT2.out.2.2.2.now]; have := Kfg.words_le HK.out; omega
            have heqc : Calls Try.prog 26 #[.slice (some ⟨gz, k.act, none⟩) (t2.now.length - k.act) cz, .slice (some ⟨gb, k.act, none⟩) (s'.now.length - k.act) cb] w10 fun e w' => e = .returned (.bool true) ∧ Keep w10.heap.size [] w10 w' := by
              have := equal_any _ _ (t2.now.drop k.act) (s'.now.drop k.act) _ (Rd.behind (c := cz) (HS.out.blk 9 rfl) List.length_drop.symm) (Rd.behind (c := cb) (HS.out.blk 5 rfl) List.length_drop.symm) hlen
              rwa [decide_eq_true heq] at this
            have HEQ := Lib.hid heqc
            clear heq hlen heqc
            go_wp2_with fail
            refine (HEQ.out).mono ?_
            rintro e w1 ⟨rfl, hk⟩
            replace HS := Lib.hid (HS.out.grow hk)
            clear hk
            go_wp2_with fail
            refine (log_len d' k 2 0 gm _ (HS.out.blk 8 rfl)).mono ?_
            rintro e w' ⟨rfl, rfl⟩
            go_wp2
            go_ret
            exact ⟨rfl, HS.out.keep⟩
        · have HS := Lib.hid hs6
          clear hs6
          have htc := trunc_cut HK.out HI2.out HP2.out HB2.out m (by omega) (choiceOf bt)
          have hIt : (s2.run ((truncOps 1).take m)).Is k.words := HI2.out.run _
          obtain ⟨t, ht⟩ : ∃ t, s2.run ((truncOps 1).take m) = t := ⟨_, rfl⟩
          rw [ht] at htc HS hIt
          rcases htc with ⟨htc1, ⟨_, htc2, htc3⟩ | ⟨htc2, htc3⟩⟩
          · have HT : Hid ((∀ j, k.act ≤ j → j < k.words → (t.crash (choiceOf bt)).nw j = s'.nw j) ∧ (t.crash (choiceOf bt)).nw 8 = 1 ∧ LogIs (t.crash (choiceOf bt)) k 1 n ∧ (t.crash (choiceOf bt)).Is k.words) := ⟨fun j hj hjw => by rw [htc1 j hj hjw, HNW.out], htc2, htc3, hIt.crash _⟩
            have hnz : ((n : Int) == 0) = false := by rw [beq_eq_false_iff_ne]; omega
            clear ht htc1 htc2 htc3 hIt hw8
            as_aux_lemma =>
              go_wp2_with fail
              refine (crash_bits d' t _ _ bt _ (HS.out.dev 3 rfl) (enters_of Try.func36 (by kernel_rfl) rfl) (HS.out.blk 1 rfl) (HS.out.gd 1 3 rfl rfl (by decide)) (fun k w h => trunc_bits k bt _ w t0 t1 h)).mono ?_
              rintro e w1 ⟨rfl, hd, hk⟩
              replace HS := Lib.hid (HS.out.did (i := 3) rfl hd hk)
              clear hd hk
              obtain ⟨t2, ht2⟩ : ∃ t2, t.crash (choiceOf bt) = t2 := ⟨_, rfl⟩
              have HT2 : Hid ((∀ j, k.act ≤ j → j < k.words → t2.nw j = s'.nw j) ∧ t2.nw 8 = 1 ∧ LogIs t2 k 1 n ∧ t2.Is k.words) := by rw [← ht2]; exact HT
              rw [ht2] at HS
              clear ht2 HT
              have c0 := (HS.out.blk 2 rfl).cell 0
              simp at c0
              have c1 := (HS.out.blk 2 rfl).cell 1
              simp at c1
              have c2 := (HS.out.blk 2 rfl).cell 2
              simp at c2
              go_wp2_with fail
              refine (open_any d' t2 k 1 n _ (HS.out.dev 3 rfl) HK.out (by rw [HT2.out.2.1]; decide) (by rw [HT2.out.2.1]; decide) HT2.out.2.2.1).mono ?_
              rintro e w9 ⟨gm, rfl, hgn, hb, hkk⟩
              replace HS := Lib.hid (HS.out.add hkk (r := blkR gm 79 (logC d' k 1 n)) hb (by intro y hy; simp [blkR] at hy; subst hy; exact hgn))
              clear hb hkk hgn c0 c1 c2
              have c0 := (HS.out.blk 2 rfl).cell 0
              simp at c0
              have c1 := (HS.out.blk 2 rfl).cell 1
              simp at c1
              have c2 := (HS.out.blk 2 rfl).cell 2
              simp at c2
              go_wp2_with fail
              refine (behind_any d' t2 k _ (HS.out.dev 3 rfl) HK.out HT2.out.2.2.2.now).mono ?_
              rintro e w10 ⟨gz, xz, cz, rfl, hblk, hnew, hkk⟩
              replace HS := Lib.hid (HS.out.add hkk (r := blkR gz 25 (uw t2.now ++ xz).toArray) hblk (by intro y hy; simp [blkR] at hy; subst hy; exact hnew))
              clear hblk hnew hkk c0 c1 c2
              have heq : t2.now.drop k.act = s'.now.drop k.act := drop_ext HF.out.2.1.now HT2.out.2.2.2.now HT2.out.1
              have hlen : (t2.now.drop k.act).length ≤ 1099511627776 := by rw [List.length_drop, HT2.out.2.2.2.now]; have := Kfg.words_le HK.out; omega
              have heqc : Calls Try.prog 26 #[.slice (some ⟨gz, k.act, none⟩) (t2.now.length - k.act) cz, .slice (some ⟨gb, k.act, none⟩) (s'.now.length - k.act) cb] w10 fun e w' => e = .returned (.bool true) ∧ Keep w10.heap.size [] w10 w' := by
                have := equal_any _ _ (t2.now.drop k.act) (s'.now.drop k.act) _ (Rd.behind (c := cz) (HS.out.blk 9 rfl) List.length_drop.symm) (Rd.behind (c := cb) (HS.out.blk 5 rfl) List.length_drop.symm) hlen
                rwa [decide_eq_true heq] at this
              have HEQ := Lib.hid heqc
              clear heq hlen heqc
              go_wp2_with fail
              refine (HEQ.out).mono ?_
              rintro e w1 ⟨rfl, hk⟩
              replace HS := Lib.hid (HS.out.grow hk)
              clear hk
              go_wp2_with fail
              refine (log_len d' k 1 n gm _ (HS.out.blk 8 rfl)).mono ?_
              rintro e w' ⟨rfl, rfl⟩
              go_wp2_with fail
              refine (log_len d' k 1 n gm _ (HS.out.blk 8 rfl)).mono ?_
              rintro e w' ⟨rfl, rfl⟩
              go_wp2
              go_ret
              exact ⟨rfl, HS.out.keep⟩
          · have HT : Hid ((∀ j, k.act ≤ j → j < k.words → (t.crash (choiceOf bt)).nw j = s'.nw j) ∧ (t.crash (choiceOf bt)).nw 8 = 2 ∧ LogIs (t.crash (choiceOf bt)) k 2 0 ∧ (t.crash (choiceOf bt)).Is k.words) := ⟨fun j hj hjw => by rw [htc1 j hj hjw, HNW.out], htc2, htc3, hIt.crash _⟩
            clear ht htc1 htc2 htc3 hIt hw8
            as_aux_lemma =>
              go_wp2_with fail
              refine (crash_bits d' t _ _ bt _ (HS.out.dev 3 rfl) (enters_of Try.func36 (by kernel_rfl) rfl) (HS.out.blk 1 rfl) (HS.out.gd 1 3 rfl rfl (by decide)) (fun k w h => trunc_bits k bt _ w t0 t1 h)).mono ?_
              rintro e w1 ⟨rfl, hd, hk⟩
              replace HS := Lib.hid (HS.out.did (i := 3) rfl hd hk)
              clear hd hk
              obtain ⟨t2, ht2⟩ : ∃ t2, t.crash (choiceOf bt) = t2 := ⟨_, rfl⟩
              have HT2 : Hid ((∀ j, k.act ≤ j → j < k.words → t2.nw j = s'.nw j) ∧ t2.nw 8 = 2 ∧ LogIs t2 k 2 0 ∧ t2.Is k.words) := by rw [← ht2]; exact HT
              rw [ht2] at HS
              clear ht2 HT
              have c0 := (HS.out.blk 2 rfl).cell 0
              simp at c0
              have c1 := (HS.out.blk 2 rfl).cell 1
              simp at c1
              have c2 := (HS.out.blk 2 rfl).cell 2
              simp at c2
              go_wp2_with fail
              refine (open_any d' t2 k 2 0 _ (HS.out.dev 3 rfl) HK.out (by rw [HT2.out.2.1]; decide) (by rw [HT2.out.2.1]; decide) HT2.out.2.2.1).mono ?_
              rintro e w9 ⟨gm, rfl, hgn, hb, hkk⟩
              replace HS := Lib.hid (HS.out.add hkk (r := blkR gm 79 (logC d' k 2 0)) hb (by intro y hy; simp [blkR] at hy; subst hy; exact hgn))
              clear hb hkk hgn c0 c1 c2
              have c0 := (HS.out.blk 2 rfl).cell 0
              simp at c0
              have c1 := (HS.out.blk 2 rfl).cell 1
              simp at c1
              have c2 := (HS.out.blk 2 rfl).cell 2
              simp at c2
              go_wp2_with fail
              refine (behind_any d' t2 k _ (HS.out.dev 3 rfl) HK.out HT2.out.2.2.2.now).mono ?_
              rintro e w10 ⟨gz, xz, cz, rfl, hblk, hnew, hkk⟩
              replace HS := Lib.hid (HS.out.add hkk (r := blkR gz 25 (uw t2.now ++ xz).toArray) hblk (by intro y hy; simp [blkR] at hy; subst hy; exact hnew))
              clear hblk hnew hkk c0 c1 c2
              have heq : t2.now.drop k.act = s'.now.drop k.act := drop_ext HF.out.2.1.now HT2.out.2.2.2.now HT2.out.1
              have hlen : (t2.now.drop k.act).length ≤ 1099511627776 := by rw [List.length_drop, HT2.out.2.2.2.now]; have := Kfg.words_le HK.out; omega
              have heqc : Calls Try.prog 26 #[.slice (some ⟨gz, k.act, none⟩) (t2.now.length - k.act) cz, .slice (some ⟨gb, k.act, none⟩) (s'.now.length - k.act) cb] w10 fun e w' => e = .returned (.bool true) ∧ Keep w10.heap.size [] w10 w' := by
                have := equal_any _ _ (t2.now.drop k.act) (s'.now.drop k.act) _ (Rd.behind (c := cz) (HS.out.blk 9 rfl) List.length_drop.symm) (Rd.behind (c := cb) (HS.out.blk 5 rfl) List.length_drop.symm) hlen
                rwa [decide_eq_true heq] at this
              have HEQ := Lib.hid heqc
              clear heq hlen heqc
              go_wp2_with fail
              refine (HEQ.out).mono ?_
              rintro e w1 ⟨rfl, hk⟩
              replace HS := Lib.hid (HS.out.grow hk)
              clear hk
              go_wp2_with fail
              refine (log_len d' k 2 0 gm _ (HS.out.blk 8 rfl)).mono ?_
              rintro e w' ⟨rfl, rfl⟩
              go_wp2
              go_ret
              exact ⟨rfl, HS.out.keep⟩

theorem UlogTruncates.walk {v1 : Value} {w : World} (l r s : Int) (h : (lowest .u16 ≤ l ∧ l ≤ greatest .u16) ∧ (lowest .u16 ≤ r ∧ r ≤ greatest .u16) ∧ (lowest .u16 ≤ s ∧ s ≤ greatest .u16)) (al : List AV) (hm : RdA w v1 al) (hok : ∀ x ∈ al, x.Ok) (hml : al.length ≤ maxLen) (lm : Int) (m0 : lowest .u8 ≤ lm) (m1 : lm ≤ greatest .u8) (bt : Int) (t0 : lowest .u64 ≤ bt) (t1 : bt ≤ greatest .u64) :
    Calls Try.prog 7 #[.agg #[.int .u16 l, .int .u16 r, .int .u16 s], v1, .int .u8 lm, .int .u64 bt] w fun e w' => e = .returned (.bool true) ∧ Below w.heap.size w w' := by
  obtain ⟨⟨l0, l1⟩, ⟨r0, r1⟩, s0, s1⟩ := h
  simp [lowest, greatest] at l0 l1 r0 r1 s0 s1 t0 t1 m0 m1
  exact (UlogTruncates.core l r s v1 al lm bt w l0 l1 r0 r1 s0 s1 hm hok hml m0 m1 t0 t1).mono fun e w' ⟨he, hk⟩ => ⟨he, hk.below⟩
end Go.Proofs.Ythfelcnhkabdhaa
