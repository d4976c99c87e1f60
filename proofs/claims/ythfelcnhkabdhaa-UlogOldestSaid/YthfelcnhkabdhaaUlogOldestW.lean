/-
  UlogOldest: the walk.
-/
import Derived.Test.YthfelcnhkabdhaaUndoP
import Derived.Test.YthfelcnhkabdhaaBehind
set_option linter.unusedSimpArgs false
set_option linter.unusedVariables false
namespace Go.Proofs.Ythfelcnhkabdhaa
open Go.RowKit Go.Shelf

set_option maxRecDepth 100000 in
set_option maxHeartbeats 2000000 in
theorem UlogOldest.core (l r s : Int) (a : Nat) (v2 : Value) (ms : List Int) (w : World) (l0 : 0 ≤ l) (l1 : l ≤ 65535) (r0 : 0 ≤ r) (r1 : r ≤ 65535) (s0 : 0 ≤ s) (s1 : s ≤ 65535) (ha : a ≤ 65535) (hq : Rd w v2 (uw ms)) (hml : ms.length ≤ maxLen) :
    Calls Try.prog 6 #[.agg #[.int .u16 l, .int .u16 r, .int .u16 s], .int .u16 a, v2] w fun e w' => e = .returned (.bool true) ∧ Keep w.heap.size [] w w' := by
  simp only [maxLen] at hml
  obtain ⟨A1, c1, rfl, hrs⟩ := hq.cellAt
  have HS := Lib.hid ((Sep.start w []).new 24 #[.int .u16 l, .int .u16 r, .int .u16 s])
  have HQ := Lib.hid hq
  clear hq hrs
  by_cases hb1 : 10 < ms.length
  · have hbI : (10 : Int) < ms.length := by omega
    go_enter Try.func6, Try.ntmps6
    go_wp2_with fail
    generalize w.alloc _ = w2 at *
    generalize w.heap.size = gx at *
    refine (awake6_any _).mono ?_
    rintro e w1 ⟨rfl, hk⟩
    replace HS := Lib.hid (HS.out.grow hk)
    clear hk
    have c0 := (HS.out.blk 0 rfl).cell 0
    simp at c0
    have c1 := (HS.out.blk 0 rfl).cell 1
    simp at c1
    have c2 := (HS.out.blk 0 rfl).cell 2
    simp at c2
    go_wp2_with fail
    refine (kmake l r s _ l0 l1 r0 r1 s0 s1).mono ?_
    rintro e w3 ⟨k, hk, hL, hR, hS, rfl, hkk⟩
    simp only [Kfg.cells]
    replace HS := Lib.hid ((HS.out.grow hkk).new 30 #[.int .i64 (k.L : Int), .int .i64 (k.R : Int), .int .i64 (k.S : Int)])
    clear hkk c0 c1 c2
    go_wp2
    go_ret
    exact ⟨rfl, HS.out.keep⟩
  have hx2 : ((10 : Int) < ms.length) = False := by rw [eq_iff_iff, iff_false]; omega
  have hx3 : (10 < ms.length) = False := by rw [eq_iff_iff, iff_false]; omega
  go_enter Try.func6, Try.ntmps6
  go_wp2_with fail
  generalize w.alloc _ = w2 at *
  generalize w.heap.size = gx at *
  refine (awake6_any _).mono ?_
  rintro e w1 ⟨rfl, hk⟩
  replace HS := Lib.hid (HS.out.grow hk)
  clear hk
  have c0 := (HS.out.blk 0 rfl).cell 0
  simp at c0
  have c1 := (HS.out.blk 0 rfl).cell 1
  simp at c1
  have c2 := (HS.out.blk 0 rfl).cell 2
  simp at c2
  go_wp2_with fail
  refine (kmake l r s _ l0 l1 r0 r1 s0 s1).mono ?_
  rintro e w3 ⟨k, hk, hL, hR, hS, rfl, hkk⟩
  simp only [Kfg.cells]
  replace HS := Lib.hid ((HS.out.grow hkk).new 30 #[.int .i64 (k.L : Int), .int .i64 (k.R : Int), .int .i64 (k.S : Int)])
  have HK := Lib.hid hk
  clear hkk hk c0 c1 c2
  go_wp2_with fail
  generalize w3.alloc _ = w4 at *
  generalize w3.heap.size = gk at *
  refine (formatted_any k _ [] _ HK.out (rd_nil6 _ 0) (by decide)).mono ?_
  rintro e w5 ⟨d, rfl, hdb, hd, hkk⟩
  obtain ⟨s5, hs5⟩ : ∃ s5, s5 = (St.fresh (-1) 0 (fill [] k.words)).run (fmtOps k) := ⟨_, rfl⟩
  rw [← hs5] at hd
  have hI : s5.Is k.words := by rw [hs5]; exact (fresh_fill [] k).run _
  have hA : AllS s5 k := by rw [hs5]; exact all_of HK.out (fresh_fill [] k)
  have hl5 : s5.l < 0 := by rw [hs5, St.run_l]; show (-1 : Int) < 0; decide
  replace HS := Lib.hid (HS.out.add hkk (r := devR d s5) hd hdb)
  have HI := Lib.hid hI
  have HA := Lib.hid hA
  have HW := Lib.hid hA.whole
  have HL := Lib.hid hl5
  have HE := Lib.hid hs5
  clear hdb hd hkk hs5 hI hA hl5
  obtain ⟨og, hog⟩ : ∃ og, s5.nw = og := ⟨_, rfl⟩
  have hP0 : P1 s5 k og 0 (fun _ => 0) (fun _ => 0) := by rw [← hog]; exact AllS.start HK.out HA.out HE.out _ _
  have HOG := Lib.hid hog
  have HP0 := Lib.hid hP0
  clear hog hP0
  have c0 := (HS.out.blk 1 rfl).cell 0
  simp at c0
  have c1 := (HS.out.blk 1 rfl).cell 1
  simp at c1
  have c2 := (HS.out.blk 1 rfl).cell 2
  simp at c2
  go_wp2_with fail
  refine (place_any k a 0 _ HK.out ha).mono ?_
  rintro e w1 ⟨rfl, hk⟩
  replace HS := Lib.hid (HS.out.grow hk)
  clear hk
  clear c0 c1 c2
  obtain ⟨q, hp⟩ : ∃ q, k.place a = q := ⟨_, rfl⟩
  have hpl := Kfg.place_lt HK.out a
  rw [hp] at hpl ⊢
  clear hp
  obtain ⟨hpl1, hpl2⟩ := hpl
  go_wp2_with fail
  refine (load_is d s5 q (og q) _ (HS.out.dev 2 rfl) (by rw [HOG.out])).mono ?_
  rintro e w' ⟨rfl, rfl⟩
  have c0 := (HS.out.blk 1 rfl).cell 0
  simp at c0
  have c1 := (HS.out.blk 1 rfl).cell 1
  simp at c1
  have c2 := (HS.out.blk 1 rfl).cell 2
  simp at c2
  go_wp2_with fail
  refine (open_any d s5 k 1 0 _ (HS.out.dev 2 rfl) HK.out (by rw [HW.out.w8]; decide) (by rw [HW.out.w8]; decide) (AllS.log HK.out HW.out)).mono ?_
  rintro e w6 ⟨gl, rfl, hgn, hb, hkk⟩
  replace HS := Lib.hid (HS.out.add hkk (r := blkR gl 79 (logC d k 1 0)) hb (by intro y hy; simp [blkR] at hy; subst hy; exact hgn))
  clear hb hkk hgn c0 c1 c2
  have hgd : gl ∉ d.blocks := HS.out.apart 3 2 _ _ (by decide) rfl rfl gl (by simp [blkR])
  have HGD := Lib.hid hgd
  clear hgd
  go_wp2_with fail
  go_loopw [13, 42] (fun v0 v' wr => ∃ (j n : Nat) (p : Nat → Nat) (v : Nat → Int) (s' : St), j ≤ ms.length ∧ v' = .int .i64 (j : Int) ∧ v0 = .int .i64 (n : Int) ∧ n = min j k.L ∧ ((P1 s' k og n p v ∧ ∀ i, i < n → p i = q) ∧ s'.Is k.words ∧ s'.l < 0) ∧ Sep w [] [blkR gx 24 #[.int .u16 l, .int .u16 r, .int .u16 s], blkR gk 30 #[.int .i64 (k.L : Int), .int .i64 (k.R : Int), .int .i64 (k.S : Int)], devR d s', blkR gl 79 (logC d k 1 n)] wr) (fun v0 v' _ => ms.length - (intOf v').toNat)
  case atStart => exact ⟨0, 0, _, _, s5, by omega, by simp, by simp, by omega, ⟨⟨HP0.out, fun i hi => by omega⟩, HI.out, HL.out⟩, HS.out⟩
  case round =>
    clear HS HE HL HI HW HA HP0
    obtain ⟨j, n, p, v, s', hj, rfl, rfl, hnj, hf, hs⟩ := hrel
    have HS := Lib.hid hs
    have HF := Lib.hid hf
    have HN := Lib.hid hnj
    clear hs hf hnj
    have hkL : (k.L : Int) ≤ 200 := by have := HK.out.l1; omega
    have hnI : (n : Int) ≤ 200 := by have := HN.out; omega
    by_cases hlt : j < ms.length
    · have hjI : (j : Int) < ms.length := by omega
      obtain ⟨x, hx⟩ : ∃ x, ms.getD j 0 = x := ⟨_, rfl⟩
      obtain ⟨A', c', hA, hr⟩ := (HQ.out.keep HS.out.keep).cellAt
      injection hA with e1 e2 e3
      subst e1
      obtain ⟨g, off, rfl, k0⟩ := hr j hlt
      rw [hx] at k0
      clear hx hr e2 e3
      by_cases hnL : n < k.L
      · obtain ⟨y, hy⟩ : ∃ y, s'.nw q = y := ⟨_, rfl⟩
        have hval : (s'.store (16 + 4 * n + 1) (q : Int)).nw q = y := by
          rw [St.nw_store HF.out.2.1 (by have := k.act_le; omega), if_neg (by have := k.act_le; omega)]; exact hy
        have hP1 := HF.out.1.1.app HK.out HF.out.2.1 hnL ⟨hpl1, hpl2⟩ hy
        have hI1 : (s'.run (appOps 1 n q y)).Is k.words := HF.out.2.1.run _
        have hP2 := hP1.store HK.out hI1 (i := n) (by omega) x
        rw [show upd p n q n = q from if_pos rfl] at hP2
        have hl1 : (s'.run (appOps 1 n q y)).l < 0 := by rw [St.run_l]; exact HF.out.2.2
        have hI2 := hI1.store q x
        have hl2 : ((s'.run (appOps 1 n q y)).store q x).l < 0 := hl1
        have HP2 := Lib.hid hP2
        have HI1 := Lib.hid hI1
        have HI2 := Lib.hid hI2
        have HL1 := Lib.hid hl1
        have HL2 := Lib.hid hl2
        have HV := Lib.hid hval
        clear hy hval hP1 hP2 hI1 hI2 hl1 hl2
        go_wp2_with fail
        refine (append_any d s' k 1 y n q gl _ (HS.out.dev 2 rfl) (HS.out.blk 3 rfl) HGD.out HK.out HF.out.2.1.now (by decide) (by decide) hnL hpl2 HV.out).mono ?_
        rintro e w1 hp
        obtain ⟨rfl, hd, hb, hkp⟩ := hp.free (HF.out.2.2)
        replace HS := Lib.hid (HS.out.step2 (i := 2) (j := 3) (by decide) rfl rfl hkp (r' := devR d (s'.run (appOps 1 n q y))) (q' := blkR gl 79 (logC d k 1 (n + 1))) hd hb (fun _ h => h) (fun _ h => h))
        clear hp hd hb hkp
        go_wp2_with fail
        refine (store_free d _ q x _ (HS.out.dev 2 rfl) HL1.out (by rw [HI1.out.now]; exact hpl2)).mono ?_
        rintro e w1 ⟨rfl, hd, hk⟩
        replace HS := Lib.hid (HS.out.did (i := 2) rfl hd hk)
        clear hd hk
        go_wp2
        refine ⟨⟨j + 1, n + 1, _, _, _, by omega, by simp, by simp, by have := HN.out; omega, ⟨⟨HP2.out, fun i hi => ?_⟩, HI2.out, HL2.out⟩, HS.out⟩, by simp [intOf]; omega⟩
        by_cases hin : i = n
        · rw [hin]; exact if_pos rfl
        · exact (if_neg hin).trans (HF.out.1.2 i (by omega))
      · go_wp2_with fail
        refine (append_full d s' k 1 (q : Int) n gl _ (HS.out.dev 2 rfl) (HS.out.blk 3 rfl) (by omega) (by rw [HF.out.2.1.now]; omega) (by have := HN.out; omega)).mono ?_
        rintro e w1 ⟨rfl, hk⟩
        replace HS := Lib.hid (HS.out.grow hk)
        clear hk
        go_wp2
        exact ⟨⟨j + 1, n, p, v, s', by omega, by simp, by simp, by have := HN.out; omega, HF.out, HS.out⟩, by simp [intOf]; omega⟩
    · obtain rfl : j = ms.length := by omega
      go_wp2_with fail
      refine (log_len d k 1 n gl _ (HS.out.blk 3 rfl)).mono ?_
      rintro e w' ⟨rfl, rfl⟩
      have c0 := (HS.out.blk 1 rfl).cell 0
      simp at c0
      have hua := HF.out.1.1.undo_all HK.out HF.out.2.1 q hpl1 hpl2
      have HU := Lib.hid hua
      clear hua
      have hle : (ms.length ≤ k.L ∧ n = ms.length) ∨ (k.L < ms.length ∧ n = k.L) := by have := HN.out; omega
      rcases hle with ⟨hle, hn⟩ | ⟨hle, hn⟩
      all_goals
        have hn0 : (n : Int) = _ := congrArg Nat.cast hn
        have HHN := Lib.hid hn
        clear hn
        go_wp2_with fail
        refine (undo_any d s' k 1 n gl p v _ (HS.out.dev 2 rfl) (HS.out.blk 3 rfl) HGD.out HK.out HF.out.2.1 (by decide) (by decide) HF.out.1.1.le HF.out.1.1.undo_pre).mono ?_
        rintro e w8 hp
        obtain ⟨rfl, hd, hb, hkp⟩ := hp.free HF.out.2.2
        replace HS := Lib.hid (HS.out.step2 (i := 2) (j := 3) (by decide) rfl rfl hkp (r' := devR d _) (q' := blkR gl 79 _) hd hb (fun _ h => h) (fun _ h => h))
        clear hp hd hb hkp c0 hn0
        go_wp2_with fail
        refine (load_is d _ q (og q) _ (HS.out.dev 2 rfl) HU.out.1).mono ?_
        rintro e w' ⟨rfl, rfl⟩
        go_wp2
        go_ret
        exact ⟨rfl, HS.out.keep⟩

theorem UlogOldest.walk {v2 : Value} {w : World} (l r s : Int) (h : (lowest .u16 ≤ l ∧ l ≤ greatest .u16) ∧ (lowest .u16 ≤ r ∧ r ≤ greatest .u16) ∧ (lowest .u16 ≤ s ∧ s ≤ greatest .u16)) (a : Int) (a0 : lowest .u16 ≤ a) (a1 : a ≤ greatest .u16) (ms : List Int) (hq : Rd w v2 (uw ms)) (_ : ∀ x ∈ ms, lowest .u64 ≤ x ∧ x ≤ greatest .u64) (hml : ms.length ≤ maxLen) :
    Calls Try.prog 6 #[.agg #[.int .u16 l, .int .u16 r, .int .u16 s], .int .u16 a, v2] w fun e w' => e = .returned (.bool true) ∧ Below w.heap.size w w' := by
  obtain ⟨⟨l0, l1⟩, ⟨r0, r1⟩, s0, s1⟩ := h
  simp [lowest, greatest] at l0 l1 r0 r1 s0 s1 a0 a1
  obtain ⟨b, rfl⟩ : ∃ b : Nat, a = (b : Int) := ⟨a.toNat, by omega⟩
  exact (UlogOldest.core l r s b v2 ms w l0 l1 r0 r1 s0 s1 (by omega) hq hml).mono fun e w' ⟨he, hk⟩ => ⟨he, hk.below⟩
end Go.Proofs.Ythfelcnhkabdhaa
