/-
  RootsSame: the walk.
-/
import Derived.Deep.CutRange
import Derived.Test.YtaophnicdbmojaaAwk8
import Derived.Test.YtaophnicdbmojaaRootsC
import Derived.Test.YtaophnicdbmojaaRootsReadsW
set_option linter.unusedSimpArgs false
set_option linter.unusedVariables false
set_option maxRecDepth 100000
namespace Go.Proofs.Ytaophnicdbmojaa
open Go.RowKit Go.Shelf

set_option maxRecDepth 100000 in
set_option maxHeartbeats 4000000 in
theorem RootsSame.core (l r s x v0 : Int) (v1 : Value) (ps : List Int) (w : World) (l0 : 0 ≤ l) (l1 : l ≤ 65535) (r0 : 0 ≤ r) (r1 : r ≤ 65535) (s0 : 0 ≤ s) (s1 : s ≤ 65535) (x0 : 0 ≤ x) (x1 : x ≤ 255) (hp : Rd w v1 (uw ps)) (hpl : ps.length ≤ maxLen) :
    Calls Try.prog 5 #[.agg #[.int .u16 l, .int .u16 r, .int .u16 s], v1, .int .u8 x, .int .u64 v0] w fun e w' => e = .returned (.bool true) ∧ Keep w.heap.size [] w w' := by
  simp only [maxLen] at hpl
  obtain ⟨SA, SC, rfl, hps⟩ := hp.cellAt
  have HS := Lib.hid ((Sep.start w []).new 24 #[.int .u16 l, .int .u16 r, .int .u16 s])
  have HP := Lib.hid hp
  clear hp hps
  by_cases hb2 : 20 < ps.length
  · have hbI : (20 : Int) < ps.length := by omega
    go_enter Try.func5, Try.ntmps5
    go_wp2_with fail
    generalize w.alloc _ = w2 at *
    refine (awake8_any _).mono ?_
    rintro e w1 ⟨rfl, hk⟩
    replace HS := Lib.hid (HS.out.grow hk)
    clear hk
    go_wp2
    go_ret
    exact ⟨rfl, HS.out.keep⟩
  have hx4 : ((20 : Int) < ps.length) = False := by rw [eq_iff_iff, iff_false]; omega
  have hx5 : (20 < ps.length) = False := by rw [eq_iff_iff, iff_false]; omega
  go_enter Try.func5, Try.ntmps5
  go_wp2_with fail
  generalize w.alloc _ = w2 at *
  generalize w.heap.size = gx at *
  refine (awake8_any _).mono ?_
  rintro e w1 ⟨rfl, hk⟩
  replace HS := Lib.hid (HS.out.grow hk)
  clear hk
  have c0 := (HS.out.blk 0 rfl).cell 0
  simp at c0
  have c1 := (HS.out.blk 0 rfl).cell 1
  simp at c1
  have c2 := (HS.out.blk 0 rfl).cell 2
  simp at c2
  go_wp2_with fail
  refine (kmake l r s _ l0 l1 r0 r1 s0 s1).mono ?_
  rintro e w3 ⟨k, hk, hL, hR, hS, rfl, hkk⟩
  simp only [Kfg.cells]
  replace HS := Lib.hid ((HS.out.grow hkk).new 29 #[.int .i64 (k.L : Int), .int .i64 (k.R : Int), .int .i64 (k.S : Int)])
  have HK := Lib.hid hk
  clear hkk hk c0 c1 c2
  go_wp2_with fail
  generalize w3.alloc _ = w4 at *
  generalize w3.heap.size = gk at *
  refine (formatted_any k _ [] _ HK.out (rd_nil6 _ 0) (by decide)).mono ?_
  rintro e w5 ⟨d, rfl, hdb, hd, hkk⟩
  obtain ⟨s5, hs5⟩ : ∃ s5, s5 = (St.fresh (-1) 0 (fill [] k.words)).run (fmtOps k) := ⟨_, rfl⟩
  rw [← hs5] at hd
  have hI : s5.Is k.words := by rw [hs5]; exact (fresh_fill [] k).run _
  have hA : AllS s5 k := by rw [hs5]; exact all_of HK.out (fresh_fill [] k)
  have hl5 : s5.l < 0 := by rw [hs5, St.run_l]; show (-1 : Int) < 0; decide
  replace HS := Lib.hid (HS.out.add hkk (r := devR d s5) hd hdb)
  have h6 : RbS s5 k 0 0 ps 0 := ⟨hI, hl5, (hA.zer 0 (by omega)).1, (hA.zer 1 (by omega)).1, fun i hi => by
    rw [if_neg (by omega)]
    have := (hA.zer (2 + i) (by omega)).1
    rwa [show k.act + (2 + i) = k.act + 2 + i by omega] at this⟩
  have H6 := Lib.hid h6
  clear hdb hd hkk hs5 hI hA hl5 h6
  obtain ⟨hw1, hw2⟩ := Kfg.words_le HK.out
  obtain ⟨nw, hnw⟩ : ∃ nw, k.words = nw := ⟨_, rfl⟩
  have HNW := Lib.hid hnw
  rw [hnw] at hw1 hw2
  have hkS : k.S ≤ 4096 := HK.out.s1
  have hkR : k.R ≤ 16 := HK.out.r1
  have hkR0 : 1 ≤ k.R := HK.out.r0
  clear hnw
  have c1 := (HS.out.blk 1 rfl).cell 1
  simp at c1
  obtain ⟨M, hM⟩ : ∃ M, min ps.length k.R = M := ⟨_, rfl⟩
  have hMl : M ≤ k.R ∧ M ≤ ps.length ∧ (M < k.R → M = ps.length) := by omega
  go_upto_region 9 with fail
  go_cut [37, 38] from 33 to 38 (fun v66 v67 wx => v66 = .int .i64 (M : Nat) ∧ v67 = .int .i64 0 ∧ wx = w5)
  case first =>
    go_wp2
    all_goals go_meet
    all_goals (refine ⟨by congr 1; omega, rfl, rfl⟩)
  case rest =>
    obtain ⟨rfl, rfl, rfl⟩ := hcut
    clear hM c1
    go_wp2_with fail
    replace HS : Hid (Sep w [] [blkR gx 24 #[.int .u16 l, .int .u16 r, .int .u16 s], blkR gk 29 #[.int .i64 (k.L : Int), .int .i64 (k.R : Int), .int .i64 (k.S : Int)], devR d s5] wc) := HS
    go_loopw [12, 38] (fun _ v' wr => ∃ (j : Nat) (t : St), j ≤ M ∧ v' = .int .i64 (j : Int) ∧ RbS t k 0 0 ps j ∧ Sep w [] [blkR gx 24 #[.int .u16 l, .int .u16 r, .int .u16 s], blkR gk 29 #[.int .i64 (k.L : Int), .int .i64 (k.R : Int), .int .i64 (k.S : Int)], devR d t] wr) (fun _ v' _ => M - (intOf v').toNat)
    case atStart => exact ⟨0, s5, by omega, rfl, H6.out, HS.out⟩
    case round =>
      clear HS H6
      obtain ⟨j, t, hj, rfl, ht, hs⟩ := hrel
      have HS := Lib.hid hs
      have HT := Lib.hid ht
      clear hs ht
      by_cases hlt : j < M
      · have hjI : (j : Int) < ps.length := by omega
        obtain ⟨A', c', hA, hr⟩ := (HP.out.keep HS.out.keep).cellAt
        injection hA with e1 e2 e3
        subst e1
        obtain ⟨g, off, rfl, k0⟩ := hr j (by omega)
        obtain ⟨z, hz⟩ : ∃ z, ps.getD j 0 = z := ⟨_, rfl⟩
        rw [hz] at k0
        have k1 : ∀ x : Ext wr, x.now.cell? ⟨g, off + j, none⟩ = some (.int .u64 z) := fun x => x.cell k0
        obtain ⟨m, hm⟩ : ∃ m, k.act + 2 + j = m := ⟨_, rfl⟩
        have hmw : m < nw := by omega
        have HM := Lib.hid hm
        have HZ := Lib.hid hz
        clear hr e2 e3 hm hz k0
        have c0 : ∀ x : Ext wr, x.now.cell? ⟨gk, 0, none⟩ = some (.int .i64 (k.L : Int)) := fun x => x.cell (by simpa using (HS.out.blk 1 rfl).cell 0)
        have c1 : ∀ x : Ext wr, x.now.cell? ⟨gk, 1, none⟩ = some (.int .i64 (k.R : Int)) := fun x => x.cell (by simpa using (HS.out.blk 1 rfl).cell 1)
        have c2 : ∀ x : Ext wr, x.now.cell? ⟨gk, 2, none⟩ = some (.int .i64 (k.S : Int)) := fun x => x.cell (by simpa using (HS.out.blk 1 rfl).cell 2)
        go_wp2_with fail
        refine wp_region_ext_tail 8 (by kernel_rfl) (by kernel_rfl) ?_
        simp only [List.take_succ_cons, List.take_zero, List.drop_succ_cons, List.drop_zero]
        repeat (go_big_quiet_step ((first | (go_at_call 22; with_reducible exact Calls.ext (kroot_eq k _ HK.out j m (by omega) HM.out)))))
        refine wpQuiet_nil ?_
        rintro _ ⟨x, rfl⟩
        replace HS := Lib.hid (HS.out.grow x.keep)
        go_wp2_with fail
        refine (store_free d t m z _ (HS.out.dev 2 rfl) HT.out.lim (by rw [HT.out.is.now, HNW.out]; exact hmw)).mono ?_
        rintro e w1 ⟨rfl, hd, hk⟩
        replace HS := Lib.hid (HS.out.did (i := 2) rfl hd hk)
        clear hd hk
        clear c0 c1 c2 k1
        have hnx := HT.out.next HK.out (show j < k.R by omega) HM.out
        rw [HZ.out] at hnx
        have HNX := Lib.hid hnx
        clear hnx
        go_wp2
        exact ⟨⟨j + 1, t.store m z, by omega, by first | rfl | go_num | simp, HNX.out, HS.out⟩, by simp [intOf]; omega⟩
      · obtain rfl : j = M := by omega
        have hlt' : ¬ (j : Int) < (j : Int) := by omega
        have c0 := (HS.out.blk 1 rfl).cell 0
        simp at c0
        have c1 := (HS.out.blk 1 rfl).cell 1
        simp at c1
        have c2 := (HS.out.blk 1 rfl).cell 2
        simp at c2
        go_wp2_with fail
        refine (rread_any d t k 0 0 _ (HS.out.dev 2 rfl) HK.out HT.out.is.now HT.out.act HT.out.used (by decide) (by omega)).mono ?_
        rintro e w6 ⟨v, rfl, hkk, hrow, hnew⟩
        obtain ⟨rs, hrs⟩ : ∃ rs, rootsOf t k k.R = rs := ⟨_, rfl⟩
        rw [hrs] at hrow
        have hrl : rs.length = k.R := by rw [← hrs]; simp [rootsOf]
        have hul : (uw rs).length = k.R := by simp [uw]; exact hrl
        have hS1 := HS.out.add hkk (r := rowR 25 v (uw rs)) hrow hnew
        obtain ⟨gr, RC, ex, rfl, hS2⟩ := hS1.rowBlk (i := 3) rfl (by omega)
        replace HS := Lib.hid hS2
        rw [hul]
        simp only [rbC]
        clear hkk hrow hnew hS1 hS2 c0 c1 c2 HP
        have c0 := (HS.out.blk 1 rfl).cell 0
        simp at c0
        have c1 := (HS.out.blk 1 rfl).cell 1
        simp at c1
        have c2 := (HS.out.blk 1 rfl).cell 2
        simp at c2
        have hgl := (HS.out.blk 1 rfl).lt
        have HRS := Lib.hid hrs
        clear hrs
        go_upto_region 15 with fail
        replace HS := Lib.hid (HS.out.new 39 #[.int .i64 0, .int .i64 0, .slice (some ⟨gr, 0, none⟩) k.R RC])
        clear c0 c1 c2 hgl
        generalize w6.alloc _ = w7 at *
        generalize w6.heap.size = gb at *
        have c1 := (HS.out.blk 1 rfl).cell 1
        simp at c1
        have b2 := (HS.out.blk 4 rfl).cell 2
        simp at b2
        go_upto_region 18 with fail
        obtain ⟨ws, hws⟩ : ∃ ws : List Int, ((0 : Nat) : Int) :: ((0 : Nat) : Int) :: rs = ws := ⟨_, rfl⟩
        have hwl : ws.length = k.R + 2 := by rw [← hws]; simp; exact hrl
        have hsame : ∀ q, q < k.R + 2 → t.nw (k.act + q) = ws.getD q 0 := by
          intro q hq
          rw [← hws]
          rcases q with _ | _ | q
          · exact HT.out.act
          · exact HT.out.used
          · have hq2 : q < rs.length := by omega
            have hq3 : q < k.R := by omega
            have h4 : (rootsOf t k k.R)[q]? = some (t.nw (k.act + 2 + q)) := by simp [rootsOf, hq3]
            rw [HRS.out, List.getElem?_eq_getElem hq2] at h4
            simp only [Option.some.injEq] at h4
            rw [show k.act + (q + 1 + 1) = k.act + 2 + q by omega, ← h4]
            simp [List.getD_eq_getElem?_getD, hq2]
        have hc0 : cnt t k.act ws (rs.length + 2) = 0 := by
          rw [cnt_one 0 _ fun q hq _ => hsame q (by omega), if_neg (fun h => h.2 (hsame 0 (by omega)))]
        replace HS := Lib.hid (HS.out.andNew (i := 2) rfl 3 #[.int .i64 0])
        have HSM := Lib.hid hsame
        have HWS := Lib.hid hws
        have HC0 := Lib.hid hc0
        clear c1 b2 hsame hws hc0
        generalize w7.alloc _ = w8 at *
        generalize w7.heap.size = gn at *
        replace HS : Hid (Sep w [] [blkR gx 24 #[.int .u16 l, .int .u16 r, .int .u16 s], blkR gk 29 #[.int .i64 (k.L : Int), .int .i64 (k.R : Int), .int .i64 (k.S : Int)], andR (devR d t) (blkR gn 3 #[.int .i64 0]), blkR gr 25 (uw rs ++ ex).toArray, blkR gb 39 #[.int .i64 0, .int .i64 0, .slice (some ⟨gr, 0, none⟩) k.R RC]] w8) := HS
        have hrd : Rd w8 (.slice (some ⟨gr, 0, none⟩) k.R RC) (uw rs) := by
          have h := Rd.of_uw (n := RC) (HS.out.blk 3 rfl)
          rwa [hrl] at h
        have hwr := rwrite_any d k 0 0 (.slice (some ⟨gr, 0, none⟩) k.R RC) rs 27 #[] #[.pointer (some ⟨gn, 0, none⟩)] (fun i r => r = andR (devR d t) (blkR gn 3 #[.int .i64 (cnt t k.act ws i : Int)])) (fun _ _ => False) (andR (devR d t) (blkR gn 3 #[.int .i64 0])) w8 HK.out (by decide) (by decide) hrd (by omega) (by omega) (by rw [HWS.out]; exact takes_count HK.out (by omega)) rfl (HS.out.all 2 _ rfl)
        have HWR := Lib.hid hwr
        clear hrd hwr
        have c0 := (HS.out.blk 1 rfl).cell 0
        simp at c0
        have c1 := (HS.out.blk 1 rfl).cell 1
        simp at c1
        have c2 := (HS.out.blk 1 rfl).cell 2
        simp at c2
        have b0 := (HS.out.blk 4 rfl).cell 0
        simp at b0
        have b1 := (HS.out.blk 4 rfl).cell 1
        simp at b1
        have b2 := (HS.out.blk 4 rfl).cell 2
        simp at b2
        go_wp2_with fail
        refine HWR.out.mono ?_
        rintro e w9 ⟨err, r', rfl, hS, ⟨rfl, rfl⟩ | ⟨_, hf⟩⟩
        rotate_left
        · exact hf.elim
        rw [HC0.out] at hS
        replace HS := Lib.hid (HS.out.app hS (i := 2) rfl (fun k h => h) (j := 0) rfl)
        clear hS HWR c0 c1 c2 b0 b1 b2
        replace HS : Hid (Sep w [] [blkR gx 24 #[.int .u16 l, .int .u16 r, .int .u16 s], blkR gk 29 #[.int .i64 (k.L : Int), .int .i64 (k.R : Int), .int .i64 (k.S : Int)], andR (devR d t) (blkR gn 3 #[.int .i64 0]), blkR gr 25 (uw rs ++ ex).toArray, blkR gb 39 #[.int .i64 0, .int .i64 0, .slice (some ⟨gr, 0, none⟩) k.R RC]] w9) := HS
        have n0 := (show Blk w9 gn 3 #[.int .i64 0] from (HS.out.all 2 _ rfl).2.1).cell 0
        simp at n0
        obtain ⟨i, hi1, hi2, hi3⟩ := tmod_some x k.R x0 (by omega)
        have hiI : (i : Int) < (k.R : Int) := by omega
        have hzR : ((k.R : Int) = 0) = False := by simp; omega
        obtain ⟨y, hy⟩ : ∃ y, rs.getD i 0 = y := ⟨_, rfl⟩
        have k0 : w9.cell? ⟨gr, i, none⟩ = some (.int .u64 y) := by
          rw [(HS.out.blk 3 rfl).cell]
          have hi4 : i < rs.length := by omega
          simp [uw, hi4, List.getElem?_append_left, ← hy, List.getD_eq_getElem?_getD]
        have z0 := (HS.out.blk 3 rfl).frozen i
        have hput := HS.out.put (i := 3) rfl i (.int .u64 v0)
        have hset : (uw rs ++ ex).toArray.setIfInBounds i (.int .u64 v0) = (uw (rs.set i v0) ++ ex).toArray := by
          simp only [List.setIfInBounds_toArray]
          congr 1
          rw [List.set_append_left _ _ (by simp [uw]; omega)]
          simp [uw, List.map_set]
        rw [hset] at hput
        have HPUT := Lib.hid hput
        have HY := Lib.hid hy
        clear hput hset hy
        have c1 := (HS.out.blk 1 rfl).cell 1
        simp at c1
        have b2 := (HS.out.blk 4 rfl).cell 2
        simp at b2
        go_upto_region 24 with fail
        replace HS : Hid (Sep w [] [blkR gx 24 #[.int .u16 l, .int .u16 r, .int .u16 s], blkR gk 29 #[.int .i64 (k.L : Int), .int .i64 (k.R : Int), .int .i64 (k.S : Int)], andR (devR d t) (blkR gn 3 #[.int .i64 0]), blkR gr 25 (uw (rs.set i v0) ++ ex).toArray, blkR gb 39 #[.int .i64 0, .int .i64 0, .slice (some ⟨gr, 0, none⟩) k.R RC]] (w9.setCell ⟨gr, i, none⟩ (.int .u64 v0))) := HPUT
        clear HPUT c1 b2 k0 z0 n0
        generalize w9.setCell _ _ = wa at *
        obtain ⟨rs2, hrs2⟩ : ∃ rs2, rs.set i v0 = rs2 := ⟨_, rfl⟩
        have hrl2 : rs2.length = k.R := by rw [← hrs2]; simpa using hrl
        obtain ⟨ws2, hws2⟩ : ∃ ws2 : List Int, ((0 : Nat) : Int) :: ((0 : Nat) : Int) :: rs2 = ws2 := ⟨_, rfl⟩
        have hwl2 : ws2.length = k.R + 2 := by rw [← hws2]; simp; exact hrl2
        have hg2 : ∀ q, ws2.getD q 0 = if q = i + 2 then v0 else ws.getD q 0 := by
          intro q
          rw [← hws2, ← HWS.out, ← hrs2]
          rcases q with _ | _ | q
          · simp
          · simp
          · have hi4 : i < rs.length := by omega
            simp only [List.getD_eq_getElem?_getD, List.getElem?_cons_succ, List.getElem?_set]
            by_cases hqi : i = q
            · subst hqi
              simp [hi4]
            · have hqi2 : ¬ q + 1 + 1 = i + 2 := by omega
              have hqi3 : ¬ q = i := fun h => hqi h.symm
              simp [hqi, hqi2, hqi3]
        have hyi : t.nw (k.act + (i + 2)) = y := by
          rw [HSM.out (i + 2) (by omega), ← HWS.out, ← HY.out]
          simp [List.getD_eq_getElem?_getD]
        have hc2 : cnt t k.act ws2 (rs2.length + 2) = if y = v0 then 0 else 1 := by
          rw [cnt_one (i + 2) _ fun q hq hqi => by rw [hg2, if_neg hqi]; exact HSM.out q (by omega), hyi, hg2, if_pos rfl]
          by_cases hyv : y = v0
          · rw [if_neg (fun h => h.2 hyv), if_pos hyv]
          · rw [if_pos ⟨by omega, hyv⟩, if_neg hyv]
        have hset2 : (uw (rs.set i v0) ++ ex).toArray = (uw rs2 ++ ex).toArray := by rw [hrs2]
        rw [hset2] at HS
        obtain ⟨m, hm⟩ : ∃ m, k.act + 2 + i = m := ⟨_, rfl⟩
        have hym : t.nw m = y := by rw [← hm, show k.act + 2 + i = k.act + (i + 2) by omega]; exact hyi
        have HC2 := Lib.hid hc2
        have HWS2 := Lib.hid hws2
        have HM := Lib.hid hm
        have HYM := Lib.hid hym
        clear hset2 hrs2 hws2 hg2 hyi hc2 hm hym
        have hrd : Rd wa (.slice (some ⟨gr, 0, none⟩) k.R RC) (uw rs2) := by
          have h := Rd.of_uw (n := RC) (HS.out.blk 3 rfl)
          rwa [hrl2] at h
        have hwr := rwrite_any d k 0 0 (.slice (some ⟨gr, 0, none⟩) k.R RC) rs2 27 #[] #[.pointer (some ⟨gn, 0, none⟩)] (fun i r => r = andR (devR d t) (blkR gn 3 #[.int .i64 (cnt t k.act ws2 i : Int)])) (fun _ _ => False) (andR (devR d t) (blkR gn 3 #[.int .i64 0])) wa HK.out (by decide) (by decide) hrd (by omega) (by omega) (by rw [HWS2.out]; exact takes_count HK.out (by omega)) rfl (HS.out.all 2 _ rfl)
        have HWR := Lib.hid hwr
        clear hrd hwr
        have c0 := (HS.out.blk 1 rfl).cell 0
        simp at c0
        have c1 := (HS.out.blk 1 rfl).cell 1
        simp at c1
        have c2 := (HS.out.blk 1 rfl).cell 2
        simp at c2
        have b0 := (HS.out.blk 4 rfl).cell 0
        simp at b0
        have b1 := (HS.out.blk 4 rfl).cell 1
        simp at b1
        have b2 := (HS.out.blk 4 rfl).cell 2
        simp at b2
        go_wp2_with fail
        refine HWR.out.mono ?_
        rintro e wb ⟨err, r', rfl, hS, ⟨rfl, rfl⟩ | ⟨_, hf⟩⟩
        rotate_left
        · exact hf.elim
        rw [HC2.out] at hS
        replace HS := Lib.hid (HS.out.app hS (i := 2) rfl (fun k h => h) (j := 0) rfl)
        clear hS HWR c0 c1 c2 b0 b1 b2
        obtain ⟨nn, hnn⟩ : ∃ nn : Nat, (if y = v0 then 0 else 1) = nn := ⟨_, rfl⟩
        rw [hnn] at HS
        replace HS : Hid (Sep w [] [blkR gx 24 #[.int .u16 l, .int .u16 r, .int .u16 s], blkR gk 29 #[.int .i64 (k.L : Int), .int .i64 (k.R : Int), .int .i64 (k.S : Int)], andR (devR d t) (blkR gn 3 #[.int .i64 (nn : Int)]), blkR gr 25 (uw rs2 ++ ex).toArray, blkR gb 39 #[.int .i64 0, .int .i64 0, .slice (some ⟨gr, 0, none⟩) k.R RC]] wb) := HS
        have n0 := (show Blk wb gn 3 #[.int .i64 (nn : Int)] from (HS.out.all 2 _ rfl).2.1).cell 0
        simp at n0
        have c0 := (HS.out.blk 1 rfl).cell 0
        simp at c0
        have c1 := (HS.out.blk 1 rfl).cell 1
        simp at c1
        have c2 := (HS.out.blk 1 rfl).cell 2
        simp at c2
        by_cases hyv : y = v0
        · rw [if_pos hyv] at hnn
          subst hnn
          have d1 : (v0 == y) = true := by simpa using hyv.symm
          have d2 : (v0 != y) = false := by simpa using hyv.symm
          have d3 : decide (v0 = y) = true := by simpa using hyv.symm
          go_wp2_with fail
          refine (kroot_eq k _ HK.out i m (by omega) HM.out).mono ?_
          rintro e wc ⟨rfl, hkk⟩
          replace HS := Lib.hid (HS.out.grow hkk)
          clear hkk c0 c1 c2 n0
          go_wp2_with fail
          refine (load_is d t m y _ (HS.out.all 2 _ rfl).1 HYM.out).mono ?_
          rintro e w' ⟨rfl, rfl⟩
          go_wp2
          go_ret
          exact ⟨by simp, HS.out.keep⟩
        · rw [if_neg hyv] at hnn
          subst hnn
          have d1 : (v0 == y) = false := by simpa using fun h => hyv h.symm
          have d2 : (v0 != y) = true := by simpa using fun h => hyv h.symm
          have d3 : decide (v0 = y) = false := by simpa using fun h => hyv h.symm
          go_wp2_with fail
          refine (kroot_eq k _ HK.out i m (by omega) HM.out).mono ?_
          rintro e wc ⟨rfl, hkk⟩
          replace HS := Lib.hid (HS.out.grow hkk)
          clear hkk c0 c1 c2 n0
          go_wp2_with fail
          refine (load_is d t m y _ (HS.out.all 2 _ rfl).1 HYM.out).mono ?_
          rintro e w' ⟨rfl, rfl⟩
          go_wp2
          go_ret
          exact ⟨by simp, HS.out.keep⟩

theorem RootsSame.walk {v1 : Value} {w : World} (l r s : Int) (h : (lowest .u16 ≤ l ∧ l ≤ greatest .u16) ∧ (lowest .u16 ≤ r ∧ r ≤ greatest .u16) ∧ (lowest .u16 ≤ s ∧ s ≤ greatest .u16)) (ps : List Int) (hp : Rd w v1 (uw ps)) (_ : ∀ x ∈ ps, lowest .u64 ≤ x ∧ x ≤ greatest .u64) (hpl : ps.length ≤ maxLen) (x : Int) (x0 : lowest .u8 ≤ x) (x1 : x ≤ greatest .u8) (v : Int) (_ : lowest .u64 ≤ v) (_ : v ≤ greatest .u64) :
    Calls Try.prog 5 #[.agg #[.int .u16 l, .int .u16 r, .int .u16 s], v1, .int .u8 x, .int .u64 v] w fun e w' => e = .returned (.bool true) ∧ Below w.heap.size w w' := by
  obtain ⟨⟨l0, l1⟩, ⟨r0, r1⟩, s0, s1⟩ := h
  simp [lowest, greatest] at l0 l1 r0 r1 s0 s1 x0 x1
  exact (RootsSame.core l r s x v v1 ps w l0 l1 r0 r1 s0 s1 x0 x1 hp hpl).mono fun e w' ⟨he, hk⟩ => ⟨he, hk.below⟩
end Go.Proofs.Ytaophnicdbmojaa
