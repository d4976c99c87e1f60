/-
  The walk of tumuluslaw05.SuperCut.
-/
import Derived.Test.YthejggahengfnaaAwk5
import Derived.Test.YthejggahengfnaaCutP
import Derived.Test.YthejggahengfnaaSepRun
set_option linter.unusedSimpArgs false
set_option linter.unusedVariables false
namespace Go.Proofs.Ythejggahengfnaa
open Go.RowKit Go.Shelf

theorem cut_bits (k : Nat) (b : Int) (g : Nat) (w : World) (b0 : 0 ≤ b) (b1 : b ≤ 18446744073709551615) (hk : k ≤ 1099511627776) (hc : w.cell? ⟨g, 0, none⟩ = some (.int .u64 b)) :
    Calls Try.prog 39 #[.int .i64 k, .pointer (some ⟨g, 0, none⟩)] w fun e w' => e = .returned (.int .u8 (choiceOf b k)) ∧ w = w' := by
  have hch := choice_any b k w b0 b1 hk
  go_enter Try.func39, Try.ntmps39
  go_wp2_with fail
  refine (choice_any b k w b0 b1 hk).mono ?_
  rintro e w' ⟨rfl, rfl⟩
  go_wp2
  go_ret
  exact ⟨rfl, rfl⟩

def cutL (l r s bt : Int) (k : Kfg) (gx gy gk gl gd ge gb : Nat) (xs : List Int) (d : DevI) (t : St) : List Res :=
  [blkR gx 40 #[.int .u16 l, .int .u16 r, .int .u16 s], blkR gy 27 #[.int .u64 bt], blkR gk 43 #[.int .i64 (k.L : Int), .int .i64 (k.R : Int), .int .i64 (k.S : Int)], blkR gl 27 (uw xs).toArray, devR d t, blkR gd 45 #[.pointer (some ⟨d.b, 0, none⟩)], blkR ge 29 #[.int .i64 0], blkR gb 4 #[.bool false]]

set_option maxHeartbeats 800000 in
theorem cut_body {W w : World} (l r s bt : Int) (k : Kfg) (gx gy gk gl gd ge gb : Nat) (xs : List Int) (d : DevI) (t : St) (hk : k.Ok) (hn : t.now.length = k.words) (hs : Sep W [] (cutL l r s bt k gx gy gk gl gd ge gb xs d t) w) :
    Calls Try.prog 38 #[.pointer (some ⟨gd, 0, none⟩), .pointer (some ⟨gk, 0, none⟩), .pointer (some ⟨ge, 0, none⟩)] w fun e w1 =>
      ((∃ v, e = .returned v) ∧ ∃ _ : Unit, True ∧ Sep W [] (cutL l r s bt k gx gy gk gl gd ge gb xs d (t.run (fmtOps k))) w1) ∨ (e = offE ∧ ∃ m, m < (fmtOps k).length ∧ Sep W [] (cutL l r s bt k gx gy gk gl gd ge gb xs d (t.run ((fmtOps k).take m))) w1) := by
  have HS := Lib.hid hs
  have HK := Lib.hid hk
  have HN := Lib.hid hn
  clear hs hk hn
  have cd := (HS.out.blk 5 rfl).cell 0
  simp at cd
  have c0 := (HS.out.blk 2 rfl).cell 0
  simp at c0
  have c1 := (HS.out.blk 2 rfl).cell 1
  simp at c1
  have c2 := (HS.out.blk 2 rfl).cell 2
  simp at c2
  go_enter Try.func38, Try.ntmps38
  go_wp2_with fail
  refine (format_any d t k _ (HS.out.dev 4 rfl) HK.out HN.out).mono ?_
  rintro e w2 (⟨rfl, hd, hkk⟩ | ⟨m, hm, hg, rfl, hd, hkk⟩)
  · replace HS := Lib.hid (HS.out.did (i := 4) rfl hd hkk)
    clear hd hkk cd c0 c1 c2
    have ce := (HS.out.blk 6 rfl).cell 0
    simp at ce
    have fe := (HS.out.blk 6 rfl).frozen 0
    go_wp2
    go_end0
    exact .inl ⟨⟨_, rfl⟩, (), trivial, HS.out.put (i := 6) rfl 0 (.int .i64 0)⟩
  · replace HS := Lib.hid (HS.out.did (i := 4) rfl hd hkk)
    have HM := Lib.hid hm
    clear hd hkk cd c0 c1 c2 hg hm
    unfold offE
    go_wp2
    exact ⟨rfl, .inr ⟨rfl, m, HM.out, HS.out⟩⟩

set_option maxRecDepth 100000 in
set_option maxHeartbeats 4000000 in
theorem SuperCut.core (l r s : Int) (v1 : Value) (old : List Int) (lim bt : Int) (magic : Bool) (w : World) (l0 : 0 ≤ l) (l1 : l ≤ 65535) (r0 : 0 ≤ r) (r1 : r ≤ 65535) (s0 : 0 ≤ s) (s1 : s ≤ 65535) (hv : Rd w v1 (uw old)) (hm : old.length ≤ maxLen) (m0 : 0 ≤ lim) (m1 : lim ≤ 65535) (t0 : 0 ≤ bt) (t1 : bt ≤ 18446744073709551615) :
    Calls Try.prog 13 #[.agg #[.int .u16 l, .int .u16 r, .int .u16 s], v1, .int .u16 lim, .int .u64 bt, .bool magic] w fun e w' => e = .returned (.bool true) ∧ Keep w.heap.size [] w w' := by
  have hmf : ∀ (fn : Fn) (first cap : Array Value) (w : World), (Instr.makeFunc fn first cap).run Try.prog w = .ok (.func fn first cap) w := fun _ _ _ _ => rfl
  simp only [maxLen] at hm
  obtain ⟨A, c, rfl, hrd⟩ := hv.cellAt
  have hs0 := ((Sep.start w []).new 40 #[.int .u16 l, .int .u16 r, .int .u16 s]).new 27 #[.int .u64 bt]
  simp only [World.size_alloc] at hs0
  have HS := Lib.hid hs0
  have HV := Lib.hid hv
  obtain ⟨lm, hlm, hlm2, hlm3⟩ := tmod_some lim 400 m0 (by decide)
  have HLM := Lib.hid hlm
  have HLM3 := Lib.hid hlm3
  clear hv hrd hs0 hlm hlm3
  have hlm : lim.tmod 400 = (lm : Int) := HLM.out
  have hlm3 : lim % 400 = (lm : Int) := HLM3.out
  by_cases hb1 : 30 < old.length
  · have hbI : (30 : Int) < old.length := by omega
    go_enter Try.func13, Try.ntmps13
    go_wp2_with fail
    generalize (w.alloc _).alloc _ = w2 at *
    refine (awake5_any _).mono ?_
    rintro e w1 ⟨rfl, hk⟩
    replace HS := Lib.hid (HS.out.grow hk)
    clear hk
    go_wp2
    go_ret
    exact ⟨rfl, HS.out.keep⟩
  have hx1 : ((30 : Int) < old.length) = False := by rw [eq_iff_iff, iff_false]; omega
  have hx2 : (30 < old.length) = False := by rw [eq_iff_iff, iff_false]; omega
  go_enter Try.func13, Try.ntmps13
  go_wp2_with fail
  generalize (w.alloc _).alloc _ = w2 at *
  generalize hgx : w.heap.size = gx at *
  generalize gx + 1 = gy at *
  have HGX := Lib.hid hgx
  clear hgx
  refine (awake5_any _).mono ?_
  rintro e w1 ⟨rfl, hk⟩
  replace HS := Lib.hid (HS.out.grow hk)
  clear hk
  have c0 := (HS.out.blk 0 rfl).cell 0
  simp at c0
  have c1 := (HS.out.blk 0 rfl).cell 1
  simp at c1
  have c2 := (HS.out.blk 0 rfl).cell 2
  simp at c2
  go_wp2_with fail
  refine (kmake l r s _ l0 l1 r0 r1 s0 s1).mono ?_
  rintro e w3 ⟨k, hk, hL, hR, hS, rfl, hkk⟩
  simp only [Kfg.cells]
  replace HS := Lib.hid ((HS.out.grow hkk).new 43 #[.int .i64 (k.L : Int), .int .i64 (k.R : Int), .int .i64 (k.S : Int)])
  have HK := Lib.hid hk
  clear hkk hk c0 c1 c2
  go_wp2_with fail
  generalize w3.alloc _ = w4 at *
  generalize w3.heap.size = gk at *
  obtain ⟨n, hn⟩ : ∃ n, k.words = n := ⟨_, rfl⟩
  have hnl : n ≤ 10000 := by have := (Kfg.words_le HK.out).2; omega
  have hn0 : 0 < n := by have := (Kfg.words_le HK.out).1; omega
  have HN := Lib.hid hn
  have hmk := fun w => make_words n w (by omega)
  have hkw := fun w => kwords k w HK.out
  rw [hn] at hkw
  have HKW := Lib.hid hkw
  clear hkw hn
  refine (HKW.out _).mono ?_
  rintro e w1 ⟨rfl, hk⟩
  replace HS := Lib.hid (HS.out.grow hk)
  clear hk
  go_wp2_with fail
  have hs1 := HS.out.new 27 (uw (List.replicate n 0)).toArray
  rw [← fillTo_zero old n] at hs1
  replace HS := Lib.hid hs1
  clear hs1 hmk
  rw [← fillTo_zero old n]
  generalize w1.alloc _ = w5 at *
  generalize w1.heap.size = gl at *
  go_loopw [29] (fun v' wr => ∃ j : Nat, j ≤ n ∧ v' = .int .i64 (j : Int) ∧ Sep w [] [blkR gx 40 #[.int .u16 l, .int .u16 r, .int .u16 s], blkR gy 27 #[.int .u64 bt], blkR gk 43 #[.int .i64 (k.L : Int), .int .i64 (k.R : Int), .int .i64 (k.S : Int)], blkR gl 27 (uw (fillTo old n j)).toArray] wr) (fun v' _ => n - (intOf v').toNat)
  case atStart => exact ⟨0, by omega, rfl, HS.out⟩
  case round =>
    clear HS
    obtain ⟨j, hj, rfl, hs⟩ := hrel
    have HS := Lib.hid hs
    clear hs
    by_cases hlt : j < n
    · have hltI : (j : Int) < n := by omega
      by_cases h0 : old.length = 0
      · obtain rfl : old = [] := List.length_eq_zero_iff.1 h0
        have hs := HS.out
        rw [← fillTo_none] at hs
        have HS2 := Lib.hid hs
        clear hs HS h0
        go_wp2
        exact ⟨⟨j + 1, by omega, by go_num, HS2.out⟩, by simp [intOf]; omega⟩
      · have hp : (0 : Int) < old.length := by omega
        obtain ⟨m, hm, hmn, hm2⟩ := tmod_some (j : Int) old.length (by omega) (by omega)
        obtain ⟨A', c', hA, hr⟩ := (HV.out.keep HS.out.keep).cellAt
        injection hA with e1 e2 e3
        subst e1
        obtain ⟨g, off, rfl, k0⟩ := hr m hmn
        have hfa : old.getD m 0 = fillAt old j := by
          unfold fillAt
          congr 1
          omega
        rw [hfa] at k0
        have hmI : (m : Int) < old.length := by omega
        have hb := HS.out.blk 3 rfl
        have q0 : ∃ u, wr.cell? ⟨gl, j, none⟩ = some (.int .u64 u) := by
          rw [hb.cell]
          exact ⟨if j < j then fillAt old j else 0, by rw [getElem?_toArray_uw, fillTo_get, if_pos hlt]; rfl⟩
        obtain ⟨u, q0⟩ := q0
        have fz := hb.frozen j
        have hs := HS.out.put (i := 3) rfl j (.int .u64 (fillAt old j))
        rw [uw_set, fillTo_set] at hs
        have HS2 := Lib.hid hs
        clear hr e2 e3 hfa hb hs h0
        go_wp2
        exact ⟨⟨j + 1, by omega, by go_num, HS2.out⟩, by simp [intOf]; omega⟩
    · have hge : (n : Int) ≤ j := by omega
      obtain rfl : j = n := by omega
      have hfl : (fill old j).length = j := fillTo_length _ _ _
      have HFL := Lib.hid hfl
      clear hfl
      have HS : Hid (Sep w [] [blkR gx 40 #[.int .u16 l, .int .u16 r, .int .u16 s], blkR gy 27 #[.int .u64 bt], blkR gk 43 #[.int .i64 (k.L : Int), .int .i64 (k.R : Int), .int .i64 (k.S : Int)], blkR gl 27 (uw (fill old j)).toArray] wr) := HS
      cases magic
      · as_aux_lemma =>
          go_wp2_with fail
          have hxl : (fill old j).length = j := HFL.out
          have HXL := Lib.hid hxl
          clear hxl
          generalize fill old j = xs at *
          refine (pnew_any _ _).mono ?_
          rintro e wa ⟨rfl, hw⟩
          have hs1 := HS.out.new 86 #[.int .i64 lm, .int .i64 0]
          rw [← hw] at hs1
          replace HS := Lib.hid hs1
          clear hs1 hw
          generalize wr.heap.size = gp at *
          have hrd : Rd wa (.slice (some ⟨gl, 0, none⟩) j j) (uw xs) := by
            have := Rd.of_uw (w := wa) (n := j) (ex := []) (xs := xs) (by rw [List.append_nil]; exact HS.out.blk 3 rfl)
            rwa [HXL.out] at this
          have HRD := Lib.hid hrd
          clear hrd
          go_wp2_with fail
          refine (new_any gp lm 0 _ xs _ (HS.out.blk 4 rfl) HRD.out (by rw [HXL.out]; omega)).mono ?_
          rintro e w1 ⟨d, rfl, hdp, hdb, hd, hk⟩
          replace HS := Lib.hid (HS.out.step (i := 4) rfl (hk.sub (by simp)) (r' := devR d _) hd (by intro k hm; by_cases hkp : k = d.p; exact .inl (by simp [blkR, hkp, hdp]); exact .inr (hdb k hm (by rw [← hdp]; exact hkp))))
          have HDPd := Lib.hid hdp
          clear hdp hdb hd hk
          have hpx : pad xs = xs := pad_of (by rw [HXL.out, ← HN.out]; exact k.words_mod)
          have hI : (St.fresh lm 0 xs).Is k.words := by have := fresh_is lm 0 xs; rwa [hpx, HXL.out, ← HN.out] at this
          have hall : ∀ i, (St.fresh lm 0 xs).all i (xs.getD i 0) := fun i => by have := fresh_all lm 0 xs i; rwa [hpx] at this
          have HI := Lib.hid hI
          have HALL := Lib.hid hall
          clear hpx hI hall HRD
          replace HS := Lib.hid (HS.out.new 45 #[.pointer (some ⟨d.b, 0, none⟩)])
          obtain ⟨gd, hgd⟩ : ∃ g, g = w1.heap.size := ⟨_, rfl⟩
          have hs2 := HS.out.new 29 #[.int .i64 0]
          simp only [World.size_alloc] at hs2
          rw [← hgd] at hs2
          replace HS := Lib.hid hs2
          have HGD := Lib.hid hgd
          clear hs2 hgd
          go_wp2_with fail
          rw [← HGD.out]
          generalize (w1.alloc _).alloc _ = wr2 at *
          clear HGD
          generalize gd + 1 = ge at *
          refine (HS.out.run (α := Unit) (β := Nat) (PA := fun _ => True) (PB := fun m => m < (fmtOps k).length) (LA := fun _ => cutL l r s bt k gx gy gk gl gd ge wr2.heap.size xs d ((St.fresh lm 0 xs).run (fmtOps k))) (LB := fun m => cutL l r s bt k gx gy gk gl gd ge wr2.heap.size xs d ((St.fresh lm 0 xs).run ((fmtOps k).take m))) 7 rfl _ _ (enters_of Try.func38 (by kernel_rfl) rfl) (fun _ => rfl) (fun _ => rfl)
            (fun w0 h0 => cut_body l r s bt k gx gy gk gl gd ge _ xs d _ HK.out HI.out.now h0)).mono ?_
          rintro e w6 (⟨rfl, _, _, hs6⟩ | ⟨rfl, m, hm, hs6⟩)
          · have HS := Lib.hid hs6
            have HW := Lib.hid (all_of HK.out HI.out).whole
            clear hs6
            have ce := (HS.out.blk 6 rfl).cell 0
            simp at ce
            have cd := (HS.out.blk 5 rfl).cell 0
            simp at cd
            have c0 := (HS.out.blk 2 rfl).cell 0
            simp at c0
            have c1 := (HS.out.blk 2 rfl).cell 1
            simp at c1
            have c2 := (HS.out.blk 2 rfl).cell 2
            simp at c2
            go_wp2_with fail
            refine (whole_any d _ k _ (HS.out.dev 4 rfl) HK.out HW.out).mono ?_
            rintro e w1 ⟨rfl, hk⟩
            replace HS := Lib.hid (HS.out.grow hk)
            clear hk
            clear ce cd c0 c1 c2
            go_wp2
            go_ret
            exact ⟨rfl, HS.out.keep⟩
          · have HS := Lib.hid hs6
            have hcut := cut_law HK.out HI.out (HXL.out.trans HN.out.symm) HALL.out m hm (choiceOf bt)
            have HI2 := Lib.hid ((HI.out.run ((fmtOps k).take m)).crash (choiceOf bt))
            generalize (St.fresh lm 0 xs).run ((fmtOps k).take m) = t at *
            have HCUT := Lib.hid hcut
            clear hs6 hcut hm
            have cd := (HS.out.blk 5 rfl).cell 0
            simp at cd
            go_wp2_with fail
            refine (crash_bits d t _ _ bt _ (HS.out.dev 4 rfl) (enters_of Try.func39 (by kernel_rfl) rfl) (HS.out.blk 1 rfl) (HS.out.gd 1 4 rfl rfl (by decide)) (fun k w h => cut_bits k bt _ w t0 t1 h)).mono ?_
            rintro e w1 ⟨rfl, hd, hk⟩
            replace HS := Lib.hid (HS.out.did (i := 4) rfl hd hk)
            clear hd hk
            generalize t.crash (choiceOf bt) = t2 at *
            clear cd
            have cd := (HS.out.blk 5 rfl).cell 0
            simp at cd
            go_wp2_with fail
            refine (load_nat d t2 0 _ (HS.out.dev 4 rfl)).mono ?_
            rintro e w' ⟨rfl, rfl⟩
            by_cases hmg : t2.nw 0 = MAGIC
            · rw [hmg]
              unfold MAGIC
              have hor := HCUT.out hmg
              have HOR := Lib.hid hor
              clear hor hmg
              go_wp2_with fail
              refine (words_any d t2 _ (HS.out.dev 4 rfl)).mono ?_
              rintro e w1 ⟨va, ga, xa, rfl, hn⟩
              have va_v := hn.val
              replace HS := Lib.hid (HS.out.add hn.keep (r := blkR ga _ _) hn.blk (by intro k hk; simp [blkR] at hk; subst hk; exact hn.new))
              clear hn
              rw [uw_length, HI2.out.now, HN.out] at va_v
              subst va_v
              have hrd : Rd w1 (.slice (some ⟨gl, 0, none⟩) j j) (uw xs) := by
                have := Rd.of_uw (w := w1) (n := j) (ex := []) (xs := xs) (by rw [List.append_nil]; exact HS.out.blk 3 rfl)
                rwa [HXL.out] at this
              have hrd2 : Rd w1 (.slice (some ⟨ga, 0, none⟩) j (j + xa.length)) (uw t2.now) := by
                have := Rd.of_uw (w := w1) (n := j + xa.length) (HS.out.blk 8 rfl)
                rwa [HI2.out.now, HN.out] at this
              have HRD := Lib.hid hrd
              have HRD2 := Lib.hid hrd2
              clear hrd hrd2 cd
              go_wp2_with fail
              refine (equal_any _ _ t2.now xs _ HRD2.out HRD.out (by rw [HI2.out.now, HN.out]; omega)).mono ?_
              rintro e w1 ⟨rfl, hk⟩
              replace HS := Lib.hid (HS.out.grow hk)
              clear hk
              by_cases heq : t2.now = xs
              · rw [decide_eq_true heq]
                clear heq
                go_wp2
                go_ret
                exact ⟨rfl, HS.out.keep⟩
              · rw [decide_eq_false heq]
                have HW := Lib.hid (HOR.out.resolve_left heq)
                clear heq
                have cd := (HS.out.blk 5 rfl).cell 0
                simp at cd
                have c0 := (HS.out.blk 2 rfl).cell 0
                simp at c0
                have c1 := (HS.out.blk 2 rfl).cell 1
                simp at c1
                have c2 := (HS.out.blk 2 rfl).cell 2
                simp at c2
                go_wp2_with fail
                refine (whole_any d _ k _ (HS.out.dev 4 rfl) HK.out HW.out).mono ?_
                rintro e w1 ⟨rfl, hk⟩
                replace HS := Lib.hid (HS.out.grow hk)
                clear hk
                clear cd c0 c1 c2
                go_wp2
                go_ret
                exact ⟨rfl, HS.out.keep⟩
            · have hv1 : (t2.nw 0 == 6076848300954571569) = false := by rw [beq_eq_false_iff_ne]; exact hmg
              have hv2 : (t2.nw 0 != 6076848300954571569) = true := by simp [bne, hv1]
              clear hmg cd
              go_wp2
              go_ret
              exact ⟨rfl, HS.out.keep⟩
      · as_aux_lemma =>
          have hb := HS.out.blk 3 rfl
          have q0 : ∃ u, wr.cell? ⟨gl, 0, none⟩ = some (.int .u64 u) := by
            rw [hb.cell]
            exact ⟨_, by rw [getElem?_toArray_uw, fill, fillTo_get, if_pos hn0]; rfl⟩
          obtain ⟨u, q0⟩ := q0
          have fz := hb.frozen 0
          have hs := HS.out.put (i := 3) rfl 0 (.int .u64 MAGIC)
          rw [uw_set] at hs
          replace HS := Lib.hid hs
          have hnI : (0 : Int) < j := by omega
          clear hb hs
          go_wp2_with fail
          clear q0 fz hnI
          obtain ⟨wz, hwz⟩ : ∃ wz, wr.setCell ⟨gl, 0, none⟩ (.int .u64 MAGIC) = wz := ⟨_, rfl⟩
          rw [hwz] at HS
          rw [show wr.setCell ⟨gl, 0, none⟩ (.int .u64 6076848300954571569) = wz from hwz]
          clear hwz
          have hxl : ((fill old j).set 0 MAGIC).length = j := by rw [List.length_set]; exact HFL.out
          have HXL := Lib.hid hxl
          clear hxl
          generalize (fill old j).set 0 MAGIC = xs at *
          refine (pnew_any _ _).mono ?_
          rintro e wa ⟨rfl, hw⟩
          have hs1 := HS.out.new 86 #[.int .i64 lm, .int .i64 0]
          rw [← hw] at hs1
          replace HS := Lib.hid hs1
          clear hs1 hw
          generalize wz.heap.size = gp at *
          have hrd : Rd wa (.slice (some ⟨gl, 0, none⟩) j j) (uw xs) := by
            have := Rd.of_uw (w := wa) (n := j) (ex := []) (xs := xs) (by rw [List.append_nil]; exact HS.out.blk 3 rfl)
            rwa [HXL.out] at this
          have HRD := Lib.hid hrd
          clear hrd
          go_wp2_with fail
          refine (new_any gp lm 0 _ xs _ (HS.out.blk 4 rfl) HRD.out (by rw [HXL.out]; omega)).mono ?_
          rintro e w1 ⟨d, rfl, hdp, hdb, hd, hk⟩
          replace HS := Lib.hid (HS.out.step (i := 4) rfl (hk.sub (by simp)) (r' := devR d _) hd (by intro k hm; by_cases hkp : k = d.p; exact .inl (by simp [blkR, hkp, hdp]); exact .inr (hdb k hm (by rw [← hdp]; exact hkp))))
          have HDPd := Lib.hid hdp
          clear hdp hdb hd hk
          have hpx : pad xs = xs := pad_of (by rw [HXL.out, ← HN.out]; exact k.words_mod)
          have hI : (St.fresh lm 0 xs).Is k.words := by have := fresh_is lm 0 xs; rwa [hpx, HXL.out, ← HN.out] at this
          have hall : ∀ i, (St.fresh lm 0 xs).all i (xs.getD i 0) := fun i => by have := fresh_all lm 0 xs i; rwa [hpx] at this
          have HI := Lib.hid hI
          have HALL := Lib.hid hall
          clear hpx hI hall HRD
          replace HS := Lib.hid (HS.out.new 45 #[.pointer (some ⟨d.b, 0, none⟩)])
          obtain ⟨gd, hgd⟩ : ∃ g, g = w1.heap.size := ⟨_, rfl⟩
          have hs2 := HS.out.new 29 #[.int .i64 0]
          simp only [World.size_alloc] at hs2
          rw [← hgd] at hs2
          replace HS := Lib.hid hs2
          have HGD := Lib.hid hgd
          clear hs2 hgd
          go_wp2_with fail
          rw [← HGD.out]
          generalize (w1.alloc _).alloc _ = wr2 at *
          clear HGD
          generalize gd + 1 = ge at *
          refine (HS.out.run (α := Unit) (β := Nat) (PA := fun _ => True) (PB := fun m => m < (fmtOps k).length) (LA := fun _ => cutL l r s bt k gx gy gk gl gd ge wr2.heap.size xs d ((St.fresh lm 0 xs).run (fmtOps k))) (LB := fun m => cutL l r s bt k gx gy gk gl gd ge wr2.heap.size xs d ((St.fresh lm 0 xs).run ((fmtOps k).take m))) 7 rfl _ _ (enters_of Try.func38 (by kernel_rfl) rfl) (fun _ => rfl) (fun _ => rfl)
            (fun w0 h0 => cut_body l r s bt k gx gy gk gl gd ge _ xs d _ HK.out HI.out.now h0)).mono ?_
          rintro e w6 (⟨rfl, _, _, hs6⟩ | ⟨rfl, m, hm, hs6⟩)
          · have HS := Lib.hid hs6
            have HW := Lib.hid (all_of HK.out HI.out).whole
            clear hs6
            have ce := (HS.out.blk 6 rfl).cell 0
            simp at ce
            have cd := (HS.out.blk 5 rfl).cell 0
            simp at cd
            have c0 := (HS.out.blk 2 rfl).cell 0
            simp at c0
            have c1 := (HS.out.blk 2 rfl).cell 1
            simp at c1
            have c2 := (HS.out.blk 2 rfl).cell 2
            simp at c2
            go_wp2_with fail
            refine (whole_any d _ k _ (HS.out.dev 4 rfl) HK.out HW.out).mono ?_
            rintro e w1 ⟨rfl, hk⟩
            replace HS := Lib.hid (HS.out.grow hk)
            clear hk
            clear ce cd c0 c1 c2
            go_wp2
            go_ret
            exact ⟨rfl, HS.out.keep⟩
          · have HS := Lib.hid hs6
            have hcut := cut_law HK.out HI.out (HXL.out.trans HN.out.symm) HALL.out m hm (choiceOf bt)
            have HI2 := Lib.hid ((HI.out.run ((fmtOps k).take m)).crash (choiceOf bt))
            generalize (St.fresh lm 0 xs).run ((fmtOps k).take m) = t at *
            have HCUT := Lib.hid hcut
            clear hs6 hcut hm
            have cd := (HS.out.blk 5 rfl).cell 0
            simp at cd
            go_wp2_with fail
            refine (crash_bits d t _ _ bt _ (HS.out.dev 4 rfl) (enters_of Try.func39 (by kernel_rfl) rfl) (HS.out.blk 1 rfl) (HS.out.gd 1 4 rfl rfl (by decide)) (fun k w h => cut_bits k bt _ w t0 t1 h)).mono ?_
            rintro e w1 ⟨rfl, hd, hk⟩
            replace HS := Lib.hid (HS.out.did (i := 4) rfl hd hk)
            clear hd hk
            generalize t.crash (choiceOf bt) = t2 at *
            clear cd
            have cd := (HS.out.blk 5 rfl).cell 0
            simp at cd
            go_wp2_with fail
            refine (load_nat d t2 0 _ (HS.out.dev 4 rfl)).mono ?_
            rintro e w' ⟨rfl, rfl⟩
            by_cases hmg : t2.nw 0 = MAGIC
            · rw [hmg]
              unfold MAGIC
              have hor := HCUT.out hmg
              have HOR := Lib.hid hor
              clear hor hmg
              go_wp2_with fail
              refine (words_any d t2 _ (HS.out.dev 4 rfl)).mono ?_
              rintro e w1 ⟨va, ga, xa, rfl, hn⟩
              have va_v := hn.val
              replace HS := Lib.hid (HS.out.add hn.keep (r := blkR ga _ _) hn.blk (by intro k hk; simp [blkR] at hk; subst hk; exact hn.new))
              clear hn
              rw [uw_length, HI2.out.now, HN.out] at va_v
              subst va_v
              have hrd : Rd w1 (.slice (some ⟨gl, 0, none⟩) j j) (uw xs) := by
                have := Rd.of_uw (w := w1) (n := j) (ex := []) (xs := xs) (by rw [List.append_nil]; exact HS.out.blk 3 rfl)
                rwa [HXL.out] at this
              have hrd2 : Rd w1 (.slice (some ⟨ga, 0, none⟩) j (j + xa.length)) (uw t2.now) := by
                have := Rd.of_uw (w := w1) (n := j + xa.length) (HS.out.blk 8 rfl)
                rwa [HI2.out.now, HN.out] at this
              have HRD := Lib.hid hrd
              have HRD2 := Lib.hid hrd2
              clear hrd hrd2 cd
              go_wp2_with fail
              refine (equal_any _ _ t2.now xs _ HRD2.out HRD.out (by rw [HI2.out.now, HN.out]; omega)).mono ?_
              rintro e w1 ⟨rfl, hk⟩
              replace HS := Lib.hid (HS.out.grow hk)
              clear hk
              by_cases heq : t2.now = xs
              · rw [decide_eq_true heq]
                clear heq
                go_wp2
                go_ret
                exact ⟨rfl, HS.out.keep⟩
              · rw [decide_eq_false heq]
                have HW := Lib.hid (HOR.out.resolve_left heq)
                clear heq
                have cd := (HS.out.blk 5 rfl).cell 0
                simp at cd
                have c0 := (HS.out.blk 2 rfl).cell 0
                simp at c0
                have c1 := (HS.out.blk 2 rfl).cell 1
                simp at c1
                have c2 := (HS.out.blk 2 rfl).cell 2
                simp at c2
                go_wp2_with fail
                refine (whole_any d _ k _ (HS.out.dev 4 rfl) HK.out HW.out).mono ?_
                rintro e w1 ⟨rfl, hk⟩
                replace HS := Lib.hid (HS.out.grow hk)
                clear hk
                clear cd c0 c1 c2
                go_wp2
                go_ret
                exact ⟨rfl, HS.out.keep⟩
            · have hv1 : (t2.nw 0 == 6076848300954571569) = false := by rw [beq_eq_false_iff_ne]; exact hmg
              have hv2 : (t2.nw 0 != 6076848300954571569) = true := by simp [bne, hv1]
              clear hmg cd
              go_wp2
              go_ret
              exact ⟨rfl, HS.out.keep⟩

theorem SuperCut.walk {w : World} (l r s : Int) (h : (lowest .u16 ≤ l ∧ l ≤ greatest .u16) ∧ (lowest .u16 ≤ r ∧ r ≤ greatest .u16) ∧ (lowest .u16 ≤ s ∧ s ≤ greatest .u16)) {v1 : Value} (old : List Int) (hv : Rd w v1 (uw old)) (_ : ∀ x ∈ old, lowest .u64 ≤ x ∧ x ≤ greatest .u64) (hm : old.length ≤ maxLen) (lim : Int) (m0 : lowest .u16 ≤ lim) (m1 : lim ≤ greatest .u16) (bt : Int) (t0 : lowest .u64 ≤ bt) (t1 : bt ≤ greatest .u64) (magic : Bool) :
    Calls Try.prog 13 #[.agg #[.int .u16 l, .int .u16 r, .int .u16 s], v1, .int .u16 lim, .int .u64 bt, .bool magic] w fun e w' => e = .returned (.bool true) ∧ Below w.heap.size w w' := by
  obtain ⟨⟨l0, l1⟩, ⟨r0, r1⟩, s0, s1⟩ := h
  simp [lowest, greatest] at l0 l1 r0 r1 s0 s1 t0 t1 m0 m1
  exact (SuperCut.core l r s v1 old lim bt magic w l0 l1 r0 r1 s0 s1 hv hm m0 m1 t0 t1).mono fun e w' ⟨he, hk⟩ => ⟨he, hk.below⟩
end Go.Proofs.Ythejggahengfnaa
