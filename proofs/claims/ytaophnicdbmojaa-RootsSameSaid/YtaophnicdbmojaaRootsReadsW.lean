/-
  RootsReads: the walk.
-/
import Derived.Deep.CutRange
import Derived.Test.YtaophnicdbmojaaAwk8
import Derived.Test.YtaophnicdbmojaaRootsB
set_option linter.unusedSimpArgs false
set_option linter.unusedVariables false
set_option maxRecDepth 100000
namespace Go.Proofs.Ytaophnicdbmojaa
open Go.RowKit Go.Shelf

/-- Words of a root block that were stored: which space, how much, the first roots; the others are 0. -/
structure RbS (s : St) (k : Kfg) (A U : Int) (xs : List Int) (j : Nat) : Prop where
  is : s.Is k.words
  lim : s.l < 0
  act : s.nw k.act = A
  used : s.nw (k.act + 1) = U
  roots : ∀ i, i < k.R → s.nw (k.act + 2 + i) = if i < j then xs.getD i 0 else 0
theorem RbS.next {s : St} {k : Kfg} {A U : Int} {xs : List Int} {j m : Nat} (h : RbS s k A U xs j) (hk : k.Ok) (hj : j < k.R) (hm : k.act + 2 + j = m) : RbS (s.store m (xs.getD j 0)) k A U xs (j + 1) := by
  have hw := Kfg.words_le hk
  have hn := St.nw_store h.is (show m < k.words by omega) (xs.getD j 0)
  refine ⟨h.is.store _ _, h.lim, by rw [hn, if_neg (by omega)]; exact h.act, by rw [hn, if_neg (by omega)]; exact h.used, fun i hi => ?_⟩
  rw [hn]
  by_cases hij : i = j
  · subst hij
    rw [if_pos hm, if_pos (by omega)]
  · rw [if_neg (by omega), h.roots i hi]
    by_cases hlt : i < j
    · rw [if_pos hlt, if_pos (by omega)]
    · rw [if_neg hlt, if_neg (by omega)]

set_option maxRecDepth 100000 in
set_option maxHeartbeats 4000000 in
theorem RootsReads.core (l r s A0 U0 X0 : Int) (v3 : Value) (near : Bool) (ps : List Int) (w : World) (l0 : 0 ≤ l) (l1 : l ≤ 65535) (r0 : 0 ≤ r) (r1 : r ≤ 65535) (s0 : 0 ≤ s) (s1 : s ≤ 65535) (A00 : 0 ≤ A0) (A01 : A0 ≤ 18446744073709551615) (U00 : 0 ≤ U0) (U01 : U0 ≤ 18446744073709551615) (X00 : 0 ≤ X0) (X01 : X0 ≤ 18446744073709551615) (hp : Rd w v3 (uw ps)) (hpk : ∀ x ∈ ps, 0 ≤ x ∧ x ≤ 18446744073709551615) (hpl : ps.length ≤ maxLen) :
    Calls Try.prog 3 #[.agg #[.int .u16 l, .int .u16 r, .int .u16 s], .int .u64 A0, .int .u64 U0, v3, .bool near, .int .u64 X0] w fun e w' => e = .returned (.bool true) ∧ Keep w.heap.size [] w w' := by
  simp only [maxLen] at hpl
  obtain ⟨SA, SC, rfl, hps⟩ := hp.cellAt
  have HS := Lib.hid ((Sep.start w []).new 24 #[.int .u16 l, .int .u16 r, .int .u16 s])
  have HP := Lib.hid hp
  have HPK := Lib.hid hpk
  clear hp hps hpk
  by_cases hb2 : 20 < ps.length
  · have hbI : (20 : Int) < ps.length := by omega
    go_enter Try.func3, Try.ntmps3
    go_wp2_with fail
    generalize w.alloc _ = w2 at *
    refine (awake8_any _).mono ?_
    rintro e w1 ⟨rfl, hk⟩
    replace HS := Lib.hid (HS.out.grow hk)
    clear hk
    go_wp2
    go_ret
    exact ⟨rfl, HS.out.keep⟩
  have hx4 : ((20 : Int) < ps.length) = False := by rw [eq_iff_iff, iff_false]; omega
  have hx5 : (20 < ps.length) = False := by rw [eq_iff_iff, iff_false]; omega
  go_enter Try.func3, Try.ntmps3
  go_wp2_with fail
  generalize w.alloc _ = w2 at *
  generalize w.heap.size = gx at *
  refine (awake8_any _).mono ?_
  rintro e w1 ⟨rfl, hk⟩
  replace HS := Lib.hid (HS.out.grow hk)
  clear hk
  have c0 := (HS.out.blk 0 rfl).cell 0
  simp at c0
  have c1 := (HS.out.blk 0 rfl).cell 1
  simp at c1
  have c2 := (HS.out.blk 0 rfl).cell 2
  simp at c2
  go_wp2_with fail
  refine (kmake l r s _ l0 l1 r0 r1 s0 s1).mono ?_
  rintro e w3 ⟨k, hk, hL, hR, hS, rfl, hkk⟩
  simp only [Kfg.cells]
  replace HS := Lib.hid ((HS.out.grow hkk).new 29 #[.int .i64 (k.L : Int), .int .i64 (k.R : Int), .int .i64 (k.S : Int)])
  have HK := Lib.hid hk
  clear hkk hk c0 c1 c2
  go_wp2_with fail
  generalize w3.alloc _ = w4 at *
  generalize w3.heap.size = gk at *
  refine (formatted_any k _ [] _ HK.out (rd_nil6 _ 0) (by decide)).mono ?_
  rintro e w5 ⟨d, rfl, hdb, hd, hkk⟩
  obtain ⟨s5, hs5⟩ : ∃ s5, s5 = (St.fresh (-1) 0 (fill [] k.words)).run (fmtOps k) := ⟨_, rfl⟩
  rw [← hs5] at hd
  have hI : s5.Is k.words := by rw [hs5]; exact (fresh_fill [] k).run _
  have hA : AllS s5 k := by rw [hs5]; exact all_of HK.out (fresh_fill [] k)
  have hl5 : s5.l < 0 := by rw [hs5, St.run_l]; show (-1 : Int) < 0; decide
  replace HS := Lib.hid (HS.out.add hkk (r := devR d s5) hd hdb)
  have HI := Lib.hid hI
  have HA := Lib.hid hA
  have HL := Lib.hid hl5
  clear hdb hd hkk hs5 hI hA hl5
  obtain ⟨hw1, hw2⟩ := Kfg.words_le HK.out
  obtain ⟨nw, hnw⟩ : ∃ nw, k.words = nw := ⟨_, rfl⟩
  have HNW := Lib.hid hnw
  rw [hnw] at hw1 hw2
  have hkS : k.S ≤ 4096 := HK.out.s1
  clear hnw
  go_upto_if 37 with fail
  go_cut [1, 2, 5] from 37 to 51 (fun v1 v2 v5 wx => ∃ A U X : Int, v1 = .int .u64 A ∧ v2 = .int .u64 U ∧ v5 = .int .u64 X ∧ (0 ≤ A ∧ A ≤ 18446744073709551615) ∧ (0 ≤ U ∧ U ≤ 18446744073709551615) ∧ (0 ≤ X ∧ X ≤ 18446744073709551615) ∧ Sep w [] [blkR gx 24 #[.int .u16 l, .int .u16 r, .int .u16 s], blkR gk 29 #[.int .i64 (k.L : Int), .int .i64 (k.R : Int), .int .i64 (k.S : Int)], devR d s5] wx)
  case first =>
    cases near
    · go_wp2
      go_meet
      exact ⟨A0, U0, X0, rfl, rfl, rfl, ⟨A00, A01⟩, ⟨U00, U01⟩, ⟨X00, X01⟩, HS.out⟩
    · have c0 : ∀ x : Ext w5, x.now.cell? ⟨gk, 0, none⟩ = some (.int .i64 (k.L : Int)) := fun x => x.cell (by simpa using (HS.out.blk 1 rfl).cell 0)
      have c1 : ∀ x : Ext w5, x.now.cell? ⟨gk, 1, none⟩ = some (.int .i64 (k.R : Int)) := fun x => x.cell (by simpa using (HS.out.blk 1 rfl).cell 1)
      have c2 : ∀ x : Ext w5, x.now.cell? ⟨gk, 2, none⟩ = some (.int .i64 (k.S : Int)) := fun x => x.cell (by simpa using (HS.out.blk 1 rfl).cell 2)
      have hwd := fun w => kwords k w HK.out
      rw [HNW.out] at hwd
      have HWD := Lib.hid hwd
      clear hwd
      have hi1 : IntKind.i64.wrap ((k.S : Int) + 2) = (k.S : Int) + 2 := IntWalk.i64_in _ (by omega)
      have hi2 : IntKind.u64.wrap ((k.S : Int) + 2) = (k.S : Int) + 2 := by rw [IntKind.wrap_u64]; omega
      have hi3 : IntKind.i64.wrap ((nw : Int) + 10) = (nw : Int) + 10 := IntWalk.i64_in _ (by omega)
      have hi4 : IntKind.u64.wrap ((nw : Int) + 10) = (nw : Int) + 10 := by rw [IntKind.wrap_u64]; omega
      have hz1 : ((k.S : Int) + 2 = 0) = False := by simp; omega
      have hz2 : ((nw : Int) + 10 = 0) = False := by simp; omega
      go_wp2_with fail
      refine wp_region_ext (by kernel_rfl) (by kernel_rfl) ?_
      repeat (go_big_quiet_step ((first | (go_at_call 18; with_reducible exact Calls.ext (HWD.out _)))))
      refine wpQuiet_nil ?_
      rintro _ ⟨x, rfl⟩
      replace HS := Lib.hid (HS.out.grow x.keep)
      have hU0 := Int.emod_nonneg U0 (show (k.S : Int) + 2 ≠ 0 by omega)
      have hU1 := Int.emod_lt_of_pos U0 (show 0 < (k.S : Int) + 2 by omega)
      have hX0 := Int.emod_nonneg X0 (show (nw : Int) + 10 ≠ 0 by omega)
      have hX1 := Int.emod_lt_of_pos X0 (show 0 < (nw : Int) + 10 by omega)
      go_wp2
      go_meet
      exact ⟨A0 % 3, U0 % ((k.S : Int) + 2), X0 % ((nw : Int) + 10), rfl, rfl, rfl, ⟨by omega, by omega⟩, ⟨by omega, by omega⟩, ⟨by omega, by omega⟩, HS.out⟩
  case rest =>
    obtain ⟨A, U, X, rfl, rfl, rfl, ⟨qA1, qA2⟩, ⟨qU1, qU2⟩, ⟨qX1, qX2⟩, hs⟩ := hcut
    replace HS := Lib.hid hs
    clear hs
    obtain ⟨na, hna⟩ : ∃ na, k.act = na := ⟨_, rfl⟩
    have HNA := Lib.hid hna
    rw [hna] at hw1
    have hac := fun w => kactive k w HK.out
    have hus := fun w => kused k w HK.out
    rw [hna] at hac hus
    rw [show ((na + 1 : Nat) : Int) = (na : Int) + 1 by omega] at hus
    have HAC := Lib.hid hac
    have HUS := Lib.hid hus
    clear hac hus
    have c0 := (HS.out.blk 1 rfl).cell 0
    simp at c0
    have c1 := (HS.out.blk 1 rfl).cell 1
    simp at c1
    have c2 := (HS.out.blk 1 rfl).cell 2
    simp at c2
    go_wp2_with fail
    refine (HAC.out _).mono ?_
    rintro e w1 ⟨rfl, hk⟩
    replace HS := Lib.hid (HS.out.grow hk)
    clear hk
    clear c0 c1 c2
    go_wp2_with fail
    refine (store_free d s5 na A _ (HS.out.dev 2 rfl) HL.out (by rw [HI.out.now, HNW.out]; omega)).mono ?_
    rintro e w1 ⟨rfl, hd, hk⟩
    replace HS := Lib.hid (HS.out.did (i := 2) rfl hd hk)
    clear hd hk
    have c0 := (HS.out.blk 1 rfl).cell 0
    simp at c0
    have c1 := (HS.out.blk 1 rfl).cell 1
    simp at c1
    have c2 := (HS.out.blk 1 rfl).cell 2
    simp at c2
    go_wp2_with fail
    refine (HUS.out _).mono ?_
    rintro e w1 ⟨rfl, hk⟩
    replace HS := Lib.hid (HS.out.grow hk)
    clear hk
    clear c0 c1 c2
    have hsu := store_free d (s5.store na A) (na + 1) U w1 (HS.out.dev 2 rfl) HL.out (by rw [(HI.out.store _ _).now, HNW.out]; omega)
    rw [show ((na + 1 : Nat) : Int) = (na : Int) + 1 by omega] at hsu
    go_wp2_with fail
    refine (hsu).mono ?_
    rintro e w1 ⟨rfl, hd, hk⟩
    replace HS := Lib.hid (HS.out.did (i := 2) rfl hd hk)
    clear hd hk
    clear hsu
    have h6 : RbS ((s5.store na A).store (na + 1) U) k A U ps 0 := by
      have e1 := St.nw_store HI.out (show na < k.words by rw [HNW.out]; omega) A
      have e2 := St.nw_store (HI.out.store na A) (show na + 1 < k.words by rw [HNW.out]; omega) U
      refine ⟨(HI.out.store _ _).store _ _, HL.out, by rw [hna, e2, if_neg (by omega), e1, if_pos rfl], by rw [hna, e2, if_pos rfl], fun i hi => ?_⟩
      rw [hna, e2, if_neg (by omega), e1, if_neg (by omega), if_neg (by omega)]
      have := HA.out.zer (2 + i) (by omega)
      rw [hna, show na + (2 + i) = na + 2 + i by omega] at this
      exact this.1
    obtain ⟨s6, hs6⟩ : ∃ s6, (s5.store na A).store (na + 1) U = s6 := ⟨_, rfl⟩
    rw [hs6] at h6 HS
    have H6 := Lib.hid h6
    clear h6 hs6 hna
    have c1 := (HS.out.blk 1 rfl).cell 1
    simp at c1
    obtain ⟨M, hM⟩ : ∃ M, min ps.length k.R = M := ⟨_, rfl⟩
    have hMl : M ≤ k.R ∧ M ≤ ps.length ∧ (M < k.R → M = ps.length) := by omega
    go_upto_region 13 with fail
    go_cut [66, 67] from 62 to 67 (fun v66 v67 wx => v66 = .int .i64 (M : Nat) ∧ v67 = .int .i64 0 ∧ wx = w1)
    case first =>
      go_wp2
      all_goals go_meet
      all_goals (refine ⟨by congr 1; omega, rfl, rfl⟩)
    case rest =>
      obtain ⟨rfl, rfl, rfl⟩ := hcut
      clear hM c1
      go_wp2_with fail
      replace HS : Hid (Sep w [] [blkR gx 24 #[.int .u16 l, .int .u16 r, .int .u16 s], blkR gk 29 #[.int .i64 (k.L : Int), .int .i64 (k.R : Int), .int .i64 (k.S : Int)], devR d s6] wc) := HS
      go_loopw [16, 67] (fun v16 v' wr => ∃ (j : Nat) (t : St), j ≤ M ∧ v' = .int .i64 (j : Int) ∧ RbS t k A U ps j ∧ Sep w [] [blkR gx 24 #[.int .u16 l, .int .u16 r, .int .u16 s], blkR gk 29 #[.int .i64 (k.L : Int), .int .i64 (k.R : Int), .int .i64 (k.S : Int)], devR d t] wr) (fun _ v' _ => M - (intOf v').toNat)
      case atStart => exact ⟨0, s6, by omega, rfl, H6.out, HS.out⟩
      case round =>
        clear HS HI HA HL H6
        obtain ⟨j, t, hj, rfl, ht, hs⟩ := hrel
        have HS := Lib.hid hs
        have HT := Lib.hid ht
        clear hs ht
        by_cases hlt : j < M
        · have hjI : (j : Int) < ps.length := by omega
          obtain ⟨A', c', hA, hr⟩ := (HP.out.keep HS.out.keep).cellAt
          injection hA with e1 e2 e3
          subst e1
          obtain ⟨g, off, rfl, k0⟩ := hr j (by omega)
          obtain ⟨z, hz⟩ : ∃ z, ps.getD j 0 = z := ⟨_, rfl⟩
          rw [hz] at k0
          have k1 : ∀ x : Ext wr, x.now.cell? ⟨g, off + j, none⟩ = some (.int .u64 z) := fun x => x.cell k0
          obtain ⟨m, hm⟩ : ∃ m, k.act + 2 + j = m := ⟨_, rfl⟩
          have hmw : m < nw := by have := HNA.out; omega
          have HM := Lib.hid hm
          have HZ := Lib.hid hz
          clear hr e2 e3 hm hz k0
          have c0 : ∀ x : Ext wr, x.now.cell? ⟨gk, 0, none⟩ = some (.int .i64 (k.L : Int)) := fun x => x.cell (by simpa using (HS.out.blk 1 rfl).cell 0)
          have c1 : ∀ x : Ext wr, x.now.cell? ⟨gk, 1, none⟩ = some (.int .i64 (k.R : Int)) := fun x => x.cell (by simpa using (HS.out.blk 1 rfl).cell 1)
          have c2 : ∀ x : Ext wr, x.now.cell? ⟨gk, 2, none⟩ = some (.int .i64 (k.S : Int)) := fun x => x.cell (by simpa using (HS.out.blk 1 rfl).cell 2)
          go_wp2_with fail
          refine wp_region_ext_tail 8 (by kernel_rfl) (by kernel_rfl) ?_
          simp only [List.take_succ_cons, List.take_zero, List.drop_succ_cons, List.drop_zero]
          repeat (go_big_quiet_step ((first | (go_at_call 22; with_reducible exact Calls.ext (kroot_eq k _ HK.out j m (by omega) HM.out)))))
          refine wpQuiet_nil ?_
          rintro _ ⟨x, rfl⟩
          replace HS := Lib.hid (HS.out.grow x.keep)
          go_wp2_with fail
          refine (store_free d t m z _ (HS.out.dev 2 rfl) HT.out.lim (by rw [HT.out.is.now, HNW.out]; exact hmw)).mono ?_
          rintro e w1 ⟨rfl, hd, hk⟩
          replace HS := Lib.hid (HS.out.did (i := 2) rfl hd hk)
          clear hd hk
          clear c0 c1 c2 k1
          have hnx := HT.out.next HK.out (show j < k.R by omega) HM.out
          rw [HZ.out] at hnx
          have HNX := Lib.hid hnx
          clear hnx
          go_wp2
          exact ⟨⟨j + 1, t.store m z, by omega, by first | rfl | go_num | simp, HNX.out, HS.out⟩, by simp [intOf]; omega⟩
        · obtain rfl : j = M := by omega
          have hlt' : ¬ (j : Int) < (j : Int) := by omega
          have c0 := (HS.out.blk 1 rfl).cell 0
          simp at c0
          have c1 := (HS.out.blk 1 rfl).cell 1
          simp at c1
          have c2 := (HS.out.blk 1 rfl).cell 2
          simp at c2
          go_wp2_with fail
          have hu2 : IntKind.u64.wrap (k.S : Int) = (k.S : Int) := by rw [IntKind.wrap_u64]; omega
          by_cases hbad : 1 < A ∨ (k.S : Int) < U
          · refine (rread_bad d t k A U _ (HS.out.dev 2 rfl) HK.out HT.out.is.now HT.out.act HT.out.used hbad).mono ?_
            rintro e w6 ⟨rfl, hkk⟩
            replace HS := Lib.hid (HS.out.grow hkk)
            clear hkk c0 c1 c2
            have c2 := (HS.out.blk 1 rfl).cell 2
            simp at c2
            have hgl := (HS.out.blk 1 rfl).lt
            by_cases ha1 : 1 < A
            · have e1 : decide (A > 1) = true := by simpa using ha1
              have e1' : (1 < A) = True := by simpa using ha1
              go_wp2
              go_ret
              exact ⟨rfl, (HS.out.alloc _).keep⟩
            · have hu1 : (k.S : Int) < U := hbad.resolve_left ha1
              have e1 : decide (A > 1) = false := by simpa using ha1
              have e1' : (1 < A) = False := by simpa using ha1
              have e3 : decide (U > (k.S : Int)) = true := by simpa using hu1
              have e3' : ((k.S : Int) < U) = True := by simpa using hu1
              go_wp2
              go_ret
              exact ⟨rfl, (HS.out.alloc _).keep⟩
          · obtain ⟨a, rfl⟩ : ∃ a : Nat, A = a := ⟨A.toNat, by omega⟩
            obtain ⟨u, rfl⟩ : ∃ u : Nat, U = u := ⟨U.toNat, by omega⟩
            have ha1 : a ≤ 1 := by omega
            have hu1 : u ≤ k.S := by omega
            refine (rread_any d t k a u _ (HS.out.dev 2 rfl) HK.out HT.out.is.now HT.out.act HT.out.used ha1 hu1).mono ?_
            rintro e w6 ⟨v, rfl, hkk, hrow, hnew⟩
            obtain ⟨RA, RC, hv⟩ := rowR_val hrow
            subst hv
            have hl1 : (uw (rootsOf t k k.R)).length = k.R := by simp [uw, rootsOf]
            replace HS := Lib.hid (HS.out.add hkk (r := rowR 25 (.slice RA (uw (rootsOf t k k.R)).length RC) (uw (rootsOf t k k.R))) hrow hnew)
            rw [hl1] at HS ⊢
            simp only [rbC]
            clear hkk hrow hnew c0 c1 c2
            have c0 := (HS.out.blk 1 rfl).cell 0
            simp at c0
            have c1 := (HS.out.blk 1 rfl).cell 1
            simp at c1
            have c2 := (HS.out.blk 1 rfl).cell 2
            simp at c2
            have hgl := (HS.out.blk 1 rfl).lt
            have e1 : decide ((a : Int) > 1) = false := by simp; omega
            have e1' : ((1 : Int) < (a : Int)) = False := by simp; omega
            have e1'' : (1 < a) = False := by simp; omega
            have e3 : decide ((u : Int) > (k.S : Int)) = false := by simp; omega
            have e3' : (k.S < u) = False := by simp; omega
            have e4 : IntKind.i64.wrap (a : Int) = (a : Int) := IntWalk.i64_in _ (by omega)
            have e5 : IntKind.i64.wrap (u : Int) = (u : Int) := IntWalk.i64_in _ (by omega)
            have hkR : k.R ≤ 16 := HK.out.r1
            go_wp2_with fail
            replace HS := Lib.hid (HS.out.new 39 #[.int .i64 (a : Int), .int .i64 (u : Int), .slice RA k.R RC])
            clear c0 c1 c2 hgl
            generalize w6.alloc _ = w7 at *
            generalize w6.heap.size = gb at *
            go_loopw [19, 20, 21, 140] (fun _ _ _ v' wx => ∃ i : Nat, i ≤ k.R ∧ v' = .int .i64 (i : Int) ∧ wx = w7) (fun _ _ _ v' _ => k.R - (intOf v').toNat)
            case atStart => exact ⟨0, by omega, rfl, rfl⟩
            case round =>
              obtain ⟨i, hi, rfl, rfl⟩ := hrel
              by_cases hlt2 : i < k.R
              · have hiI : (i : Int) < (k.R : Int) := by omega
                have hy : (rootsOf t k k.R).getD i 0 = if i < j then ps.getD i 0 else 0 := by
                  rw [← HT.out.roots i hlt2]
                  simp [rootsOf, hlt2]
                obtain ⟨A', c', hA, hr⟩ := (rowR_rd (HS.out.row 3 rfl)).cellAt
                injection hA with q1 q2 q3
                subst q1
                obtain ⟨g, off, rfl, k0⟩ := hr i (by simp [rootsOf]; exact hlt2)
                rw [hy] at k0
                clear hr q2 q3 hy
                by_cases hip : i < ps.length
                · have hipI : (i : Int) < ps.length := by omega
                  rw [if_pos (by omega)] at k0
                  obtain ⟨A', c', hA, hr⟩ := (HP.out.keep HS.out.keep).cellAt
                  injection hA with q1 q2 q3
                  subst q1
                  obtain ⟨g2, off2, rfl, k2⟩ := hr i hip
                  generalize ps.getD i 0 = y at k0 k2
                  clear hr q2 q3
                  go_wp2
                  exact ⟨⟨i + 1, by omega, by first | rfl | go_num | simp, by first | trivial | rfl⟩, by simp [intOf]; omega⟩
                · have hipI : ¬ (i : Int) < ps.length := by omega
                  rw [if_neg (by omega)] at k0
                  go_wp2
                  exact ⟨⟨i + 1, by omega, by first | rfl | go_num | simp, by first | trivial | rfl⟩, by simp [intOf]; omega⟩
              · have hi2 : i = k.R := by omega
                subst hi2
                have hlt3 : ¬ (k.R : Int) < (k.R : Int) := by omega
                obtain ⟨f, hf⟩ : ∃ f, k.from_ a = f := ⟨_, rfl⟩
                have hfw := Kfg.from_words HK.out (a := a) (by omega)
                rw [hf] at hfw
                obtain ⟨m, hm⟩ : ∃ m, f + u = m := ⟨_, rfl⟩
                have y1 : IntKind.u64.wrap (f : Int) = (f : Int) := by rw [IntKind.wrap_u64]; omega
                have y2 : IntKind.u64.wrap ((f : Int) + (u : Int)) = (m : Int) := by rw [IntKind.wrap_u64]; omega
                have y3 : IntKind.i64.wrap (m : Int) = (m : Int) := IntWalk.i64_in _ (by omega)
                have hfr := fun w => kfrom k w HK.out a (by omega)
                rw [hf] at hfr
                have hpl2 := fun w => place_is k a u u m (.slice RA k.R RC) w HK.out (by omega) (by rw [hf]; exact hm) (by omega)
                have hha := fun w => has_is k a u X (.slice RA k.R RC) w HK.out (by omega) (by omega) ⟨qX1, qX2⟩
                unfold hasB at hha
                rw [hf, hm] at hha
                have HFR := Lib.hid hfr
                have HPL := Lib.hid hpl2
                have HHA := Lib.hid hha
                have hmf : (m : Int) = (f : Int) + (u : Int) := by omega
                have HMF := Lib.hid hmf
                clear hfr hpl2 hha hf hm hmf hfw
                have c0 := (HS.out.blk 1 rfl).cell 0
                simp at c0
                have c1 := (HS.out.blk 1 rfl).cell 1
                simp at c1
                have c2 := (HS.out.blk 1 rfl).cell 2
                simp at c2
                go_wp2_with fail
                refine (HFR.out _).mono ?_
                rintro e w8 ⟨rfl, hkk⟩
                replace HS := Lib.hid (HS.out.grow hkk)
                clear hkk c0 c1 c2
                have c0 := (HS.out.blk 1 rfl).cell 0
                simp at c0
                have c1 := (HS.out.blk 1 rfl).cell 1
                simp at c1
                have c2 := (HS.out.blk 1 rfl).cell 2
                simp at c2
                have b0 := (HS.out.blk 4 rfl).cell 0
                simp at b0
                have b1 := (HS.out.blk 4 rfl).cell 1
                simp at b1
                have b2 := (HS.out.blk 4 rfl).cell 2
                simp at b2
                go_wp2_with fail
                refine (HPL.out _).mono ?_
                rintro e w9 ⟨rfl, hkk⟩
                replace HS := Lib.hid (HS.out.grow hkk)
                clear hkk c0 c1 c2 b0 b1 b2
                have c0 := (HS.out.blk 1 rfl).cell 0
                simp at c0
                have c1 := (HS.out.blk 1 rfl).cell 1
                simp at c1
                have c2 := (HS.out.blk 1 rfl).cell 2
                simp at c2
                have b0 := (HS.out.blk 4 rfl).cell 0
                simp at b0
                have b1 := (HS.out.blk 4 rfl).cell 1
                simp at b1
                have b2 := (HS.out.blk 4 rfl).cell 2
                simp at b2
                go_wp2_with fail
                refine (HHA.out _).mono ?_
                rintro e w10 ⟨rfl, hkk⟩
                replace HS := Lib.hid (HS.out.grow hkk)
                clear hkk c0 c1 c2 b0 b1 b2
                by_cases hfx : (f : Int) ≤ X
                · have d1 : decide ((f : Int) ≤ X) = true := by simpa using hfx
                  have d2 : decide (X ≥ (f : Int)) = true := by simpa using hfx
                  rw [d1]
                  go_wp2
                  go_ret
                  exact ⟨by simp, HS.out.keep⟩
                · have d1 : decide ((f : Int) ≤ X) = false := by simpa using hfx
                  have d2 : decide (X ≥ (f : Int)) = false := by simpa using hfx
                  rw [d1]
                  go_wp2
                  go_ret
                  exact ⟨by simp, HS.out.keep⟩

theorem RootsReads.walk {v3 : Value} {w : World} (l r s : Int) (h : (lowest .u16 ≤ l ∧ l ≤ greatest .u16) ∧ (lowest .u16 ≤ r ∧ r ≤ greatest .u16) ∧ (lowest .u16 ≤ s ∧ s ≤ greatest .u16)) (a : Int) (a0 : lowest .u64 ≤ a) (a1 : a ≤ greatest .u64) (u : Int) (u0 : lowest .u64 ≤ u) (u1 : u ≤ greatest .u64) (ps : List Int) (hp : Rd w v3 (uw ps)) (hpk : ∀ x ∈ ps, lowest .u64 ≤ x ∧ x ≤ greatest .u64) (hpl : ps.length ≤ maxLen) (near : Bool) (x : Int) (x0 : lowest .u64 ≤ x) (x1 : x ≤ greatest .u64) :
    Calls Try.prog 3 #[.agg #[.int .u16 l, .int .u16 r, .int .u16 s], .int .u64 a, .int .u64 u, v3, .bool near, .int .u64 x] w fun e w' => e = .returned (.bool true) ∧ Below w.heap.size w w' := by
  obtain ⟨⟨l0, l1⟩, ⟨r0, r1⟩, s0, s1⟩ := h
  simp [lowest, greatest] at l0 l1 r0 r1 s0 s1 a0 a1 u0 u1 x0 x1
  have hpk' : ∀ x ∈ ps, 0 ≤ x ∧ x ≤ 18446744073709551615 := fun x hx => by have := hpk x hx; simpa [lowest, greatest] using this
  exact (RootsReads.core l r s a u x v3 near ps w l0 l1 r0 r1 s0 s1 a0 a1 u0 u1 x0 x1 hp hpk' hpl).mono fun e w' ⟨he, hk⟩ => ⟨he, hk.below⟩
end Go.Proofs.Ytaophnicdbmojaa
