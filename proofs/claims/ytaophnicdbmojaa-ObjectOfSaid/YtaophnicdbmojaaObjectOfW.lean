/-
  ObjectOf: the walk.
-/
import Derived.Deep.CutRange
import Derived.Test.YtaophnicdbmojaaAwk10
import Derived.Test.YtaophnicdbmojaaRng
set_option linter.unusedSimpArgs false
set_option linter.unusedVariables false
set_option maxRecDepth 100000
namespace Go.Proofs.Ytaophnicdbmojaa
open Go.RowKit Go.Shelf

theorem tmod_nat (a n : Nat) : ((a : Int)).tmod (n : Int) = ((a % n : Nat) : Int) := by
  rw [Int.tmod_eq_emod_of_nonneg (by omega)]; simp
theorem UseS.store {t : St} {k : Kfg} {a u p : Nat} {v : Int} (h : UseS t k a u) (hp : k.act + 1 < p) (hpw : p < k.words) : UseS (t.store p v) k a u := by
  have e := St.nw_store h.is hpw v
  refine ⟨h.is.store _ _, h.lim, ?_, ?_⟩
  · rw [e, if_neg (by omega)]; exact h.act
  · rw [e, if_neg (by omega)]; exact h.used
theorem UseS.setUsed {t : St} {k : Kfg} {a u u' : Nat} (h : UseS t k a u) (hw : k.act + 1 < k.words) : UseS (t.store (k.act + 1) (u' : Int)) k a u' := by
  have e := St.nw_store h.is hw (u' : Int)
  refine ⟨h.is.store _ _, h.lim, ?_, ?_⟩
  · rw [e, if_neg (by omega)]; exact h.act
  · rw [e, if_pos rfl]
theorem headish (w : Int) (h : Wd w) : ∃ x, Wd x ∧ bits .or .u64 (bits .or .u64 12754194144713244672 (w % 3 * 4294967296)) (w / 256 % 9) = x := by
  obtain ⟨h0, h1⟩ := h
  refine ⟨_, ?_, rfl⟩
  rw [or_pack1 (w % 3) (by omega) (by omega), or_pack2 (w / 256 % 9) (w % 3) (by omega) (by omega) (by omega) (by omega)]
  unfold hw Wd
  omega

set_option maxRecDepth 100000 in
set_option maxHeartbeats 8000000 in
theorem ObjectOf.core (l r s : Int) (v1 : Value) (xs1 : List Int) (a2 : Int) (a3 : Int) (a4 : Bool) (a5 : Bool) (w : World) (l0 : 0 ≤ l) (l1 : l ≤ 65535) (r0 : 0 ≤ r) (r1 : r ≤ 65535) (s0 : 0 ≤ s) (s1 : s ≤ 65535) (hr1 : Rd w v1 (xs1.map (Value.int .u64))) (hb1 : ∀ x ∈ xs1, 0 ≤ x ∧ x ≤ 18446744073709551615) (hn1 : xs1.length ≤ maxLen) (a20 : 0 ≤ a2) (a21 : a2 ≤ 65535) (a30 : -9223372036854775808 ≤ a3) (a31 : a3 ≤ 9223372036854775807) :
    Calls Try.prog 11 #[.agg #[.int .u16 l, .int .u16 r, .int .u16 s], v1, .int .u16 a2, .int .i64 a3, .bool a4, .bool a5] w fun e w' => e = .returned (.bool true) ∧ Keep w.heap.size [] w w' := by
  simp only [maxLen] at hn1
  obtain ⟨SA, SC, rfl, hps⟩ := hr1.cellAt
  have HV := Lib.hid hr1
  have HWD : Hid (∀ x ∈ xs1, Wd x) := Lib.hid hb1
  have HS := Lib.hid ((Sep.start w []).new 24 #[.int .u16 l, .int .u16 r, .int .u16 s])
  clear hr1 hps hb1
  by_cases hb1 : 40 < xs1.length
  · have hbI : (40 : Int) < xs1.length := by omega
    go_enter Try.func11, Try.ntmps11
    go_wp2_with fail
    generalize w.alloc _ = w2 at *
    refine (awake10_any _).mono ?_
    rintro e w1 ⟨rfl, hk⟩
    replace HS := Lib.hid (HS.out.grow hk)
    clear hk
    go_wp2
    go_ret
    exact ⟨rfl, HS.out.keep⟩
  have hx2 : ((40 : Int) < xs1.length) = False := by rw [eq_iff_iff, iff_false]; omega
  have hx3 : (40 < xs1.length) = False := by rw [eq_iff_iff, iff_false]; omega
  obtain ⟨hk, hkL, hkR, hkS⟩ := kOf_ok (l := l) (r := r) (s := s) l0 r0 s0
  have hmk := fun w => kmake_of l r s w l0 l1 r0 r1 s0 s1
  generalize kOf l r s = k at *
  have HMK := Lib.hid hmk
  have HK := Lib.hid hk
  clear hmk hk
  obtain ⟨hw1, hw2⟩ := Kfg.words_le HK.out
  go_enter Try.func11, Try.ntmps11
  go_wp2_with fail
  generalize w.alloc _ = w2 at *
  generalize w.heap.size = gx at *
  refine (awake10_any _).mono ?_
  rintro e w1 ⟨rfl, hk⟩
  replace HS := Lib.hid (HS.out.grow hk)
  clear hk
  have c0 := (HS.out.blk 0 rfl).cell 0
  simp at c0
  have c1 := (HS.out.blk 0 rfl).cell 1
  simp at c1
  have c2 := (HS.out.blk 0 rfl).cell 2
  simp at c2
  go_wp2_with fail
  refine (HMK.out _).mono ?_
  rintro e w3 ⟨rfl, hkk⟩
  simp only [Kfg.cells]
  replace HS := Lib.hid ((HS.out.grow hkk).new 29 #[.int .i64 (k.L : Int), .int .i64 (k.R : Int), .int .i64 (k.S : Int)])
  clear hkk c0 c1 c2 HMK
  go_wp2_with fail
  generalize w3.alloc _ = w4 at *
  generalize w3.heap.size = gk at *
  refine (formatted_any k _ [] _ HK.out (rd_nil6 _ 0) (by decide)).mono ?_
  rintro e w5 ⟨d, rfl, hdb, hd, hkk⟩
  obtain ⟨s5, hs5⟩ : ∃ s5, s5 = (St.fresh (-1) 0 (fill [] k.words)).run (fmtOps k) := ⟨_, rfl⟩
  rw [← hs5] at hd
  have hI : s5.Is k.words := by rw [hs5]; exact (fresh_fill [] k).run _
  have hA : AllS s5 k := by rw [hs5]; exact all_of HK.out (fresh_fill [] k)
  have hl5 : s5.l < 0 := by rw [hs5, St.run_l]; show (-1 : Int) < 0; decide
  have hrg : s5.rng := by rw [hs5]; exact fmt_rng HK.out (by simp)
  replace HS := Lib.hid (HS.out.add hkk (r := devR d s5) hd hdb)
  have hus0 : UseS s5 k 0 0 := ⟨hI, hl5, (hA.zer 0 (by omega)).1, (hA.zer 1 (by omega)).1⟩
  have HU := Lib.hid hus0
  have HRG := Lib.hid hrg
  clear hdb hd hkk hs5 hI hA hl5 hus0 hrg
  have hfl := k.from_le
  obtain ⟨f0, hf0⟩ : ∃ f0, k.from_ 0 = f0 := ⟨_, rfl⟩
  have hfS : f0 + k.S ≤ k.words := by
    have h1 := Kfg.from_words HK.out (a := 1) (by omega)
    have h2 : k.from_ 1 = k.from_ 0 + up8 k.S := k.from_step 0
    have h3 := (up8_le k.S).1
    omega
  have hS8 : 8 ≤ k.S := HK.out.s0
  rw [hf0] at hfl
  have HF0 := Lib.hid hf0
  have hfr := fun w => kfrom k w HK.out 0 (by decide)
  rw [hf0] at hfr
  have HFR := Lib.hid hfr
  clear hfr hf0
  replace HS : Hid (Sep w [] [blkR gx 24 #[.int .u16 l, .int .u16 r, .int .u16 s], blkR gk 29 #[.int .i64 (k.L : Int), .int .i64 (k.R : Int), .int .i64 (k.S : Int)], devR d (s5)] w5) := HS
  go_upto_region 9 with fail
  go_wp2_with fail
  go_loopw [16, 17, 41] (fun _ _ v' wr => ∃ (j : Nat) (t : St), j ≤ xs1.length ∧ v' = .int .i64 (j : Int) ∧ UseS t k 0 0 ∧ t.rng ∧ Sep w [] [blkR gx 24 #[.int .u16 l, .int .u16 r, .int .u16 s], blkR gk 29 #[.int .i64 (k.L : Int), .int .i64 (k.R : Int), .int .i64 (k.S : Int)], devR d (t)] wr) (fun _ _ v' _ => xs1.length - (intOf v').toNat)
  case atStart => exact ⟨0, s5, by omega, rfl, HU.out, HRG.out, HS.out⟩
  case round =>
    clear HS HU HRG
    obtain ⟨j, t, hj, rfl, hu, hrg, hs⟩ := hrel
    have HS := Lib.hid hs
    have HU := Lib.hid hu
    have HRG := Lib.hid hrg
    clear hs hu hrg
    by_cases hlt : j < xs1.length
    · have hjI : (j : Int) < xs1.length := by omega
      obtain ⟨A', c', hA, hr⟩ := (HV.out.keep HS.out.keep).cellAt
      injection hA with e1 e2 e3
      subst e1
      obtain ⟨g, off, rfl, k0⟩ := hr j (by omega)
      have hwd := HWD.out (xs1.getD j 0) (by rw [List.getD_eq_getElem?_getD, List.getElem?_eq_getElem (by omega)]; simp)
      obtain ⟨x, hx⟩ : ∃ x, xs1.getD j 0 = x := ⟨_, rfl⟩
      rw [hx] at k0 hwd
      clear hr e2 e3 hx
      go_upto_if 46 with fail
      go_cut [17] from 46 to 54 (fun v17 wx => wx = wr ∧ ∃ y, Wd y ∧ v17 = .int .u64 y)
      case first =>
        obtain ⟨hwd0, hwd1⟩ := hwd
        cases a5
        · go_wp2
          go_meet
          exact ⟨rfl, x, ⟨hwd0, hwd1⟩, rfl⟩
        · obtain ⟨y, hy, hye⟩ := headish x ⟨hwd0, hwd1⟩
          have hs1 : IntKind.u64.wrap (x % 3 * 4294967296) = x % 3 * 4294967296 := by rw [IntKind.wrap_u64]; omega
          have HY := Lib.hid hy
          clear hy
          go_wp2
          go_meet
          exact ⟨rfl, y, HY.out, by first | rfl | (rw [hye]) | (simp only [hs1]; rw [hye])⟩
      case rest =>
        obtain ⟨rfl, y, hy, rfl⟩ := hcut
        have HY := Lib.hid hy
        clear hy hwd k0
        obtain ⟨i, hi⟩ : ∃ i : Nat, j % k.S = i := ⟨_, rfl⟩
        have hiS : i < k.S := by rw [← hi]; exact Nat.mod_lt _ (by omega)
        obtain ⟨p, hp⟩ : ∃ p, f0 + i = p := ⟨_, rfl⟩
        have hmod : ((j : Int)).tmod (k.S : Int) = (i : Int) := by rw [tmod_nat, hi]
        have hadd : IntKind.i64.wrap ((f0 : Int) + (i : Int)) = (p : Int) := by rw [IntWalk.i64_in _ (by omega)]; omega
        have hz1 : ((k.S : Int) = 0) = False := by simp; omega
        have hz2 : (k.S = 0) = False := by simp; omega
        have c0 : ∀ x : Ext wc, x.now.cell? ⟨gk, 0, none⟩ = some (.int .i64 (k.L : Int)) := fun x => x.cell (by simpa using (HS.out.blk 1 rfl).cell 0)
        have c1 : ∀ x : Ext wc, x.now.cell? ⟨gk, 1, none⟩ = some (.int .i64 (k.R : Int)) := fun x => x.cell (by simpa using (HS.out.blk 1 rfl).cell 1)
        have c2 : ∀ x : Ext wc, x.now.cell? ⟨gk, 2, none⟩ = some (.int .i64 (k.S : Int)) := fun x => x.cell (by simpa using (HS.out.blk 1 rfl).cell 2)
        go_wp2_with fail
        refine wp_region_ext_tail 9 (by kernel_rfl) (by kernel_rfl) ?_
        simp only [List.take_succ_cons, List.take_zero, List.drop_succ_cons, List.drop_zero]
        repeat (go_big_quiet_step ((first | (go_at_call 24; with_reducible exact Calls.ext (HFR.out _)))))
        refine wpQuiet_nil ?_
        rintro _ ⟨x, rfl⟩
        replace HS := Lib.hid (HS.out.grow x.keep)
        clear c0 c1 c2
        go_wp2_with fail
        refine (store_free d t p y _ (HS.out.dev 2 rfl) HU.out.lim (by rw [HU.out.is.now]; omega)).mono ?_
        rintro e w6 ⟨rfl, hd, hkk⟩
        replace HS := Lib.hid (HS.out.did (i := 2) rfl hd hkk)
        have hu2 := HU.out.store (p := p) (v := y) (by omega) (by omega)
        have hr2 := HRG.out.store (k := p) HY.out
        have HU2 := Lib.hid hu2
        have HR2 := Lib.hid hr2
        clear hd hkk hu2 hr2
        go_wp2
        exact ⟨⟨j + 1, t.store p y, by omega, by first | rfl | go_num | simp, HU2.out, HR2.out, HS.out⟩, by simp [intOf]; omega⟩
    · have hlt' : ¬ (j : Int) < (xs1.length : Int) := by omega
      obtain ⟨q, rfl⟩ : ∃ q : Nat, a2 = (q : Int) := ⟨a2.toNat, by omega⟩
      obtain ⟨u, hq⟩ : ∃ u, q % (k.S + 1) = u := ⟨_, rfl⟩
      have hS1 : IntKind.i64.wrap ((k.S : Int) + 1) = ((k.S + 1 : Nat) : Int) := by rw [IntWalk.i64_in _ (by omega)]; omega
      have hrem : ((q : Int)).tmod ((k.S + 1 : Nat) : Int) = (u : Int) := by rw [tmod_nat, hq]
      have hrem2 : ((q : Int)).tmod ((k.S : Int) + 1) = (u : Int) := by rw [show (k.S : Int) + 1 = ((k.S + 1 : Nat) : Int) by omega]; exact hrem
      have hz1 : (((k.S + 1 : Nat) : Int) = 0) = False := by simp; omega
      have hz2 : ((k.S : Int) + 1 = 0) = False := by simp; omega
      have huS : u ≤ k.S := by have := Nat.mod_lt q (show 0 < k.S + 1 by omega); omega
      have hcu : IntKind.u64.wrap (u : Int) = (u : Int) := by rw [IntKind.wrap_u64]; omega
      obtain ⟨ua, hua⟩ : ∃ ua, k.act + 1 = ua := ⟨_, rfl⟩
      have hus := fun w => kused k w HK.out
      rw [hua] at hus
      have HUS := Lib.hid hus
      have HUA := Lib.hid hua
      clear hus hq hua
      have c0 : ∀ x : Ext wr, x.now.cell? ⟨gk, 0, none⟩ = some (.int .i64 (k.L : Int)) := fun x => x.cell (by simpa using (HS.out.blk 1 rfl).cell 0)
      have c1 : ∀ x : Ext wr, x.now.cell? ⟨gk, 1, none⟩ = some (.int .i64 (k.R : Int)) := fun x => x.cell (by simpa using (HS.out.blk 1 rfl).cell 1)
      have c2 : ∀ x : Ext wr, x.now.cell? ⟨gk, 2, none⟩ = some (.int .i64 (k.S : Int)) := fun x => x.cell (by simpa using (HS.out.blk 1 rfl).cell 2)
      go_wp2_with fail
      refine wp_region_ext_tail 10 (by kernel_rfl) (by kernel_rfl) ?_
      simp only [List.take_succ_cons, List.take_zero, List.drop_succ_cons, List.drop_zero]
      repeat (go_big_quiet_step ((first | (go_at_call 21; with_reducible exact Calls.ext (HUS.out _)))))
      refine wpQuiet_nil ?_
      rintro _ ⟨x, rfl⟩
      replace HS := Lib.hid (HS.out.grow x.keep)
      clear c0 c1 c2 hS1 hrem hz1 hcu
      go_wp2_with fail
      refine (store_free d t ua (u : Int) _ (HS.out.dev 2 rfl) HU.out.lim (by rw [HU.out.is.now, ← HUA.out]; omega)).mono ?_
      rintro e w6 ⟨rfl, hd, hkk⟩
      replace HS := Lib.hid (HS.out.did (i := 2) rfl hd hkk)
      have hu2 := HU.out.setUsed (u' := u) (by omega)
      have hr2 := HRG.out.store (k := k.act + 1) (v := (u : Int)) ⟨by omega, by omega⟩
      rw [HUA.out] at hu2 hr2
      generalize t.store ua (u : Int) = t2 at *
      clear HU HRG
      have HU := Lib.hid hu2
      have HRG := Lib.hid hr2
      clear hd hkk hu2 hr2
      have c0 := (HS.out.blk 1 rfl).cell 0
      simp at c0
      have c1 := (HS.out.blk 1 rfl).cell 1
      simp at c1
      have c2 := (HS.out.blk 1 rfl).cell 2
      simp at c2
      go_wp2_with fail
      refine (rread_any d t2 k 0 u _ (HS.out.dev 2 rfl) HK.out HU.out.is.now HU.out.act HU.out.used (by decide) huS).mono ?_
      rintro e w7 ⟨rv, rfl, hkk, hrow, hnew⟩
      obtain ⟨RA, RC, hv⟩ := rowR_val hrow
      subst hv
      simp only [rbC]
      obtain ⟨RL, hRL⟩ : ∃ RL, (uw (rootsOf t2 k k.R)).length = RL := ⟨_, rfl⟩
      rw [hRL]
      replace HS := Lib.hid (HS.out.grow hkk)
      clear hkk hrow hnew c0 c1 c2 hRL
      go_upto_region 18 with fail
      replace HS := Lib.hid (HS.out.new 39 #[.int .i64 0, .int .i64 (u : Int), .slice RA RL RC])
      generalize w7.alloc _ = w8 at *
      generalize w7.heap.size = gb at *
      replace HS : Hid (Sep w [] [blkR gx 24 #[.int .u16 l, .int .u16 r, .int .u16 s], blkR gk 29 #[.int .i64 (k.L : Int), .int .i64 (k.R : Int), .int .i64 (k.S : Int)], devR d t2, blkR gb 39 #[.int .i64 0, .int .i64 (u : Int), .slice RA RL RC]] w8) := HS
      have c0 : ∀ x : Ext w8, x.now.cell? ⟨gk, 0, none⟩ = some (.int .i64 (k.L : Int)) := fun x => x.cell (by simpa using (HS.out.blk 1 rfl).cell 0)
      have c1 : ∀ x : Ext w8, x.now.cell? ⟨gk, 1, none⟩ = some (.int .i64 (k.R : Int)) := fun x => x.cell (by simpa using (HS.out.blk 1 rfl).cell 1)
      have c2 : ∀ x : Ext w8, x.now.cell? ⟨gk, 2, none⟩ = some (.int .i64 (k.S : Int)) := fun x => x.cell (by simpa using (HS.out.blk 1 rfl).cell 2)
      have b0 : ∀ x : Ext w8, x.now.cell? ⟨gb, 0, none⟩ = some (.int .i64 0) := fun x => x.cell (by simpa using (HS.out.blk 3 rfl).cell 0)
      have b1 : ∀ x : Ext w8, x.now.cell? ⟨gb, 1, none⟩ = some (.int .i64 (u : Int)) := fun x => x.cell (by simpa using (HS.out.blk 3 rfl).cell 1)
      have b2 : ∀ x : Ext w8, x.now.cell? ⟨gb, 2, none⟩ = some (.slice RA RL RC) := fun x => x.cell (by simpa using (HS.out.blk 3 rfl).cell 2)
      have hS1 : IntKind.i64.wrap ((k.S : Int) + 1) = (k.S : Int) + 1 := IntWalk.i64_in _ (by omega)
      refine wp_region_ext (by kernel_rfl) (by kernel_rfl) ?_
      repeat (go_big_quiet_step ((first | fail)))
      refine wpQuiet_nil ?_
      rintro _ ⟨x, rfl⟩
      replace HS := Lib.hid (HS.out.grow x.keep)
      clear c0 c1 c2 b0 b1 b2 hS1 hrem2 hz2
      generalize x.now = w9 at *
      go_upto_if 96 with fail
      go_cut [3] from 96 to 108 (fun v3 wx => ∃ y : Int, v3 = .int .i64 y ∧ (-9223372036854775808 ≤ y ∧ y ≤ 9223372036854775807) ∧ Sep w [] [blkR gx 24 #[.int .u16 l, .int .u16 r, .int .u16 s], blkR gk 29 #[.int .i64 (k.L : Int), .int .i64 (k.R : Int), .int .i64 (k.S : Int)], devR d t2, blkR gb 39 #[.int .i64 0, .int .i64 (u : Int), .slice RA RL RC]] wx)
      case first =>
        cases a4
        · go_wp2
          go_meet
          exact ⟨a3, rfl, ⟨a30, a31⟩, HS.out⟩
        · obtain ⟨z, hz⟩ : ∃ z, IntKind.u64.wrap a3 = z := ⟨_, rfl⟩
          have hz0 : 0 ≤ z := by rw [← hz, IntKind.wrap_u64]; omega
          have hm0 := Int.emod_nonneg z (show (k.S : Int) + 4 ≠ 0 by omega)
          have hm1 := Int.emod_lt_of_pos z (show 0 < (k.S : Int) + 4 by omega)
          obtain ⟨m, hm⟩ : ∃ m, z % ((k.S : Int) + 4) = m := ⟨_, rfl⟩
          rw [hm] at hm0 hm1
          have y1 : IntKind.i64.wrap ((k.S : Int) + 4) = (k.S : Int) + 4 := IntWalk.i64_in _ (by omega)
          have y2 : IntKind.u64.wrap ((k.S : Int) + 4) = (k.S : Int) + 4 := by rw [IntKind.wrap_u64]; omega
          have y3 : ((k.S : Int) + 4 = 0) = False := by simp; omega
          have y4 : IntKind.i64.wrap m = m := IntWalk.i64_in _ (by omega)
          have y5 : IntKind.i64.wrap ((f0 : Int) - 2) = (f0 : Int) - 2 := IntWalk.i64_in _ (by omega)
          have y6 : IntKind.i64.wrap ((f0 : Int) - 2 + m) = (f0 : Int) - 2 + m := IntWalk.i64_in _ (by omega)
          have c0 : ∀ x : Ext w9, x.now.cell? ⟨gk, 0, none⟩ = some (.int .i64 (k.L : Int)) := fun x => x.cell (by simpa using (HS.out.blk 1 rfl).cell 0)
          have c1 : ∀ x : Ext w9, x.now.cell? ⟨gk, 1, none⟩ = some (.int .i64 (k.R : Int)) := fun x => x.cell (by simpa using (HS.out.blk 1 rfl).cell 1)
          have c2 : ∀ x : Ext w9, x.now.cell? ⟨gk, 2, none⟩ = some (.int .i64 (k.S : Int)) := fun x => x.cell (by simpa using (HS.out.blk 1 rfl).cell 2)
          go_wp2_with fail
          refine wp_region_ext (by kernel_rfl) (by kernel_rfl) ?_
          repeat (go_big_quiet_step ((first | (go_at_call 24; with_reducible exact Calls.ext (HFR.out _)))))
          refine wpQuiet_nil ?_
          rintro _ ⟨x, rfl⟩
          replace HS := Lib.hid (HS.out.grow x.keep)
          go_wp2
          go_meet
          exact ⟨(f0 : Int) - 2 + m, rfl, ⟨by omega, by omega⟩, HS.out⟩
      case rest =>
        obtain ⟨y, rfl, ⟨hy0, hy1⟩, hs⟩ := hcut
        have HS := Lib.hid hs
        clear hs a30 a31
        obtain ⟨e, he⟩ : ∃ e, f0 + u = e := ⟨_, rfl⟩
        have heI : (f0 : Int) + (u : Int) = (e : Int) := by omega
        have hew : IntKind.i64.wrap ((f0 : Int) + (u : Int)) = (e : Int) := by rw [IntWalk.i64_in _ (by omega)]; omega
        have hhas : ∀ v : Nat, hasB k 0 u (v : Int) = true ↔ f0 ≤ v ∧ v < e := fun v => by rw [hasB_iff, HF0.out, he]
        have HHAS := Lib.hid hhas
        clear hhas he
        have c0 := (HS.out.blk 1 rfl).cell 0
        simp at c0
        have c1 := (HS.out.blk 1 rfl).cell 1
        simp at c1
        have c2 := (HS.out.blk 1 rfl).cell 2
        simp at c2
        have b0 := (HS.out.blk 3 rfl).cell 0
        simp at b0
        have b1 := (HS.out.blk 3 rfl).cell 1
        simp at b1
        have b2 := (HS.out.blk 3 rfl).cell 2
        simp at b2
        by_cases hin : (f0 : Int) ≤ y ∧ y < (e : Int)
        rotate_left
        · go_wp2_with fail
          refine (of_no d t2 k 0 u y _ _ (HS.out.dev 2 rfl) HK.out (by decide) huS hy1 ?_).mono ?_
          · rcases Int.lt_or_le y 0 with h | h
            · exact .inl h
            · refine .inr ?_
              obtain ⟨v, rfl⟩ : ∃ v : Nat, y = (v : Int) := ⟨y.toNat, by omega⟩
              cases hb : hasB k 0 u (v : Int) with
              | false => rfl
              | true => have := (HHAS.out v).1 hb; omega
          rintro e2 wa ⟨rfl, hkk⟩
          replace HS := Lib.hid (HS.out.grow hkk)
          clear hkk c0 c1 c2 b0 b1 b2
          go_upto_region 23 with fail
          replace HS := Lib.hid (HS.out.new 75 #[.int .i64 0, .int .i64 0, .int .i64 0])
          generalize wa.alloc _ = wb at *
          generalize wa.heap.size = go at *
          have c0 : ∀ x : Ext wb, x.now.cell? ⟨gk, 0, none⟩ = some (.int .i64 (k.L : Int)) := fun x => x.cell (by simpa using (HS.out.blk 1 rfl).cell 0)
          have c1 : ∀ x : Ext wb, x.now.cell? ⟨gk, 1, none⟩ = some (.int .i64 (k.R : Int)) := fun x => x.cell (by simpa using (HS.out.blk 1 rfl).cell 1)
          have c2 : ∀ x : Ext wb, x.now.cell? ⟨gk, 2, none⟩ = some (.int .i64 (k.S : Int)) := fun x => x.cell (by simpa using (HS.out.blk 1 rfl).cell 2)
          have b0 : ∀ x : Ext wb, x.now.cell? ⟨gb, 0, none⟩ = some (.int .i64 0) := fun x => x.cell (by simpa using (HS.out.blk 3 rfl).cell 0)
          have b1 : ∀ x : Ext wb, x.now.cell? ⟨gb, 1, none⟩ = some (.int .i64 (u : Int)) := fun x => x.cell (by simpa using (HS.out.blk 3 rfl).cell 1)
          refine wp_region_ext (by kernel_rfl) (by kernel_rfl) ?_
          repeat (go_big_quiet_step ((first | (go_at_call 24; with_reducible exact Calls.ext (HFR.out _)))))
          refine wpQuiet_nil ?_
          rintro _ ⟨x, rfl⟩
          replace HS := Lib.hid (HS.out.grow x.keep)
          clear c0 c1 c2 b0 b1
          have c0 := (HS.out.blk 1 rfl).cell 0
          simp at c0
          have c1 := (HS.out.blk 1 rfl).cell 1
          simp at c1
          have c2 := (HS.out.blk 1 rfl).cell 2
          simp at c2
          have o0 := (HS.out.blk 4 rfl).cell 0
          simp at o0
          have o1 := (HS.out.blk 4 rfl).cell 1
          simp at o1
          have o2 := (HS.out.blk 4 rfl).cell 2
          simp at o2
          go_wp2_with fail
          refine (HFR.out _).mono ?_
          rintro e3 wd ⟨rfl, hkk⟩
          replace HS := Lib.hid (HS.out.grow hkk)
          clear hkk c0 c1 c2 o0 o1 o2
          have o0 := (HS.out.blk 4 rfl).cell 0
          simp at o0
          have o1 := (HS.out.blk 4 rfl).cell 1
          simp at o1
          have o2 := (HS.out.blk 4 rfl).cell 2
          simp at o2
          by_cases hlo : y < (f0 : Int)
          · go_wp2
            go_ret
            exact ⟨rfl, HS.out.keep⟩
          · have hhi : (e : Int) ≤ y := by omega
            go_wp2
            go_ret
            exact ⟨rfl, HS.out.keep⟩
        obtain ⟨p, rfl⟩ : ∃ p : Nat, y = (p : Int) := ⟨y.toNat, by omega⟩
        have hpin : k.from_ 0 ≤ p ∧ p < k.from_ 0 + u := by rw [HF0.out]; omega
        obtain ⟨xw, hx⟩ : ∃ xw, t2.nw p = xw := ⟨_, rfl⟩
        obtain ⟨hx0, hx1⟩ : Wd xw := by rw [← hx]; exact HRG.out.nw p
        obtain ⟨M, hM⟩ : ∃ M, xw % 4294967296 = M := ⟨_, rfl⟩
        obtain ⟨B, hB⟩ : ∃ B, xw / 4294967296 % 16777216 = B := ⟨_, rfl⟩
        have hM0 : 0 ≤ M ∧ M ≤ 4294967295 := by omega
        have hB0 : 0 ≤ B ∧ B ≤ 16777215 := by omega
        have hand1 : bits .and .u64 (xw / 4294967296) 16777215 = B := by rw [and_24 _ (by omega) (by omega), hB]
        have hand2 : bits .and .u64 xw 4294967295 = M := by rw [and_32 _ hx0 hx1, hM]
        obtain ⟨T, hT⟩ : ∃ T, xw / 72057594037927936 = T := ⟨_, rfl⟩
        have hih : isHead xw ↔ T = 177 ∧ M ≤ 64 ∧ B ≤ M := by unfold isHead; rw [hT, hM, hB]
        have hhd : headOf xw = if T = 177 ∧ M ≤ 64 ∧ B ≤ M then (M, B, true) else (0, 0, false) := by
          unfold headOf
          by_cases h : isHead xw
          · rw [if_pos h, if_pos (hih.1 h), hM, hB]
          · rw [if_neg h, if_neg (fun h2 => h (hih.2 h2))]
        have HX := Lib.hid hx
        have HHD := Lib.hid hhd
        have HPIN := Lib.hid hpin
        have HE : Hid (k.from_ 0 + u = e) := Lib.hid (by rw [HF0.out]; omega)
        clear hx hB hM hih hhd hpin
        have n1 : ¬ (p : Int) < (f0 : Int) := by omega
        have n2 : ¬ p < f0 := by omega
        have n3 : ¬ (e : Int) ≤ (p : Int) := by omega
        have n4 : ¬ e ≤ p := by omega
        have hMw : IntKind.i64.wrap M = M := IntWalk.i64_in _ (by omega)
        have hBw : IntKind.i64.wrap B = B := IntWalk.i64_in _ (by omega)
        have hpw : IntKind.i64.wrap ((p : Int) + 1) = (p : Int) + 1 := IntWalk.i64_in _ (by omega)
        have hpw2 : IntKind.i64.wrap ((p : Int) + 1 + M) = (p : Int) + 1 + M := IntWalk.i64_in _ (by omega)
        by_cases hgood : T = 177 ∧ M ≤ 64 ∧ B ≤ M ∧ (p : Int) + 1 + M ≤ (e : Int)
        · obtain ⟨g1, g2, g3, g4⟩ := hgood
          have hh := HHD.out
          rw [if_pos ⟨g1, g2, g3⟩] at hh
          have HH := Lib.hid hh
          clear hh
          go_wp2_with fail
          refine (of_yes d t2 k 0 u p e xw M B _ _ (HS.out.dev 2 rfl) HK.out (by decide) huS HPIN.out HE.out HX.out hx0 hx1 HH.out (by omega)).mono ?_
          rintro e2 wa ⟨rfl, hkk⟩
          replace HS := Lib.hid (HS.out.grow hkk)
          clear hkk c0 c1 c2 b0 b1 b2
          go_upto_region 23 with fail
          replace HS := Lib.hid (HS.out.new 75 #[.int .i64 M, .int .i64 B, .int .i64 (p : Int)])
          generalize wa.alloc _ = wb at *
          generalize wa.heap.size = go at *
          have c0 : ∀ x : Ext wb, x.now.cell? ⟨gk, 0, none⟩ = some (.int .i64 (k.L : Int)) := fun x => x.cell (by simpa using (HS.out.blk 1 rfl).cell 0)
          have c1 : ∀ x : Ext wb, x.now.cell? ⟨gk, 1, none⟩ = some (.int .i64 (k.R : Int)) := fun x => x.cell (by simpa using (HS.out.blk 1 rfl).cell 1)
          have c2 : ∀ x : Ext wb, x.now.cell? ⟨gk, 2, none⟩ = some (.int .i64 (k.S : Int)) := fun x => x.cell (by simpa using (HS.out.blk 1 rfl).cell 2)
          have b0 : ∀ x : Ext wb, x.now.cell? ⟨gb, 0, none⟩ = some (.int .i64 0) := fun x => x.cell (by simpa using (HS.out.blk 3 rfl).cell 0)
          have b1 : ∀ x : Ext wb, x.now.cell? ⟨gb, 1, none⟩ = some (.int .i64 (u : Int)) := fun x => x.cell (by simpa using (HS.out.blk 3 rfl).cell 1)
          refine wp_region_ext (by kernel_rfl) (by kernel_rfl) ?_
          repeat (go_big_quiet_step ((first | (go_at_call 24; with_reducible exact Calls.ext (HFR.out _)))))
          refine wpQuiet_nil ?_
          rintro _ ⟨x, rfl⟩
          replace HS := Lib.hid (HS.out.grow x.keep)
          clear c0 c1 c2 b0 b1
          have c0 := (HS.out.blk 1 rfl).cell 0
          simp at c0
          have c1 := (HS.out.blk 1 rfl).cell 1
          simp at c1
          have c2 := (HS.out.blk 1 rfl).cell 2
          simp at c2
          have o0 := (HS.out.blk 4 rfl).cell 0
          simp at o0
          have o1 := (HS.out.blk 4 rfl).cell 1
          simp at o1
          have o2 := (HS.out.blk 4 rfl).cell 2
          simp at o2
          go_wp2_with fail
          refine (HFR.out _).mono ?_
          rintro e3 wd ⟨rfl, hkk⟩
          replace HS := Lib.hid (HS.out.grow hkk)
          clear hkk c0 c1 c2 o0 o1 o2
          have o0 := (HS.out.blk 4 rfl).cell 0
          simp at o0
          have o1 := (HS.out.blk 4 rfl).cell 1
          simp at o1
          have o2 := (HS.out.blk 4 rfl).cell 2
          simp at o2
          go_wp2_with fail
          refine (load_is d t2 p xw _ (HS.out.dev 2 rfl) HX.out).mono ?_
          rintro e4 we ⟨rfl, rfl⟩
          subst g1
          have g2' : ¬ 64 < M := by omega
          have g3' : ¬ M < B := by omega
          have g4' : ¬ (e : Int) < (p : Int) + 1 + M := by omega
          clear n1 n2 n3 n4 g2 g3 g4 hin
          go_wp2
          go_ret
          exact ⟨rfl, HS.out.keep⟩
        · obtain ⟨m', b', ok, hh⟩ : ∃ m' b' ok, headOf xw = (m', b', ok) := ⟨_, _, _, rfl⟩
          have hbad : ok = false ∨ (e : Int) - (p : Int) < m' + 1 := by
            have h2 := HHD.out
            by_cases h3 : T = 177 ∧ M ≤ 64 ∧ B ≤ M
            · rw [if_pos h3, hh] at h2
              injection h2 with h4 h5
              exact .inr (by omega)
            · rw [if_neg h3, hh] at h2
              injection h2 with h4 h5
              injection h5 with h6 h7
              exact .inl h7
          have HH := Lib.hid hh
          have HBD := Lib.hid hbad
          clear hh hbad
          go_wp2_with fail
          refine (of_bad d t2 k 0 u p e xw m' b' ok _ _ (HS.out.dev 2 rfl) HK.out (by decide) huS HPIN.out HE.out HX.out hx0 hx1 HH.out HBD.out).mono ?_
          rintro e2 wa ⟨rfl, hkk⟩
          replace HS := Lib.hid (HS.out.grow hkk)
          clear hkk c0 c1 c2 b0 b1 b2
          go_upto_region 23 with fail
          replace HS := Lib.hid (HS.out.new 75 #[.int .i64 0, .int .i64 0, .int .i64 0])
          generalize wa.alloc _ = wb at *
          generalize wa.heap.size = go at *
          have c0 : ∀ x : Ext wb, x.now.cell? ⟨gk, 0, none⟩ = some (.int .i64 (k.L : Int)) := fun x => x.cell (by simpa using (HS.out.blk 1 rfl).cell 0)
          have c1 : ∀ x : Ext wb, x.now.cell? ⟨gk, 1, none⟩ = some (.int .i64 (k.R : Int)) := fun x => x.cell (by simpa using (HS.out.blk 1 rfl).cell 1)
          have c2 : ∀ x : Ext wb, x.now.cell? ⟨gk, 2, none⟩ = some (.int .i64 (k.S : Int)) := fun x => x.cell (by simpa using (HS.out.blk 1 rfl).cell 2)
          have b0 : ∀ x : Ext wb, x.now.cell? ⟨gb, 0, none⟩ = some (.int .i64 0) := fun x => x.cell (by simpa using (HS.out.blk 3 rfl).cell 0)
          have b1 : ∀ x : Ext wb, x.now.cell? ⟨gb, 1, none⟩ = some (.int .i64 (u : Int)) := fun x => x.cell (by simpa using (HS.out.blk 3 rfl).cell 1)
          refine wp_region_ext (by kernel_rfl) (by kernel_rfl) ?_
          repeat (go_big_quiet_step ((first | (go_at_call 24; with_reducible exact Calls.ext (HFR.out _)))))
          refine wpQuiet_nil ?_
          rintro _ ⟨x, rfl⟩
          replace HS := Lib.hid (HS.out.grow x.keep)
          clear c0 c1 c2 b0 b1
          have c0 := (HS.out.blk 1 rfl).cell 0
          simp at c0
          have c1 := (HS.out.blk 1 rfl).cell 1
          simp at c1
          have c2 := (HS.out.blk 1 rfl).cell 2
          simp at c2
          have o0 := (HS.out.blk 4 rfl).cell 0
          simp at o0
          have o1 := (HS.out.blk 4 rfl).cell 1
          simp at o1
          have o2 := (HS.out.blk 4 rfl).cell 2
          simp at o2
          go_wp2_with fail
          refine (HFR.out _).mono ?_
          rintro e3 wd ⟨rfl, hkk⟩
          replace HS := Lib.hid (HS.out.grow hkk)
          clear hkk c0 c1 c2 o0 o1 o2
          have o0 := (HS.out.blk 4 rfl).cell 0
          simp at o0
          have o1 := (HS.out.blk 4 rfl).cell 1
          simp at o1
          have o2 := (HS.out.blk 4 rfl).cell 2
          simp at o2
          go_wp2_with fail
          refine (load_is d t2 p xw _ (HS.out.dev 2 rfl) HX.out).mono ?_
          rintro e4 we ⟨rfl, rfl⟩
          have hg2 : ¬ T = 177 ∨ 64 < M ∨ M < B ∨ (e : Int) < (p : Int) + 1 + M := by omega
          clear hgood n1 n2 n3 n4 hin
          by_cases g1 : T = 177
          rotate_left
          · clear hg2
            go_wp2
            go_ret
            exact ⟨rfl, HS.out.keep⟩
          subst g1
          by_cases g2 : 64 < M
          · clear hg2
            go_wp2
            go_ret
            exact ⟨rfl, HS.out.keep⟩
          by_cases g3 : M < B
          · clear hg2
            go_wp2
            go_ret
            exact ⟨rfl, HS.out.keep⟩
          have g4 : (e : Int) < (p : Int) + 1 + M := by omega
          clear hg2
          go_wp2
          go_ret
          exact ⟨rfl, HS.out.keep⟩

theorem ObjectOf.walk {v1 : Value} {w : World} (l r s : Int) (h : (lowest .u16 ≤ l ∧ l ≤ greatest .u16) ∧ (lowest .u16 ≤ r ∧ r ≤ greatest .u16) ∧ (lowest .u16 ≤ s ∧ s ≤ greatest .u16)) (xs1 : List Int) (hr1 : Rd w v1 (xs1.map (Value.int .u64))) (hb1 : ∀ x ∈ xs1, lowest .u64 ≤ x ∧ x ≤ greatest .u64) (hn1 : xs1.length ≤ maxLen) (a2 : Int) (a20 : lowest .u16 ≤ a2) (a21 : a2 ≤ greatest .u16) (a3 : Int) (a30 : lowest .i64 ≤ a3) (a31 : a3 ≤ greatest .i64) (a4 : Bool) (a5 : Bool) :
    Calls Try.prog 11 #[.agg #[.int .u16 l, .int .u16 r, .int .u16 s], v1, .int .u16 a2, .int .i64 a3, .bool a4, .bool a5] w fun e w' => e = .returned (.bool true) ∧ Below w.heap.size w w' := by
  obtain ⟨⟨l0, l1⟩, ⟨r0, r1⟩, s0, s1⟩ := h
  have hb1' : ∀ x ∈ xs1, 0 ≤ x ∧ x ≤ 18446744073709551615 := fun x hx => by have := hb1 x hx; simpa [lowest, greatest] using this
  simp [lowest, greatest] at l0 l1 r0 r1 s0 s1 a20 a21 a30 a31
  exact (ObjectOf.core l r s v1 xs1 a2 a3 a4 a5 w l0 l1 r0 r1 s0 s1 hr1 hb1' hn1 a20 a21 a30 a31).mono fun e w' ⟨he, hk⟩ => ⟨he, hk.below⟩
end Go.Proofs.Ytaophnicdbmojaa
