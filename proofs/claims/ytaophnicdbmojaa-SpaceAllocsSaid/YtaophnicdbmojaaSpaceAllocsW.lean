/-
  SpaceAllocs: the walk.
-/
import Derived.Deep.CutRange
import Derived.Test.YtaophnicdbmojaaAwk9
import Derived.Test.YtaophnicdbmojaaWords7
import Derived.Test.YtaophnicdbmojaaOpenH
set_option linter.unusedSimpArgs false
set_option linter.unusedVariables false
set_option maxRecDepth 100000
namespace Go.Proofs.Ytaophnicdbmojaa
open Go.RowKit Go.Shelf

theorem bit1_u8s (x : Int) (h0 : 0 ≤ x) (h1 : x ≤ 255) : ∃ a : Nat, wrap64 (bits .and .u8 x 1) = (a : Int) ∧ a ≤ 1 := by
  have hw : ∀ n : Int, 0 ≤ n → n < 2 ^ 8 → IntKind.u8.wrap n = n := fun n h0 h1 => by rw [IntKind.wrap_u8]; omega
  have h := bits_mask .u8 8 (by decide) hw 1 (by decide) x h0 (by omega)
  have h2 : bits .and .u8 x 1 = x % 2 := by simpa using h
  refine ⟨(x % 2).toNat, ?_, by omega⟩
  rw [h2]
  unfold wrap64
  omega

/-- Words that are as a device's, from na on. -/
def SameFrom (fs : List Int) (t : St) (na nw : Nat) : Prop := fs.length = nw ∧ ∀ q, na ≤ q → q < nw → fs.getD q 0 = t.nw q
theorem SameFrom.drop {fs : List Int} {t : St} {na nw : Nat} (h : SameFrom fs t na nw) (hl : t.now.length = nw) : t.now.drop na = fs.drop na := by
  refine List.ext_getElem? fun i => ?_
  rw [List.getElem?_drop, List.getElem?_drop]
  by_cases hi : na + i < nw
  · have h1 := h.2 (na + i) (by omega) hi
    have hf := h.1
    have ha : na + i < fs.length := by omega
    have hb : na + i < t.now.length := by omega
    simp [List.getD_eq_getElem?_getD, List.getElem?_eq_getElem ha, St.nw, List.getElem?_eq_getElem hb] at h1
    rw [List.getElem?_eq_getElem ha, List.getElem?_eq_getElem hb, h1]
  · have hf := h.1
    rw [List.getElem?_eq_none (by omega), List.getElem?_eq_none (by omega)]

theorem set_uw {fs : List Int} {ex : List Value} {i : Nat} (v : Int) (h : i < fs.length) : (uw fs ++ ex).toArray.setIfInBounds i (.int .u64 v) = (uw (fs.set i v) ++ ex).toArray := by
  simp only [List.setIfInBounds_toArray]
  congr 1
  rw [List.set_append_left _ _ (by simp [uw]; omega)]
  simp [uw, List.map_set]
theorem cell_uw {w : World} {g : Nat} {t : TypeId} {fs : List Int} {ex : List Value} (h : Blk w g t (uw fs ++ ex).toArray) {i : Nat} (hi : i < fs.length) : w.cell? ⟨g, i, none⟩ = some (.int .u64 (fs.getD i 0)) := by
  rw [h.cell]
  simp only [List.getElem?_toArray]
  rw [List.getElem?_append_left (by simp [uw]; omega)]
  simp [uw, hi, List.getD_eq_getElem?_getD]
theorem getD_set {fs : List Int} {i : Nat} (v : Int) (h : i < fs.length) (q : Nat) : (fs.set i v).getD q 0 = if q = i then v else fs.getD q 0 := by
  simp only [List.getD_eq_getElem?_getD, List.getElem?_set]
  by_cases hq : i = q
  · subst hq; simp [h]
  · have hq2 : ¬ q = i := fun h => hq h.symm
    simp [hq, hq2]

set_option maxRecDepth 100000 in
set_option maxHeartbeats 20000000 in
theorem SpaceAllocs.core (l r s x : Int) (v1 v2 : Value) (old : List Int) (hl : List HV) (w : World) (l0 : 0 ≤ l) (l1 : l ≤ 65535) (r0 : 0 ≤ r) (r1 : r ≤ 65535) (s0 : 0 ≤ s) (s1 : s ≤ 65535) (hv : Rd w v1 (uw old)) (hol : old.length ≤ maxLen) (hm : RdH w v2 hl) (hok : ∀ x ∈ hl, x.Ok) (hml : hl.length ≤ maxLen) (x0 : 0 ≤ x) (x1 : x ≤ 255) :
    Calls Try.prog 10 #[.agg #[.int .u16 l, .int .u16 r, .int .u16 s], v1, v2, .int .u8 x] w fun e w' => e = .returned (.bool true) ∧ Keep w.heap.size [] w w' := by
  simp only [maxLen] at hol hml
  obtain ⟨SA, SC, rfl, hps⟩ := hv.cellAt
  have HM0 := Lib.hid hm
  obtain ⟨HA, HC, rfl, hms⟩ := hm
  have HS := Lib.hid ((Sep.start w []).new 24 #[.int .u16 l, .int .u16 r, .int .u16 s])
  have HV := Lib.hid hv
  have HOK := Lib.hid hok
  clear hv hps hms hok
  by_cases hb1 : 20 < old.length
  · have hbI : (20 : Int) < old.length := by omega
    go_enter Try.func10, Try.ntmps10
    go_wp2_with fail
    generalize w.alloc _ = w2 at *
    refine (awake9_any _).mono ?_
    rintro e w1 ⟨rfl, hk⟩
    replace HS := Lib.hid (HS.out.grow hk)
    clear hk
    go_wp2
    go_ret
    exact ⟨rfl, HS.out.keep⟩
  have hx2 : ((20 : Int) < old.length) = False := by rw [eq_iff_iff, iff_false]; omega
  have hx3 : (20 < old.length) = False := by rw [eq_iff_iff, iff_false]; omega
  by_cases hb2 : 30 < hl.length
  · have hbI : (30 : Int) < hl.length := by omega
    go_enter Try.func10, Try.ntmps10
    go_wp2_with fail
    generalize w.alloc _ = w2 at *
    refine (awake9_any _).mono ?_
    rintro e w1 ⟨rfl, hk⟩
    replace HS := Lib.hid (HS.out.grow hk)
    clear hk
    go_wp2
    go_ret
    exact ⟨rfl, HS.out.keep⟩
  have hx4 : ((30 : Int) < hl.length) = False := by rw [eq_iff_iff, iff_false]; omega
  have hx5 : (30 < hl.length) = False := by rw [eq_iff_iff, iff_false]; omega
  go_enter Try.func10, Try.ntmps10
  go_wp2_with fail
  generalize w.alloc _ = w2 at *
  generalize w.heap.size = gx at *
  refine (awake9_any _).mono ?_
  rintro e w1 ⟨rfl, hk⟩
  replace HS := Lib.hid (HS.out.grow hk)
  clear hk
  have c0 := (HS.out.blk 0 rfl).cell 0
  simp at c0
  have c1 := (HS.out.blk 0 rfl).cell 1
  simp at c1
  have c2 := (HS.out.blk 0 rfl).cell 2
  simp at c2
  go_wp2_with fail
  refine (kmake l r s _ l0 l1 r0 r1 s0 s1).mono ?_
  rintro e w3 ⟨k, hk, hL, hR, hS, rfl, hkk⟩
  simp only [Kfg.cells]
  replace HS := Lib.hid ((HS.out.grow hkk).new 29 #[.int .i64 (k.L : Int), .int .i64 (k.R : Int), .int .i64 (k.S : Int)])
  have HK := Lib.hid hk
  clear hkk hk c0 c1 c2
  go_wp2_with fail
  generalize w3.alloc _ = w4 at *
  generalize w3.heap.size = gk at *
  refine (formatted_any k _ old _ HK.out (HV.out.keep HS.out.keep) (by omega)).mono ?_
  rintro e w5 ⟨d, rfl, hdb, hd, hkk⟩
  obtain ⟨s5, hs5⟩ : ∃ s5, s5 = (St.fresh (-1) 0 (fill old k.words)).run (fmtOps k) := ⟨_, rfl⟩
  rw [← hs5] at hd
  have hI : s5.Is k.words := by rw [hs5]; exact (fresh_fill old k).run _
  have hA : AllS s5 k := by rw [hs5]; exact all_of HK.out (fresh_fill old k)
  have hl5 : s5.l < 0 := by rw [hs5, St.run_l]; show (-1 : Int) < 0; decide
  replace HS := Lib.hid (HS.out.add hkk (r := devR d s5) hd hdb)
  have hU : UseS s5 k 0 0 := ⟨hI, hl5, (hA.zer 0 (by omega)).1, (hA.zer 1 (by omega)).1⟩
  have HU := Lib.hid hU
  clear hdb hd hkk hs5 hI hA hl5 hU
  have hww := Kfg.words_le HK.out
  have hkS : k.S ≤ 4096 := HK.out.s1
  obtain ⟨a, hga, ha1⟩ := bit1_u8s x x0 x1
  have hwa : IntKind.u64.wrap (a : Int) = (a : Int) := by rw [IntKind.wrap_u64]; omega
  obtain ⟨na, hna⟩ : ∃ na, k.act = na := ⟨_, rfl⟩
  obtain ⟨nw, hnw⟩ : ∃ nw, k.words = nw := ⟨_, rfl⟩
  rw [hna, hnw] at hww
  have HNA := Lib.hid hna
  have HNW := Lib.hid hnw
  have c0 := (HS.out.blk 1 rfl).cell 0
  simp at c0
  have c1 := (HS.out.blk 1 rfl).cell 1
  simp at c1
  have c2 := (HS.out.blk 1 rfl).cell 2
  simp at c2
  go_wp2_with fail
  refine (kactive k _ HK.out).mono ?_
  rintro e w1 ⟨rfl, hk⟩
  replace HS := Lib.hid (HS.out.grow hk)
  clear hk
  rw [hna]
  clear c0 c1 c2
  go_wp2_with fail
  refine (store_free d s5 na (a : Int) _ (HS.out.dev 2 rfl) HU.out.lim (by rw [HU.out.is.now, hnw]; omega)).mono ?_
  rintro e w6 ⟨rfl, hd, hkk⟩
  replace HS := Lib.hid (HS.out.did (i := 2) rfl hd hkk)
  have e1 := St.nw_store HU.out.is (show na < k.words by omega) (a : Int)
  have hU2 : UseS (s5.store na (a : Int)) k a 0 := ⟨HU.out.is.store _ _, HU.out.lim, by rw [hna, e1, if_pos rfl], by rw [hna, e1, if_neg (by omega)]; have := HU.out.used; rwa [hna] at this⟩
  generalize s5.store na (a : Int) = t0 at *
  replace HU := Lib.hid hU2
  clear hd hkk hU2 e1 hga hwa
  have c0 := (HS.out.blk 1 rfl).cell 0
  simp at c0
  have c1 := (HS.out.blk 1 rfl).cell 1
  simp at c1
  have c2 := (HS.out.blk 1 rfl).cell 2
  simp at c2
  go_wp2_with fail
  refine (words7_any d t0 k _ (HS.out.dev 2 rfl) HK.out HU.out.is.now).mono ?_
  rintro e w7 ⟨gw, ex, cw, rfl, hbw, hgw, hkk⟩
  have hdl : (t0.now.drop k.act).length = nw - na := by rw [List.length_drop, HU.out.is.now, hnw, hna]
  rw [hdl, hna]
  replace HS := Lib.hid (HS.out.add hkk (r := blkR gw 25 (uw t0.now ++ ex).toArray) hbw (by intro y hy; simp [blkR] at hy; subst hy; exact hgw))
  have hsf : SameFrom t0.now t0 na nw := ⟨by rw [HU.out.is.now, hnw], fun q _ _ => rfl⟩
  have HSF := Lib.hid hsf
  clear hbw hgw hkk hdl hsf hna hnw c0 c1 c2
  replace HS : Hid (Sep w [] [blkR gx 24 #[.int .u16 l, .int .u16 r, .int .u16 s], blkR gk 29 #[.int .i64 (k.L : Int), .int .i64 (k.R : Int), .int .i64 (k.S : Int)], devR d t0, blkR gw 25 (uw t0.now ++ ex).toArray] w7) := HS
  go_wp2_with fail
  go_loopw [13, 16, 17, 18, 19, 20, 21, 22, 57] (fun v13 _ _ _ _ _ _ _ v' wr => ∃ (j u : Nat) (t : St) (fs : List Int), j ≤ hl.length ∧ v' = .int .i64 (j : Int) ∧ v13 = .int .i64 (u : Int) ∧ u ≤ k.S ∧ UseS t k a u ∧ SameFrom fs t na nw ∧ Sep w [] [blkR gx 24 #[.int .u16 l, .int .u16 r, .int .u16 s], blkR gk 29 #[.int .i64 (k.L : Int), .int .i64 (k.R : Int), .int .i64 (k.S : Int)], devR d t, blkR gw 25 (uw fs ++ ex).toArray] wr) (fun _ _ _ _ _ _ _ _ v' _ => hl.length - (intOf v').toNat)
  case atStart => exact ⟨0, 0, t0, t0.now, by omega, rfl, rfl, by omega, HU.out, HSF.out, HS.out⟩
  case round =>
    clear HS HU HSF
    obtain ⟨j, u, t, fs, hj, rfl, rfl, hu, hus, hsf, hs⟩ := hrel
    have HS := Lib.hid hs
    have HU := Lib.hid hus
    have HSF := Lib.hid hsf
    clear hs hus hsf
    by_cases hlt : j < hl.length
    · have hjI : (j : Int) < hl.length := by omega
      obtain ⟨h, hh⟩ : ∃ h, hl[j]? = some h := ⟨_, List.getElem?_eq_getElem (by omega)⟩
      have hko := HOK.out h (List.mem_of_getElem? hh)
      obtain ⟨A', c', hA, hr⟩ := HM0.out.keep HS.out.keep
      injection hA with e1 e2 e3
      subst e1
      obtain ⟨g, off, rfl, k0, k1⟩ := hr j h hh
      clear hr e2 e3 hh
      obtain ⟨rf, wd⟩ := h
      obtain ⟨q0, q1, q2, q3⟩ := hko
      simp only at k0 k1 q0 q1 q2 q3
      rw [show off + 2 * j = off + j * 2 by omega] at k0
      rw [show off + (2 * j + 1) = off + j * 2 + 1 by omega] at k1
      go_wp2_with fail
      refine (make_h rf wd _ q0 q1 q2 q3).mono ?_
      rintro e w8 ⟨rfl, hkk⟩
      obtain ⟨n0, hn0, hn1⟩ : ∃ n0 : Nat, wd % 9 = (n0 : Int) ∧ n0 ≤ 8 := ⟨(wd % 9).toNat, by omega, by omega⟩
      rw [hn0]
      obtain ⟨b, hb⟩ : ∃ b, rf % ((n0 : Int) + 1) = b := ⟨_, rfl⟩
      have hb0 : 0 ≤ b := by rw [← hb]; exact Int.emod_nonneg _ (by omega)
      have hb1' : b ≤ n0 := by have := Int.emod_lt_of_pos rf (show 0 < (n0 : Int) + 1 by omega); omega
      rw [hb]
      have hok : headOk (n0 : Int) b := ⟨by omega, by omega, hb0, hb1'⟩
      have HOK1 := Lib.hid hok
      replace HS := Lib.hid (((HS.out.new 65 #[.int .u8 rf, .int .u8 wd]).grow hkk).new 60 #[.int .i64 (n0 : Int), .int .i64 b])
      clear hkk hb hn0 hok hb0 hb1' k0 k1
      go_upto_region 17 with fail
      generalize wr.alloc _ = w9 at *
      generalize w8.alloc _ = wa at *
      generalize w8.heap.size = gh at *
      generalize wr.heap.size = gy at *
      have c0 := (HS.out.blk 1 rfl).cell 0
      simp at c0
      have c1 := (HS.out.blk 1 rfl).cell 1
      simp at c1
      have c2 := (HS.out.blk 1 rfl).cell 2
      simp at c2
      go_wp2_with fail
      refine (rread_any d t k a u _ (HS.out.dev 2 rfl) HK.out HU.out.is.now HU.out.act HU.out.used ha1 hu).mono ?_
      rintro e wb ⟨v, rfl, hkk, hrow, hnew⟩
      obtain ⟨RA, RC, hv⟩ := rowR_val hrow
      subst hv
      simp only [rbC]
      obtain ⟨RL, hRL⟩ : ∃ RL, (uw (rootsOf t k k.R)).length = RL := ⟨_, rfl⟩
      rw [hRL]
      replace HS := Lib.hid (HS.out.grow hkk)
      clear hkk hrow hnew c0 c1 c2 hRL
      go_upto_region 18 with fail
      replace HS := Lib.hid (HS.out.new 39 #[.int .i64 (a : Int), .int .i64 (u : Int), .slice RA RL RC])
      generalize wb.alloc _ = wc at *
      generalize wb.heap.size = gb at *
      have c0 := (HS.out.blk 1 rfl).cell 0
      simp at c0
      have c1 := (HS.out.blk 1 rfl).cell 1
      simp at c1
      have c2 := (HS.out.blk 1 rfl).cell 2
      simp at c2
      have b0 := (HS.out.blk 6 rfl).cell 0
      simp at b0
      have b1 := (HS.out.blk 6 rfl).cell 1
      simp at b1
      have b2 := (HS.out.blk 6 rfl).cell 2
      simp at b2
      obtain ⟨fa, hfa⟩ : ∃ fa, k.from_ a = fa := ⟨_, rfl⟩
      have hfw := Kfg.from_words HK.out (a := a) (by omega)
      have hfl := k.from_le
      have hf2 := Kfg.from_words HK.out (a := a + 1) (by omega)
      have hf3 := k.from_step a
      have hf4 := (up8_le k.S).1
      obtain ⟨f, hf⟩ : ∃ f, fa + u = f := ⟨_, rfl⟩
      obtain ⟨tt, ht⟩ : ∃ tt, fa + k.S = tt := ⟨_, rfl⟩
      rw [hfa] at hfw hf3
      rw [HNA.out] at hfl
      rw [HNW.out] at hfw hf2
      have hin : fa + k.S ≤ nw ∧ na + 2 ≤ fa := by omega
      clear hfw hfl hf2 hf3 hf4
      have hfr := fun w => sfresh_is k a u f tt (.slice RA RL RC) w HK.out (by omega) (by omega) (by rw [hfa]; exact hf) (by rw [hfa]; exact ht)
      have hfrom := fun w => kfrom k w HK.out a (by omega)
      rw [hfa] at hfrom
      have HFR := Lib.hid hfr
      have HFROM := Lib.hid hfrom
      have HFA := Lib.hid hfa
      clear hfr hfrom hfa
      go_wp2_with fail
      refine (HFR.out _).mono ?_
      rintro e wd2 ⟨rfl, hkk⟩
      replace HS := Lib.hid (HS.out.grow hkk)
      clear hkk c0 c1 c2 b0 b1 b2
      go_upto_region 19 with fail
      replace HS := Lib.hid (HS.out.new 68 #[.int .i64 (f : Int), .int .i64 (tt : Int)])
      generalize wd2.alloc _ = we at *
      generalize wd2.heap.size = gs at *
      have hadd1 : IntKind.i64.wrap ((fa : Int) + (u : Int)) = (f : Int) := by rw [IntWalk.i64_in _ (by omega)]; omega
      have hadd2 : IntKind.i64.wrap ((fa : Int) + (k.S : Int)) = (tt : Int) := by rw [IntWalk.i64_in _ (by omega)]; omega
      have c0 : ∀ x : Ext we, x.now.cell? ⟨gk, 0, none⟩ = some (.int .i64 (k.L : Int)) := fun x => x.cell (by simpa using (HS.out.blk 1 rfl).cell 0)
      have c1 : ∀ x : Ext we, x.now.cell? ⟨gk, 1, none⟩ = some (.int .i64 (k.R : Int)) := fun x => x.cell (by simpa using (HS.out.blk 1 rfl).cell 1)
      have c2 : ∀ x : Ext we, x.now.cell? ⟨gk, 2, none⟩ = some (.int .i64 (k.S : Int)) := fun x => x.cell (by simpa using (HS.out.blk 1 rfl).cell 2)
      have z0 : ∀ x : Ext we, x.now.cell? ⟨gs, 0, none⟩ = some (.int .i64 (f : Int)) := fun x => x.cell (by simpa using (HS.out.blk 7 rfl).cell 0)
      have z1 : ∀ x : Ext we, x.now.cell? ⟨gs, 1, none⟩ = some (.int .i64 (tt : Int)) := fun x => x.cell (by simpa using (HS.out.blk 7 rfl).cell 1)
      refine wp_region_ext (by kernel_rfl) (by kernel_rfl) ?_
      repeat (go_big_quiet_step ((first | (go_at_call 24; with_reducible exact Calls.ext (HFROM.out _)))))
      refine wpQuiet_nil ?_
      rintro _ ⟨x, rfl⟩
      replace HS := Lib.hid (HS.out.grow x.keep)
      clear c0 c1 c2 z0 z1 HFR
      go_upto_region 21 with fail
      obtain ⟨p, hp⟩ : ∃ p, k.S - u = p := ⟨_, rfl⟩
      have hsub : IntKind.i64.wrap ((k.S : Int) - (u : Int)) = (p : Int) := by rw [IntWalk.i64_in _ (by omega)]; omega
      have c0 := (HS.out.blk 1 rfl).cell 0
      simp at c0
      have c1 := (HS.out.blk 1 rfl).cell 1
      simp at c1
      have c2 := (HS.out.blk 1 rfl).cell 2
      simp at c2
      have h0 := (HS.out.blk 5 rfl).cell 0
      simp at h0
      have h1 := (HS.out.blk 5 rfl).cell 1
      simp at h1
      by_cases hfit : u + (n0 + 1) ≤ k.S
      · go_wp2_with fail
        have hatf : k.from_ a + u = f := by rw [HFA.out]; exact hf
        refine (alloc_dev d t k n0 a u f b _ HK.out HU.out.is HU.out.lim HOK1.out HU.out.act HU.out.used ha1 hfit hatf (HS.out.dev 2 rfl)).mono ?_
        rintro e wf ⟨rfl, hS⟩
        replace HS := Lib.hid (HS.out.app hS (i := 2) rfl (fun k h => h) (j := 0) rfl)
        have hU2 := HU.out.alloc (hv := hw (n0 : Int) b) HK.out ha1 hatf hfit
        have hpk := fun w => hpack_any (n0 : Int) b w HOK1.out
        obtain ⟨hv, hhv⟩ : ∃ hv, hw (n0 : Int) b = hv := ⟨_, rfl⟩
        rw [hhv] at hU2 HS hpk
        have hnw2 := allocS_nw (hv := hv) HU.out.is k u n0 f (by rw [HNA.out, HNW.out]; omega) (by rw [HNW.out]; omega) (by rw [HNA.out]; omega)
        rw [HNA.out] at hnw2
        obtain ⟨t2, ht2⟩ : ∃ t2, allocS t k u n0 f hv = t2 := ⟨_, rfl⟩
        rw [ht2] at hnw2 hU2 HS
        obtain ⟨us, hus⟩ : ∃ us, u + (n0 + 1) = us := ⟨_, rfl⟩
        rw [hus] at hnw2 hU2
        have HNW2 := Lib.hid hnw2
        have HU2 := Lib.hid hU2
        have HPK := Lib.hid hpk
        have husk : us ≤ k.S := by omega
        clear hS hU2 hpk hhv hnw2 ht2 c0 c1 c2 h0 h1 hatf
        have c0 := (HS.out.blk 1 rfl).cell 0
        simp at c0
        have c1 := (HS.out.blk 1 rfl).cell 1
        simp at c1
        have c2 := (HS.out.blk 1 rfl).cell 2
        simp at c2
        have h0 := (HS.out.blk 5 rfl).cell 0
        simp at h0
        have h1 := (HS.out.blk 5 rfl).cell 1
        simp at h1
        have hgt : decide (((n0 : Int) + 1) > (p : Int)) = false := by simp; omega
        have hgt2 : (p < n0 + 1) = False := by simp; omega
        have hgt3 : ((p : Int) < (n0 : Int) + 1) = False := by simp; omega
        have hfe : (fa : Int) + (u : Int) = (f : Int) := by omega
        have hfI : (f : Int) ≤ 20000 := by omega
        go_wp2_with fail
        refine (HFROM.out _).mono ?_
        rintro e wg ⟨rfl, hkk⟩
        replace HS := Lib.hid (HS.out.grow hkk)
        clear hkk c0 c1 c2 h0 h1
        replace HS : Hid (Sep w [] [blkR gx 24 #[.int .u16 l, .int .u16 r, .int .u16 s], blkR gk 29 #[.int .i64 (k.L : Int), .int .i64 (k.R : Int), .int .i64 (k.S : Int)], devR d t2, blkR gw 25 (uw fs ++ ex).toArray, blkR gy 65 #[.int .u8 rf, .int .u8 wd], blkR gh 60 #[.int .i64 (n0 : Int), .int .i64 b]] wg) := Lib.hid (HS.out.take 6)
        have h0 := (HS.out.blk 5 rfl).cell 0
        simp at h0
        go_wp2_with fail
        have hnI : (n0 : Int) ≤ 8 := by omega
        have hpeq : ∀ q, na ≤ q → q < nw → fs.getD q 0 = if f ≤ q ∧ q < f + 0 then 0 else fs.getD q 0 := fun q _ _ => by rw [if_neg (by omega)]
        clear h0 hgt hgt2 hgt3 hfe hsub hadd1 hadd2
        have hfl := HSF.out.1
        go_loopw [22, 132] (fun _ v' wr => ∃ (i : Nat) (fs2 : List Int), i ≤ n0 + 1 ∧ v' = .int .i64 (i : Int) ∧ fs2.length = nw ∧ (∀ q, na ≤ q → q < nw → fs2.getD q 0 = if f ≤ q ∧ q < f + i then 0 else fs.getD q 0) ∧ Sep w [] [blkR gx 24 #[.int .u16 l, .int .u16 r, .int .u16 s], blkR gk 29 #[.int .i64 (k.L : Int), .int .i64 (k.R : Int), .int .i64 (k.S : Int)], devR d t2, blkR gw 25 (uw fs2 ++ ex).toArray, blkR gy 65 #[.int .u8 rf, .int .u8 wd], blkR gh 60 #[.int .i64 (n0 : Int), .int .i64 b]] wr) (fun _ v' _ => n0 + 1 - (intOf v').toNat)
        case atStart => exact ⟨0, fs, by omega, rfl, hfl, hpeq, HS.out⟩
        case round =>
          clear HS hpeq
          obtain ⟨i, fs2, hi, rfl, hfl2, hpe, hs⟩ := hrel
          have HS := Lib.hid hs
          have HPE := Lib.hid hpe
          clear hs hpe
          obtain ⟨fm, hfm⟩ : ∃ fm, f - na = fm := ⟨_, rfl⟩
          have hsI : (f : Int) - (na : Int) = (fm : Int) := by omega
          have hsI2 : IntKind.i64.wrap ((f : Int) - (na : Int)) = (fm : Int) := by rw [IntWalk.i64_in _ (by omega)]; omega
          have hfmI : (fm : Int) ≤ 20000 := by omega
          by_cases hlt2 : i < n0 + 1
          · have hiI : (i : Int) < (n0 : Int) + 1 := by omega
            obtain ⟨y, hy⟩ : ∃ y, fs2.getD (na + (fm + i)) 0 = y := ⟨_, rfl⟩
            have k0 := cell_uw (HS.out.blk 3 rfl) (show na + (fm + i) < fs2.length by omega)
            rw [hy] at k0
            have z0 := (HS.out.blk 3 rfl).frozen (na + (fm + i))
            have hixI : (fm : Int) + (i : Int) < ((nw - na : Nat) : Int) := by omega
            have hixN : fm + i < nw - na := by omega
            obtain ⟨fs3, hfs3⟩ : ∃ fs3, fs2.set (na + (fm + i)) 0 = fs3 := ⟨_, rfl⟩
            have hfl3 : fs3.length = nw := by rw [← hfs3]; simpa using hfl2
            have hp3 : ∀ q, na ≤ q → q < nw → fs3.getD q 0 = if f ≤ q ∧ q < f + (i + 1) then 0 else fs.getD q 0 := fun q hq1 hq2 => by
              rw [← hfs3, getD_set _ (by omega), HPE.out q hq1 hq2]
              by_cases hqe : q = na + (fm + i)
              · rw [if_pos hqe, if_pos (by omega)]
              · rw [if_neg hqe]
                by_cases hc : f ≤ q ∧ q < f + i
                · rw [if_pos hc, if_pos (by omega)]
                · rw [if_neg hc, if_neg (by omega)]
            have hset3 := set_uw (ex := ex) 0 (show na + (fm + i) < fs2.length by omega)
            rw [hfs3] at hset3
            have HP3 := Lib.hid hp3
            have HSET := Lib.hid hset3
            clear hy hfs3 hp3 hset3
            have c0 := (HS.out.blk 1 rfl).cell 0
            simp at c0
            have c1 := (HS.out.blk 1 rfl).cell 1
            simp at c1
            have c2 := (HS.out.blk 1 rfl).cell 2
            simp at c2
            go_wp2_with fail
            refine (kactive k _ HK.out).mono ?_
            rw [HNA.out]
            rintro e wi ⟨rfl, hkk⟩
            have k1 : wi.cell? ⟨gw, na + (fm + i), none⟩ = some (.int .u64 y) := (Ext.mk wi hkk : Ext _).cell k0
            replace HS := Lib.hid (HS.out.grow hkk)
            have z1 := (HS.out.blk 3 rfl).frozen (na + (fm + i))
            have hput := HS.out.put (i := 3) rfl (na + (fm + i)) (.int .u64 0)
            rw [HSET.out] at hput
            have HPUT := Lib.hid hput
            clear hkk k0 z0 c0 c1 c2 hput
            go_wp2
            exact ⟨⟨i + 1, fs3, by omega, by first | rfl | go_num | simp, hfl3, HP3.out, HPUT.out⟩, by simp [intOf]; omega⟩
          · have hin : i = n0 + 1 := by omega
            subst hin
            have hlt3 : ¬ (((n0 + 1 : Nat) : Int) < (n0 : Int) + 1) := by omega
            have husI : (u : Int) + ((n0 : Int) + 1) = (us : Int) := by omega
            have h0 := (HS.out.blk 5 rfl).cell 0
            simp at h0
            go_upto_region 33 with fail
            have hsf4 : SameFrom ((fs2.set (na + fm) hv).set (na + 1) (us : Int)) t2 na nw := ⟨by simpa using hfl2, fun q hq1 hq2 => by
              rw [getD_set _ (by simp; omega), getD_set _ (by omega), HPE.out q hq1 hq2, HNW2.out, HSF.out.2 q hq1 hq2]
              by_cases e1 : q = na + 1
              · rw [if_pos e1, if_pos e1]
              · rw [if_neg e1, if_neg e1]
                by_cases e2 : q = f
                · rw [if_pos (by omega), if_pos (by omega), if_pos e2]
                · rw [if_neg (by omega), if_neg e2]⟩
            have hset3 := set_uw (ex := ex) hv (show na + fm < fs2.length by omega)
            have hfl3 : (fs2.set (na + fm) hv).length = nw := by simpa using hfl2
            generalize fs2.set (na + fm) hv = fs3 at *
            have hset4 := set_uw (ex := ex) (us : Int) (show na + 1 < fs3.length by omega)
            generalize fs3.set (na + 1) (us : Int) = fs4 at *
            have HSF4 := Lib.hid hsf4
            have HSET3 := Lib.hid hset3
            have HSET4 := Lib.hid hset4
            have hact := fun w => kactive k w HK.out
            rw [HNA.out] at hact
            have HACT := Lib.hid hact
            have hcv : IntKind.u64.wrap (us : Int) = (us : Int) := by rw [IntKind.wrap_u64]; omega
            clear hsf4 hset3 hset4 hact h0
            have hixI : (fm : Int) < ((nw - na : Nat) : Int) := by omega
            have hixN : fm < nw - na := by omega
            have hixI1 : (1 : Int) < ((nw - na : Nat) : Int) := by omega
            have hixN1 : 1 < nw - na := by omega
            have hb3 : na + fm < fs2.length := by omega
            have hb4 : na + 1 < fs3.length := by omega
            refine wp_region_st3 (W := w) (S := []) (by kernel_rfl) (by kernel_rfl) (by kernel_rfl) (fun D u => [blkR gx 24 #[.int .u16 l, .int .u16 r, .int .u16 s], blkR gk 29 #[.int .i64 (k.L : Int), .int .i64 (k.R : Int), .int .i64 (k.S : Int)], devR d t2, blkR gw 25 (uw (bif D 13 then fs4 else bif D 11 then fs3 else fs2) ++ ex).toArray, blkR gy 65 #[.int .u8 rf, .int .u8 wd], blkR gh 60 #[.int .i64 (n0 : Int), .int .i64 b]])
              (fun j v => match j with
                | 0 | 5 => v = .slice (some ⟨gw, na, none⟩) (nw - na) cw
                | 1 => v = .int .i64 (f : Int)
                | 2 => v = .agg #[.int .i64 (k.L : Int), .int .i64 (k.R : Int), .int .i64 (k.S : Int)]
                | 3 => v = .int .i64 (na : Int)
                | 4 => v = .int .i64 (fm : Int)
                | 6 => v = .agg #[.int .i64 (n0 : Int), .int .i64 b]
                | 7 => v = .int .u64 hv
                | 8 => v = .int .i64 (us : Int)
                | 9 => v = .int .u64 (us : Int)
                | 10 => v = .pointer (some ⟨gw, na + fm, none⟩)
                | 12 => v = .pointer (some ⟨gw, na + 1, none⟩)
                | _ => True) ?start ?step ?fin
            case start => exact fun u => HS.out
            case step =>
              clear HS
              refine ⟨?_, ?_, ?_, ?_, ?_, ?_, ?_, ?_, ?_, ?_, ?_, ?_, ?_, ?_, trivial⟩
              · intro D u w' K hD hF hl hS hK
                simp only [puts, Act.put, List.setIfInBounds_toArray, List.set_cons_succ, List.set_cons_zero, Nat.zero_add, Nat.reduceAdd]
                go_simp
                simp only [yUpon]
                exact hK _ _ rfl hS
              · intro D u w' K hD hF hl hS hK
                simp only [puts, Act.put, List.setIfInBounds_toArray, List.set_cons_succ, List.set_cons_zero, Nat.zero_add, Nat.reduceAdd]
                go_simp
                simp only [yUpon]
                exact hK _ _ rfl hS
              · intro D u w' K hD hF hl hS hK
                simp only [puts, Act.put, List.setIfInBounds_toArray, List.set_cons_succ, List.set_cons_zero, Nat.zero_add, Nat.reduceAdd]
                have x0 := (hS.blk 1 rfl).cell 0
                have x1 := (hS.blk 1 rfl).cell 1
                have x2 := (hS.blk 1 rfl).cell 2
                simp at x0 x1 x2
                go_simp
                simp only [yUpon]
                exact hK _ _ rfl hS
              · intro D u w' K hD hF hl hS hK
                have f2 := (hF 2 (by kernel_rfl)).2
                simp only at f2
                simp only [puts, Act.put, List.setIfInBounds_toArray, List.set_cons_succ, List.set_cons_zero, Nat.zero_add, Nat.reduceAdd]
                simp only [f2]
                go_simp
                simp only [yUpon]
                refine (HACT.out _).mono ?_
                rintro e w1 ⟨rfl, hkk⟩
                exact hK _ _ rfl (hS.grow hkk)
              · intro D u w' K hD hF hl hS hK
                have f1 := (hF 1 (by kernel_rfl)).2
                simp only at f1
                have f3 := (hF 3 (by kernel_rfl)).2
                simp only at f3
                simp only [puts, Act.put, List.setIfInBounds_toArray, List.set_cons_succ, List.set_cons_zero, Nat.zero_add, Nat.reduceAdd]
                simp only [f1, f3]
                have hwf : IntKind.i64.wrap (fm : Int) = (fm : Int) := IntWalk.i64_in _ (by omega)
                go_simp
                simp only [yUpon]
                exact hK _ _ rfl hS
              · intro D u w' K hD hF hl hS hK
                simp only [puts, Act.put, List.setIfInBounds_toArray, List.set_cons_succ, List.set_cons_zero, Nat.zero_add, Nat.reduceAdd]
                go_simp
                simp only [yUpon]
                exact hK _ _ rfl hS
              · intro D u w' K hD hF hl hS hK
                simp only [puts, Act.put, List.setIfInBounds_toArray, List.set_cons_succ, List.set_cons_zero, Nat.zero_add, Nat.reduceAdd]
                have x0 := (hS.blk 5 rfl).cell 0
                have x1 := (hS.blk 5 rfl).cell 1
                simp at x0 x1
                go_simp
                simp only [yUpon]
                exact hK _ _ rfl hS
              · intro D u w' K hD hF hl hS hK
                have f6 := (hF 6 (by kernel_rfl)).2
                simp only at f6
                simp only [puts, Act.put, List.setIfInBounds_toArray, List.set_cons_succ, List.set_cons_zero, Nat.zero_add, Nat.reduceAdd]
                simp only [f6]
                go_simp
                simp only [yUpon]
                refine (HPK.out _).mono ?_
                rintro e w1 ⟨rfl, hkk⟩
                exact hK _ _ rfl (hS.grow hkk)
              · intro D u w' K hD hF hl hS hK
                simp only [puts, Act.put, List.setIfInBounds_toArray, List.set_cons_succ, List.set_cons_zero, Nat.zero_add, Nat.reduceAdd]
                go_simp
                simp only [yUpon]
                exact hK _ _ rfl hS
              · intro D u w' K hD hF hl hS hK
                have f8 := (hF 8 (by kernel_rfl)).2
                simp only at f8
                simp only [puts, Act.put, List.setIfInBounds_toArray, List.set_cons_succ, List.set_cons_zero, Nat.zero_add, Nat.reduceAdd]
                simp only [f8]
                go_simp
                simp only [yUpon]
                exact hK _ _ rfl hS
              · intro D u w' K hD hF hl hS hK
                have f0 := (hF 0 (by kernel_rfl)).2
                simp only at f0
                have f4 := (hF 4 (by kernel_rfl)).2
                simp only at f4
                simp only [puts, Act.put, List.setIfInBounds_toArray, List.set_cons_succ, List.set_cons_zero, Nat.zero_add, Nat.reduceAdd]
                simp only [f0, f4]
                go_simp
                simp only [yUpon]
                exact hK _ _ rfl hS
              · intro D u w' K hD hF hl hS hK
                have f7 := (hF 7 (by kernel_rfl)).2
                simp only at f7
                have f10 := (hF 10 (by kernel_rfl)).2
                simp only at f10
                simp only [puts, Act.put, List.setIfInBounds_toArray, List.set_cons_succ, List.set_cons_zero, Nat.zero_add, Nat.reduceAdd]
                simp only [f7, f10]
                have hlate := hl 13 (by kernel_rfl)
                simp only [hD, hlate, cond_false] at hS
                have x0 := cell_uw (hS.blk 3 rfl) hb3
                have z0 := (hS.blk 3 rfl).frozen (na + fm)
                have hput := hS.put (i := 3) rfl (na + fm) (.int .u64 hv)
                rw [HSET3.out] at hput
                have e1 : (fset D 11 true) 13 = false := hlate
                have e2 : (fset D 11 true) 11 = true := rfl
                go_simp
                simp only [yUpon]
                refine hK _ _ trivial ?_
                simp only [e1, e2, cond_true, cond_false]
                exact hput
              · intro D u w' K hD hF hl hS hK
                have f5 := (hF 5 (by kernel_rfl)).2
                simp only at f5
                simp only [puts, Act.put, List.setIfInBounds_toArray, List.set_cons_succ, List.set_cons_zero, Nat.zero_add, Nat.reduceAdd]
                simp only [f5]
                go_simp
                simp only [yUpon]
                exact hK _ _ rfl hS
              · intro D u w' K hD hF hl hS hK
                have f9 := (hF 9 (by kernel_rfl)).2
                simp only at f9
                have f12 := (hF 12 (by kernel_rfl)).2
                simp only at f12
                simp only [puts, Act.put, List.setIfInBounds_toArray, List.set_cons_succ, List.set_cons_zero, Nat.zero_add, Nat.reduceAdd]
                simp only [f9, f12]
                have h11 := (hF 11 (by kernel_rfl)).1
                simp only [hD, h11, cond_false, cond_true] at hS
                have x0 := cell_uw (hS.blk 3 rfl) hb4
                have z0 := (hS.blk 3 rfl).frozen (na + 1)
                have hput := hS.put (i := 3) rfl (na + 1) (.int .u64 (us : Int))
                rw [HSET4.out] at hput
                have e1 : (fset D 13 true) 13 = true := rfl
                go_simp
                simp only [yUpon]
                refine hK _ _ trivial ?_
                simp only [e1, cond_true]
                exact hput
            case fin =>
              intro D u wf hall hS
              have f5 := (hall 13 (by simp)).1
              simp only [f5, cond_true] at hS
              replace HS : Hid (Sep w [] [blkR gx 24 #[.int .u16 l, .int .u16 r, .int .u16 s], blkR gk 29 #[.int .i64 (k.L : Int), .int .i64 (k.R : Int), .int .i64 (k.S : Int)], devR d t2, blkR gw 25 (uw (fs4) ++ ex).toArray, blkR gy 65 #[.int .u8 rf, .int .u8 wd], blkR gh 60 #[.int .i64 (n0 : Int), .int .i64 b]] wf) := Lib.hid hS
              clear hall hS
              simp only [puts, Act.put, List.setIfInBounds_toArray, List.set_cons_succ, List.set_cons_zero, Nat.zero_add, Nat.reduceAdd]
              replace HS := Lib.hid (HS.out.take 4)
              replace HS : Hid (Sep w [] [blkR gx 24 #[.int .u16 l, .int .u16 r, .int .u16 s], blkR gk 29 #[.int .i64 (k.L : Int), .int .i64 (k.R : Int), .int .i64 (k.S : Int)], devR d (t2), blkR gw 25 (uw (fs4) ++ ex).toArray] wf) := HS
              have c0 := (HS.out.blk 1 rfl).cell 0
              simp at c0
              have c1 := (HS.out.blk 1 rfl).cell 1
              simp at c1
              have c2 := (HS.out.blk 1 rfl).cell 2
              simp at c2
              go_wp2_with fail
              refine (words7_any d (t2) k _ (HS.out.dev 2 rfl) HK.out HU2.out.is.now).mono ?_
              rintro e wg ⟨g2, ex2, cw2, rfl, hbw, hgw, hkk⟩
              have hlen : (t2).now.length = nw := by rw [HU2.out.is.now, HNW.out]
              have hdl : ((t2).now.drop k.act).length = nw - na := by rw [List.length_drop, hlen, HNA.out]
              rw [hdl, HNA.out]
              replace HS := Lib.hid (HS.out.add hkk (r := blkR g2 25 (uw (t2).now ++ ex2).toArray) hbw (by intro y hy; simp [blkR] at hy; subst hy; exact hgw))
              have h1 : Rd wg (.slice (some ⟨g2, na, none⟩) (nw - na) cw2) (uw ((t2).now.drop na)) := Rd.behind7 (HS.out.blk 4 rfl) (by rw [List.length_drop, hlen])
              have h2 : Rd wg (.slice (some ⟨gw, na, none⟩) (nw - na) cw) (uw ((fs4).drop na)) := Rd.behind7 (HS.out.blk 3 rfl) (by rw [List.length_drop, HSF4.out.1])
              have heq := equal_any _ _ ((t2).now.drop na) ((fs4).drop na) wg h1 h2 (by rw [List.length_drop, hlen]; omega)
              rw [decide_eq_true (HSF4.out.drop hlen)] at heq
              have HEQ := Lib.hid heq
              clear hbw hgw hkk hlen hdl h1 h2 heq c0 c1 c2
              go_wp2_with fail
              refine HEQ.out.mono ?_
              rintro e wh ⟨rfl, hkk⟩
              replace HS := Lib.hid (HS.out.grow hkk)
              clear hkk
              go_wp2
              exact ⟨⟨j + 1, us, t2, fs4, by omega, by first | rfl | go_num | simp, by first | rfl | go_num | simp, husk, HU2.out, HSF4.out, HS.out.take 4⟩, by simp [intOf]; omega⟩
      · go_wp2_with fail
        refine (alloc_space d t k n0 a u b _ _ (HS.out.dev 2 rfl) HK.out HU.out.is.now HOK1.out HU.out.act HU.out.used ha1 hu (by omega)).mono ?_
        rintro e wf ⟨rfl, hkk⟩
        replace HS := Lib.hid (HS.out.grow hkk)
        clear hkk c0 c1 c2 h0 h1
        have c2 := (HS.out.blk 1 rfl).cell 2
        simp at c2
        have h0 := (HS.out.blk 5 rfl).cell 0
        simp at h0
        have hgt : decide (((n0 : Int) + 1) > (p : Int)) = true := by simp; omega
        have hgt2 : (p < n0 + 1) = True := by simp; omega
        have hgt3 : ((p : Int) < (n0 : Int) + 1) = True := by simp; omega
        go_upto_region 34 with fail
        clear hgt hgt2 hgt3 c2 h0 hsub hadd1 hadd2
        replace HS := Lib.hid (HS.out.take 4)
        replace HS : Hid (Sep w [] [blkR gx 24 #[.int .u16 l, .int .u16 r, .int .u16 s], blkR gk 29 #[.int .i64 (k.L : Int), .int .i64 (k.R : Int), .int .i64 (k.S : Int)], devR d (t), blkR gw 25 (uw (fs) ++ ex).toArray] wf) := HS
        have c0 := (HS.out.blk 1 rfl).cell 0
        simp at c0
        have c1 := (HS.out.blk 1 rfl).cell 1
        simp at c1
        have c2 := (HS.out.blk 1 rfl).cell 2
        simp at c2
        go_wp2_with fail
        refine (words7_any d (t) k _ (HS.out.dev 2 rfl) HK.out HU.out.is.now).mono ?_
        rintro e wg ⟨g2, ex2, cw2, rfl, hbw, hgw, hkk⟩
        have hlen : (t).now.length = nw := by rw [HU.out.is.now, HNW.out]
        have hdl : ((t).now.drop k.act).length = nw - na := by rw [List.length_drop, hlen, HNA.out]
        rw [hdl, HNA.out]
        replace HS := Lib.hid (HS.out.add hkk (r := blkR g2 25 (uw (t).now ++ ex2).toArray) hbw (by intro y hy; simp [blkR] at hy; subst hy; exact hgw))
        have h1 : Rd wg (.slice (some ⟨g2, na, none⟩) (nw - na) cw2) (uw ((t).now.drop na)) := Rd.behind7 (HS.out.blk 4 rfl) (by rw [List.length_drop, hlen])
        have h2 : Rd wg (.slice (some ⟨gw, na, none⟩) (nw - na) cw) (uw ((fs).drop na)) := Rd.behind7 (HS.out.blk 3 rfl) (by rw [List.length_drop, HSF.out.1])
        have heq := equal_any _ _ ((t).now.drop na) ((fs).drop na) wg h1 h2 (by rw [List.length_drop, hlen]; omega)
        rw [decide_eq_true (HSF.out.drop hlen)] at heq
        have HEQ := Lib.hid heq
        clear hbw hgw hkk hlen hdl h1 h2 heq c0 c1 c2
        go_wp2_with fail
        refine HEQ.out.mono ?_
        rintro e wh ⟨rfl, hkk⟩
        replace HS := Lib.hid (HS.out.grow hkk)
        clear hkk
        go_wp2
        exact ⟨⟨j + 1, u, t, fs, by omega, by first | rfl | go_num | simp, by first | rfl | go_num | simp, hu, HU.out, HSF.out, HS.out.take 4⟩, by simp [intOf]; omega⟩
    · have hlt' : ¬ (j : Int) < (hl.length : Int) := by omega
      go_wp2
      go_ret
      exact ⟨rfl, HS.out.keep⟩

theorem SpaceAllocs.walk {v1 v2 : Value} {w : World} (l r s : Int) (h : (lowest .u16 ≤ l ∧ l ≤ greatest .u16) ∧ (lowest .u16 ≤ r ∧ r ≤ greatest .u16) ∧ (lowest .u16 ≤ s ∧ s ≤ greatest .u16)) (old : List Int) (hv : Rd w v1 (uw old)) (hb : ∀ x ∈ old, lowest .u64 ≤ x ∧ x ≤ greatest .u64) (hol : old.length ≤ maxLen) (hl : List HV) (hm : RdH w v2 hl) (hok : ∀ x ∈ hl, x.Ok) (hml : hl.length ≤ maxLen) (x : Int) (x0 : lowest .u8 ≤ x) (x1 : x ≤ greatest .u8) :
    Calls Try.prog 10 #[.agg #[.int .u16 l, .int .u16 r, .int .u16 s], v1, v2, .int .u8 x] w fun e w' => e = .returned (.bool true) ∧ Below w.heap.size w w' := by
  obtain ⟨⟨l0, l1⟩, ⟨r0, r1⟩, s0, s1⟩ := h
  simp [lowest, greatest] at l0 l1 r0 r1 s0 s1 x0 x1
  exact (SpaceAllocs.core l r s x v1 v2 old hl w l0 l1 r0 r1 s0 s1 hv hol hm hok hml x0 x1).mono fun e w' ⟨he, hk⟩ => ⟨he, hk.below⟩
end Go.Proofs.Ytaophnicdbmojaa
