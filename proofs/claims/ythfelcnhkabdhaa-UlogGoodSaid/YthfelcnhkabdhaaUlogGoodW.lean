/-
  UlogGood: the walk.
-/
import Derived.Deep.CutRange
import Derived.Test.YthfelcnhkabdhaaUndo
import Derived.Test.YthfelcnhkabdhaaPlace
set_option linter.unusedSimpArgs false
set_option linter.unusedVariables false
namespace Go.Proofs.Ythfelcnhkabdhaa
open Go.RowKit Go.Shelf

theorem Rd.cellk {w : World} {g off n c j : Nat} {q : IntKind} {xs : List Int} (h : Rd w (.slice (some ⟨g, off, none⟩) n c) (xs.map (.int q))) (hj : j < xs.length) : w.cell? ⟨g, off + j, none⟩ = some (.int q (xs.getD j 0)) := by
  obtain ⟨A', c', hA, hr⟩ := h.cells
  injection hA with e1 e2 e3
  subst e1
  obtain ⟨g', off', he, k0⟩ := hr j hj
  injection he with he
  injection he with e4 e5
  subst e4 e5
  exact k0

/-- Behind i records, of which the first n count. -/
structure GInv (s : St) (k : Kfg) (ep e bad : Int) (i n : Nat) : Prop where
  le : n ≤ i
  epo : s.nw 8 = ep
  yes : ∀ j, j < n → s.nw (16 + 4 * j) = stampOf e j
  no : n < i → s.nw (16 + 4 * n) ≠ stampOf e n
  rest : ∀ j, i ≤ j → j < k.L → s.nw (16 + 4 * j) = 0
  good : GoodIs s k n bad
section
variable {s : St} {k : Kfg} {ep e bad x y : Int} {i n : Nat}
theorem GInv.log (h : GInv s k ep e bad i n) (hi : i ≤ k.L) (he : ep % 4294967296 = e) (he0 : 0 ≤ e) : LogIs s k e n :=
  ⟨by have := h.le; omega, by rw [h.epo]; exact he, h.yes, fun hlt => by
    rcases Nat.lt_or_ge n i with hni | hni
    · exact h.no hni
    · rw [h.rest n hni hlt]; unfold stampOf; omega⟩
theorem rec_nw (hk : k.Ok) (hI : s.Is k.words) (hi : i < k.L) (j : Nat) : ((s.store (16 + 4 * i) x).store (16 + 4 * i + 1) y).nw j = if j = 16 + 4 * i + 1 then y else if j = 16 + 4 * i then x else s.nw j := by
  have := Kfg.words_le hk
  have := k.act_le
  have i1 := hI.store (16 + 4 * i) x
  rw [St.nw_store i1 (by omega), St.nw_store hI (by omega)]
theorem GoodIs.same {s s' : St} {r : Int} (h : GoodIs s k n r) (hs : ∀ j, j < n → s'.nw (16 + 4 * j + 1) = s.nw (16 + 4 * j + 1)) : GoodIs s' k n r := by
  have hr : ∀ j, j < n → (RecOk s' k j ↔ RecOk s k j) := fun j hj => by unfold RecOk; rw [hs j hj]
  rcases h with ⟨b, hb, he, ho, hn⟩ | ⟨he, ho⟩
  · exact .inl ⟨b, hb, he, fun j hj => (hr j (by omega)).2 (ho j hj), fun h => hn ((hr b hb).1 h)⟩
  · exact .inr ⟨he, fun j hj => (hr j hj).2 (ho j hj)⟩
/-- A record that doesn't count. -/
theorem GInv.stay (h : GInv s k ep e bad i n) (hk : k.Ok) (hI : s.Is k.words) (hi : i < k.L) (hx : n = i → x ≠ stampOf e i) : GInv ((s.store (16 + 4 * i) x).store (16 + 4 * i + 1) y) k ep e bad (i + 1) n := by
  have e1 := fun j => rec_nw (x := x) (y := y) hk hI hi j
  have hle := h.le
  refine ⟨by omega, by rw [e1, if_neg (by omega), if_neg (by omega)]; exact h.epo, fun j hj => ?_, fun _ => ?_, fun j hj hjl => ?_, h.good.same fun j hj => ?_⟩
  · rw [e1, if_neg (by omega), if_neg (by omega)]; exact h.yes j hj
  · rw [e1, if_neg (by omega)]
    by_cases hni : n = i
    · rw [if_pos (by omega), hni]; exact hx hni
    · rw [if_neg (by omega)]; exact h.no (by omega)
  · rw [e1, if_neg (by omega), if_neg (by omega)]; exact h.rest j (by omega) hjl
  · rw [e1, if_neg (by omega), if_neg (by omega)]
/-- One that counts. -/
theorem GInv.more (h : GInv s k ep e bad i i) (hk : k.Ok) (hI : s.Is k.words) (hi : i < k.L) (hx : x = stampOf e i) : GInv ((s.store (16 + 4 * i) x).store (16 + 4 * i + 1) y) k ep e (if bad < 0 ∧ (y < k.act ∨ (k.words : Int) ≤ y) then (i : Int) else bad) (i + 1) (i + 1) := by
  have e1 := fun j => rec_nw (x := x) (y := y) hk hI hi j
  refine ⟨Nat.le_refl _, by rw [e1, if_neg (by omega), if_neg (by omega)]; exact h.epo, fun j hj => ?_, fun hj => by omega, fun j hj hjl => ?_, ?_⟩
  · rw [e1, if_neg (by omega)]
    by_cases hji : j = i
    · subst hji; rw [if_pos rfl]; exact hx
    · rw [if_neg (by omega)]; exact h.yes j (by omega)
  · rw [e1, if_neg (by omega), if_neg (by omega)]; exact h.rest j (by omega) hjl
  · have hr : ∀ j, j < i → (RecOk ((s.store (16 + 4 * i) x).store (16 + 4 * i + 1) y) k j ↔ RecOk s k j) := fun j hj => by unfold RecOk; rw [e1, if_neg (by omega), if_neg (by omega)]
    have hri : RecOk ((s.store (16 + 4 * i) x).store (16 + 4 * i + 1) y) k i ↔ ((k.act : Int) ≤ y ∧ y < k.words) := by unfold RecOk; rw [e1, if_pos rfl]
    rcases h.good with ⟨b, hb, he, ho, hn⟩ | ⟨he, ho⟩
    · rw [if_neg (by omega)]
      exact .inl ⟨b, by omega, he, fun j hj => (hr j (by omega)).2 (ho j hj), fun h => hn ((hr b hb).1 h)⟩
    · by_cases hy : (y < k.act ∨ (k.words : Int) ≤ y)
      · rw [if_pos ⟨by omega, hy⟩]
        exact .inl ⟨i, by omega, rfl, fun j hj => (hr j hj).2 (ho j hj), fun h => by have := hri.1 h; omega⟩
      · rw [if_neg (fun h => hy h.2)]
        refine .inr ⟨he, fun j hj => ?_⟩
        rcases Nat.lt_or_ge j i with hji | hji
        · exact (hr j hji).2 (ho j hji)
        · obtain rfl : j = i := by omega
          exact hri.2 (by omega)
end

set_option maxRecDepth 100000 in
set_option maxHeartbeats 2000000 in
theorem UlogGood.core (l r s ep : Int) (v2 v3 : Value) (near : Bool) (ms ps : List Int) (w : World) (l0 : 0 ≤ l) (l1 : l ≤ 65535) (r0 : 0 ≤ r) (r1 : r ≤ 65535) (s0 : 0 ≤ s) (s1 : s ≤ 65535) (ep0 : 0 ≤ ep) (ep1 : ep ≤ 18446744073709551615) (hq : Rd w v2 (ms.map (Value.int .u8))) (hok : ∀ x ∈ ms, 0 ≤ x ∧ x ≤ 255) (hml : ms.length ≤ maxLen) (hp : Rd w v3 (uw ps)) (hpk : ∀ x ∈ ps, 0 ≤ x ∧ x ≤ 18446744073709551615) (hpl : ps.length ≤ maxLen) :
    Calls Try.prog 3 #[.agg #[.int .u16 l, .int .u16 r, .int .u16 s], .int .u64 ep, v2, v3, .bool near] w fun e w' => e = .returned (.bool true) ∧ Keep w.heap.size [] w w' := by
  simp only [maxLen] at hml hpl
  obtain ⟨A1, c1, rfl, hrs⟩ := hq.cells
  obtain ⟨A2, c2, rfl, hps⟩ := hp.cellAt
  have HS := Lib.hid ((Sep.start w []).new 24 #[.int .u16 l, .int .u16 r, .int .u16 s])
  have HQ := Lib.hid hq
  have HP := Lib.hid hp
  have HOK := Lib.hid hok
  have HPK := Lib.hid hpk
  clear hq hrs hok hp hps hpk
  by_cases hb1 : 20 < ms.length
  · have hbI : (20 : Int) < ms.length := by omega
    go_enter Try.func3, Try.ntmps3
    go_wp2_with fail
    generalize w.alloc _ = w2 at *
    refine (awake6_any _).mono ?_
    rintro e w1 ⟨rfl, hk⟩
    replace HS := Lib.hid (HS.out.grow hk)
    clear hk
    go_wp2
    go_ret
    exact ⟨rfl, HS.out.keep⟩
  have hx2 : ((20 : Int) < ms.length) = False := by rw [eq_iff_iff, iff_false]; omega
  have hx3 : (20 < ms.length) = False := by rw [eq_iff_iff, iff_false]; omega
  by_cases hb2 : 20 < ps.length
  · have hbI : (20 : Int) < ps.length := by omega
    go_enter Try.func3, Try.ntmps3
    go_wp2_with fail
    generalize w.alloc _ = w2 at *
    refine (awake6_any _).mono ?_
    rintro e w1 ⟨rfl, hk⟩
    replace HS := Lib.hid (HS.out.grow hk)
    clear hk
    go_wp2
    go_ret
    exact ⟨rfl, HS.out.keep⟩
  have hx4 : ((20 : Int) < ps.length) = False := by rw [eq_iff_iff, iff_false]; omega
  have hx5 : (20 < ps.length) = False := by rw [eq_iff_iff, iff_false]; omega
  go_enter Try.func3, Try.ntmps3
  go_wp2_with fail
  generalize w.alloc _ = w2 at *
  generalize w.heap.size = gx at *
  refine (awake6_any _).mono ?_
  rintro e w1 ⟨rfl, hk⟩
  replace HS := Lib.hid (HS.out.grow hk)
  clear hk
  have c0 := (HS.out.blk 0 rfl).cell 0
  simp at c0
  have c1 := (HS.out.blk 0 rfl).cell 1
  simp at c1
  have c2 := (HS.out.blk 0 rfl).cell 2
  simp at c2
  go_wp2_with fail
  refine (kmake l r s _ l0 l1 r0 r1 s0 s1).mono ?_
  rintro e w3 ⟨k, hk, hL, hR, hS, rfl, hkk⟩
  simp only [Kfg.cells]
  replace HS := Lib.hid ((HS.out.grow hkk).new 30 #[.int .i64 (k.L : Int), .int .i64 (k.R : Int), .int .i64 (k.S : Int)])
  have HK := Lib.hid hk
  clear hkk hk c0 c1 c2
  go_wp2_with fail
  generalize w3.alloc _ = w4 at *
  generalize w3.heap.size = gk at *
  refine (formatted_any k _ [] _ HK.out (rd_nil6 _ 0) (by decide)).mono ?_
  rintro e w5 ⟨d, rfl, hdb, hd, hkk⟩
  obtain ⟨s5, hs5⟩ : ∃ s5, s5 = (St.fresh (-1) 0 (fill [] k.words)).run (fmtOps k) := ⟨_, rfl⟩
  rw [← hs5] at hd
  have hI : s5.Is k.words := by rw [hs5]; exact (fresh_fill [] k).run _
  have hA : AllS s5 k := by rw [hs5]; exact all_of HK.out (fresh_fill [] k)
  have hl5 : s5.l < 0 := by rw [hs5, St.run_l]; show (-1 : Int) < 0; decide
  replace HS := Lib.hid (HS.out.add hkk (r := devR d s5) hd hdb)
  have HI := Lib.hid hI
  have HA := Lib.hid hA
  have HW := Lib.hid hA.whole
  have HL := Lib.hid hl5
  have HE := Lib.hid hs5
  clear hdb hd hkk hs5 hI hA hl5
  obtain ⟨hw1, hw2⟩ := Kfg.words_le HK.out
  have ha1 := k.act_le
  obtain ⟨e, he⟩ : ∃ e, ep % 4294967296 = e := ⟨_, rfl⟩
  have he0 : 0 ≤ e := by omega
  have he1 : e < 4294967296 := by omega
  have hand : bits .and .u64 ep 4294967295 = e := by rw [and_32 _ ep0 ep1]; exact he
  go_wp2_with fail
  refine (store_free d s5 8 ep _ (HS.out.dev 2 rfl) HL.out (by rw [HI.out.now]; omega)).mono ?_
  rintro e w1 ⟨rfl, hd, hk⟩
  replace HS := Lib.hid (HS.out.did (i := 2) rfl hd hk)
  clear hd hk
  have hst : ∀ j, (s5.store 8 ep).nw j = if j = 8 then ep else s5.nw j := St.nw_store HI.out (by omega) ep
  have hE0 : GInv (s5.store 8 ep) k ep e (-1) 0 0 := by
    refine ⟨Nat.le_refl _, by rw [hst, if_pos rfl], fun i hi => by omega, fun hi => by omega, fun i _ hi => ?_, .inr ⟨rfl, fun j hj => by omega⟩⟩
    rw [hst, if_neg (by omega)]
    exact HW.out.recs i hi
  have hI6 := HI.out.store 8 ep
  have hl6 : (s5.store 8 ep).l < 0 := HL.out
  obtain ⟨s6, hs6⟩ : ∃ s6, s5.store 8 ep = s6 := ⟨_, rfl⟩
  rw [hs6] at hE0 hI6 hl6 HS
  have HE0 := Lib.hid hE0
  have HI6 := Lib.hid hI6
  have HL6 := Lib.hid hl6
  have HEE := Lib.hid he
  clear hst hE0 hI6 hl6 hs6 hw1 hw2 ha1 he
  have c0 := (HS.out.blk 1 rfl).cell 0
  simp at c0
  obtain ⟨M, hM⟩ : ∃ M, min ms.length k.L = M := ⟨_, rfl⟩
  have hMl : M ≤ k.L ∧ M ≤ ms.length ∧ (M < k.L → M = ms.length) := by omega
  go_upto_region 12 with fail
  go_cut [47, 48] from 43 to 48 (fun v47 v48 wx => v47 = .int .i64 (M : Nat) ∧ v48 = .int .i64 0 ∧ wx = w1)
  case first =>
    go_wp2
    all_goals go_meet
    all_goals (refine ⟨by congr 1; omega, rfl, rfl⟩)
  case rest =>
    obtain ⟨rfl, rfl, rfl⟩ := hcut
    clear hM c0
    go_wp2_with fail
    go_loopw [14, 15, 16, 48] (fun v0 v1 v2 v' wr => ∃ (j n : Nat) (bad : Int) (s' : St), j ≤ M ∧ v' = .int .i64 (j : Int) ∧ v0 = .int .i64 (n : Int) ∧ v1 = .int .i64 bad ∧ v2 = .bool (decide (n = j)) ∧ (GInv s' k ep e bad j n ∧ s'.Is k.words ∧ s'.l < 0) ∧ Sep w [] [blkR gx 24 #[.int .u16 l, .int .u16 r, .int .u16 s], blkR gk 30 #[.int .i64 (k.L : Int), .int .i64 (k.R : Int), .int .i64 (k.S : Int)], devR d s'] wr) (fun v0 v1 v2 v' _ => M - (intOf v').toNat)
    case atStart => exact ⟨0, 0, -1, s6, by omega, by simp, by simp, by simp, by simp, ⟨HE0.out, HI6.out, HL6.out⟩, HS.out⟩
    case round =>
      clear HS HE HL HI HW HA HE0 HI6 HL6
      obtain ⟨j, n, bad, s', hj, rfl, rfl, rfl, rfl, hf, hs⟩ := hrel
      have HS := Lib.hid hs
      have HF := Lib.hid hf
      clear hs hf
      by_cases hlt : j < M
      · have hjI : (j : Int) < ms.length := by omega
        have hkL := HK.out.l1
        have hjL : j < k.L := by omega
        obtain ⟨x, hx⟩ : ∃ x, ms[j]? = some x := ⟨_, List.getElem?_eq_getElem (by omega)⟩
        obtain ⟨x0, x1⟩ := HOK.out x (List.mem_of_getElem? hx)
        obtain ⟨A', c', hA, hr⟩ := (HQ.out.keep HS.out.keep).cells
        injection hA with e1 e2 e3
        subst e1
        obtain ⟨g, off, rfl, k0⟩ := hr j (by omega)
        have hx' : ms.getD j 0 = x := by simp [List.getD_eq_getElem?_getD, hx]
        rw [hx'] at k0
        clear hx hr e2 e3
        go_upto_if 63 with fail
        go_cut [18, 48] from 48 to 130 (fun v18 v48 wx => (∃ z, v18 = .int .u64 z ∧ 0 ≤ z ∧ z ≤ 18446744073709551615 ∧ (x % 8 = 7 → z ≠ stampOf e j) ∧ (x % 8 ≠ 7 → z = stampOf e j)) ∧ v48 = .int .i64 (j : Int) ∧ wx = wr)
        case first =>
          go_wp2
          all_goals go_meet
          all_goals refine ⟨⟨_, rfl, by omega, by omega, ?_, ?_⟩, rfl, rfl⟩
          all_goals (intro h7; first | (unfold stampOf; omega) | (exfalso; have hbx : (x % 8 == 7) = true := (by assumption); simp at hbx; omega) | (exfalso; have hbx : (x % 8 == 7) = false := (by assumption); simp at hbx; omega))
        case rest =>
          obtain ⟨⟨z, rfl, hz0, hz1, hz2, hz3⟩, rfl, rfl⟩ := hcut
          obtain ⟨hw1, hw2⟩ := Kfg.words_le HK.out
          obtain ⟨nw, hnw⟩ : ∃ nw, k.words = nw := ⟨_, rfl⟩
          have HNW := Lib.hid hnw
          rw [hnw] at hw1 hw2
          have hnw0 : 0 < nw := by omega
          clear hnw hw1
          go_upto_if 76 with fail
          go_cut [19, 48] from 48 to 130 (fun v19 v48 wx => (∃ y, v19 = .int .u64 y ∧ 0 ≤ y ∧ y ≤ 18446744073709551615) ∧ v48 = .int .i64 (j : Int) ∧ wx = wc)
          case first =>
            by_cases hps : j < ps.length
            · have hpsI : (j : Int) < ps.length := by omega
              obtain ⟨y, hy⟩ : ∃ y, ps[j]? = some y := ⟨_, List.getElem?_eq_getElem hps⟩
              obtain ⟨y0, y1⟩ := HPK.out y (List.mem_of_getElem? hy)
              obtain ⟨A', c', hA, hr⟩ := (HP.out.keep HS.out.keep).cellAt
              injection hA with e1 e2 e3
              subst e1
              obtain ⟨g2, off2, rfl, k2⟩ := hr j hps
              rw [show ps.getD j 0 = y by simp [List.getD_eq_getElem?_getD, hy]] at k2
              clear hy hr e2 e3
              obtain ⟨q, hq1, hq2, hq3⟩ := tmod_some y (nw + 10) y0 (by omega)
              rw [show ((nw + 10 : Nat) : Int) = (nw : Int) + 10 by omega] at hq1 hq3
              cases near
              · go_wp2
                go_meet
                exact ⟨⟨_, rfl, y0, y1⟩, rfl, rfl⟩
              · go_wp2_with fail
                refine (len_any d _ _ (HS.out.dev 2 rfl)).mono ?_
                rintro e w' ⟨rfl, rfl⟩
                rw [HF.out.2.1.now, HNW.out]
                go_wp2
                go_meet
                exact ⟨⟨_, rfl, by omega, by omega⟩, rfl, rfl⟩
            · go_wp2
              go_meet
              exact ⟨⟨_, rfl, by omega, by omega⟩, rfl, rfl⟩
          case rest =>
            obtain ⟨⟨y, rfl, hy0, hy1⟩, rfl, rfl⟩ := hcut
            have c0 := (HS.out.blk 1 rfl).cell 0
            simp at c0
            have c1 := (HS.out.blk 1 rfl).cell 1
            simp at c1
            have c2 := (HS.out.blk 1 rfl).cell 2
            simp at c2
            obtain ⟨q, hq⟩ : ∃ q, 16 + 4 * j = q := ⟨_, rfl⟩
            have hq16 : q + 1 < nw := by have := k.act_le; have := Kfg.words_le HK.out; have := HNW.out; omega
            have HQQ := Lib.hid hq
            have hqI : (q : Int) ≤ 1000 := by omega
            clear hq
            go_wp2_with fail
            refine (krecord_eq k _ HK.out j q (by omega) HQQ.out).mono ?_
            rintro e w1 ⟨rfl, hk⟩
            replace HS := Lib.hid (HS.out.grow hk)
            clear hk
            clear c0 c1 c2
            go_wp2_with fail
            refine (store_free d s' q z _ (HS.out.dev 2 rfl) HF.out.2.2 (by rw [HF.out.2.1.now, HNW.out]; omega)).mono ?_
            rintro e w1 ⟨rfl, hd, hk⟩
            replace HS := Lib.hid (HS.out.did (i := 2) rfl hd hk)
            clear hd hk
            have c0 := (HS.out.blk 1 rfl).cell 0
            simp at c0
            have c1 := (HS.out.blk 1 rfl).cell 1
            simp at c1
            have c2 := (HS.out.blk 1 rfl).cell 2
            simp at c2
            go_wp2_with fail
            refine (krecord_eq k _ HK.out j q (by omega) HQQ.out).mono ?_
            rintro e w1 ⟨rfl, hk⟩
            replace HS := Lib.hid (HS.out.grow hk)
            clear hk
            clear c0 c1 c2
            go_wp2_with fail
            refine (store_free d (s'.store q z) (q + 1) y _ (HS.out.dev 2 rfl) HF.out.2.2 (by rw [(HF.out.2.1.store _ _).now, HNW.out]; omega)).mono ?_
            rintro e w1 ⟨rfl, hd, hk⟩
            replace HS := Lib.hid (HS.out.did (i := 2) rfl hd hk)
            clear hd hk
            have hI7 := (HF.out.2.1.store q z).store (q + 1) y
            have hl7 : ((s'.store q z).store (q + 1) y).l < 0 := HF.out.2.2
            obtain ⟨s7, hs7⟩ : ∃ s7, (s'.store q z).store (q + 1) y = s7 := ⟨_, rfl⟩
            rw [hs7] at HS hI7 hl7
            have HI7 := Lib.hid hI7
            have HL7 := Lib.hid hl7
            have HS7 : Hid (((s'.store (16 + 4 * j) z).store (16 + 4 * j + 1) y) = s7) := by rw [HQQ.out]; exact hs7
            clear hI7 hl7 hs7
            have k1 : w1.cell? ⟨g, off + j, none⟩ = some (.int .u8 x) := by
              have hr := (HQ.out.keep HS.out.keep).cellk (by omega : j < ms.length)
              rwa [hx'] at hr
            by_cases hok : n = j ∧ x % 8 ≠ 7
            · obtain ⟨rfl, h7⟩ := hok
              have hb7 : (x % 8 == 7) = false := by rw [beq_eq_false_iff_ne]; exact h7
              have hb8 : (x % 8 != 7) = true := by simp [bne, hb7]
              have hg := HF.out.1.more (x := z) (y := y) HK.out HF.out.2.1 hjL (hz3 h7)
              rw [HS7.out] at hg
              have HGG := Lib.hid hg
              clear hg hz2 hz3
              by_cases hbad : bad < 0
              · have c0 := (HS.out.blk 1 rfl).cell 0
                simp at c0
                have c1 := (HS.out.blk 1 rfl).cell 1
                simp at c1
                have c2 := (HS.out.blk 1 rfl).cell 2
                simp at c2
                go_wp2_with fail
                refine (kactive k _ HK.out).mono ?_
                rintro e w1 ⟨rfl, hk⟩
                replace HS := Lib.hid (HS.out.grow hk)
                clear hk
                clear c0 c1 c2
                have hact : (k.act : Int) ≤ 10000 := by have := Kfg.words_le HK.out; omega
                by_cases hlow : y < (k.act : Int)
                · have hd : decide (y < (k.act : Int)) = true := by simpa using hlow
                  go_wp2
                  exact ⟨⟨n + 1, n + 1, n, s7, by omega, by simp, by simp, rfl, by simp, ⟨by have h := HGG.out; rwa [if_pos ⟨hbad, .inl hlow⟩] at h, HI7.out, HL7.out⟩, HS.out⟩, by simp [intOf]; omega⟩
                · have hd : decide (y < (k.act : Int)) = false := by simpa using hlow
                  go_wp2_with fail
                  refine (len_any d _ _ (HS.out.dev 2 rfl)).mono ?_
                  rintro e w' ⟨rfl, rfl⟩
                  rw [HI7.out.now, HNW.out]
                  by_cases hhi : (nw : Int) ≤ y
                  · have hd2 : decide ((nw : Int) ≤ y) = true := by simpa using hhi
                    go_wp2
                    exact ⟨⟨n + 1, n + 1, n, s7, by omega, by simp, by simp, rfl, by simp, ⟨by have h := HGG.out; rwa [if_pos ⟨hbad, .inr (by rw [HNW.out]; exact hhi)⟩] at h, HI7.out, HL7.out⟩, HS.out⟩, by simp [intOf]; omega⟩
                  · have hd2 : decide ((nw : Int) ≤ y) = false := by simpa using hhi
                    go_wp2
                    exact ⟨⟨n + 1, n + 1, bad, s7, by omega, by simp, by simp, rfl, by simp, ⟨by have h := HGG.out; rwa [if_neg (by rw [HNW.out]; omega)] at h, HI7.out, HL7.out⟩, HS.out⟩, by simp [intOf]; omega⟩
              · have hbd : decide (bad < 0) = false := by simpa using hbad
                go_wp2
                exact ⟨⟨n + 1, n + 1, bad, s7, by omega, by simp, by simp, rfl, by simp, ⟨by have h := HGG.out; rwa [if_neg (by omega)] at h, HI7.out, HL7.out⟩, HS.out⟩, by simp [intOf]; omega⟩
            · have hle := HF.out.1.le
              have hg := HF.out.1.stay (x := z) (y := y) HK.out HF.out.2.1 hjL (fun hn => hz2 (by omega))
              rw [HS7.out] at hg
              have HGG := Lib.hid hg
              clear hg hz2 hz3
              by_cases hnj : n = j
              · subst hnj
                have h7 : x % 8 = 7 := by omega
                have hb7 : (x % 8 == 7) = true := by rw [beq_iff_eq]; exact h7
                have hb8 : (x % 8 != 7) = false := by simp [bne, hb7]
                clear h7
                go_wp2
                exact ⟨⟨n + 1, n, bad, s7, by omega, by simp, by simp, rfl, by simp, ⟨HGG.out, HI7.out, HL7.out⟩, HS.out⟩, by simp [intOf]; omega⟩
              · have hdn : decide (n = j) = false := by simpa using hnj
                go_wp2
                exact ⟨⟨j + 1, n, bad, s7, by omega, by simp, by simp, rfl, by simp; omega, ⟨HGG.out, HI7.out, HL7.out⟩, HS.out⟩, by simp [intOf]; omega⟩
      · obtain rfl : j = M := by omega
        have hlog := HF.out.1.log hMl.1 HEE.out he0
        have h8 := HF.out.1.epo
        have HLOG := Lib.hid hlog
        have H8 := Lib.hid h8
        clear hlog h8
        have c0 := (HS.out.blk 1 rfl).cell 0
        simp at c0
        have c1 := (HS.out.blk 1 rfl).cell 1
        simp at c1
        have c2 := (HS.out.blk 1 rfl).cell 2
        simp at c2
        go_wp2_with fail
        refine (open_any d s' k e n _ (HS.out.dev 2 rfl) HK.out (by rw [H8.out]; omega) (by rw [H8.out]; omega) HLOG.out).mono ?_
        rintro e' w7 ⟨gl, rfl, hgn, hb, hkk⟩
        replace HS := Lib.hid (HS.out.add hkk (r := blkR gl 79 (logC d k e n)) hb (by intro y hy; simp [blkR] at hy; subst hy; exact hgn))
        clear hb hkk hgn c0 c1 c2
        go_wp2_with fail
        refine (log_len d k e n gl _ (HS.out.blk 3 rfl)).mono ?_
        rintro e w' ⟨rfl, rfl⟩
        go_wp2_with fail
        refine (good_any d s' k e bad n gl _ (HS.out.dev 2 rfl) (HS.out.blk 3 rfl) HK.out HF.out.2.1.now HLOG.out.le HF.out.1.good).mono ?_
        rintro e w1 ⟨rfl, hk⟩
        replace HS := Lib.hid (HS.out.grow hk)
        clear hk
        go_wp2_with fail
        refine (log_epoch d k e n gl _ (HS.out.blk 3 rfl)).mono ?_
        rintro e w' ⟨rfl, rfl⟩
        go_wp2
        go_ret
        exact ⟨rfl, HS.out.keep⟩

theorem UlogGood.walk {v2 v3 : Value} {w : World} (l r s : Int) (h : (lowest .u16 ≤ l ∧ l ≤ greatest .u16) ∧ (lowest .u16 ≤ r ∧ r ≤ greatest .u16) ∧ (lowest .u16 ≤ s ∧ s ≤ greatest .u16)) (ep : Int) (ep0 : lowest .u64 ≤ ep) (ep1 : ep ≤ greatest .u64) (ms : List Int) (hq : Rd w v2 (ms.map (Value.int .u8))) (hok : ∀ x ∈ ms, lowest .u8 ≤ x ∧ x ≤ greatest .u8) (hml : ms.length ≤ maxLen) (ps : List Int) (hp : Rd w v3 (uw ps)) (hpk : ∀ x ∈ ps, lowest .u64 ≤ x ∧ x ≤ greatest .u64) (hpl : ps.length ≤ maxLen) (near : Bool) :
    Calls Try.prog 3 #[.agg #[.int .u16 l, .int .u16 r, .int .u16 s], .int .u64 ep, v2, v3, .bool near] w fun e w' => e = .returned (.bool true) ∧ Below w.heap.size w w' := by
  obtain ⟨⟨l0, l1⟩, ⟨r0, r1⟩, s0, s1⟩ := h
  simp [lowest, greatest] at l0 l1 r0 r1 s0 s1 ep0 ep1
  exact (UlogGood.core l r s ep v2 v3 near ms ps w l0 l1 r0 r1 s0 s1 ep0 ep1 hq (fun x hx => by have := hok x hx; simpa [lowest, greatest] using this) hml hp (fun x hx => by have := hpk x hx; simpa [lowest, greatest] using this) hpl).mono fun e w' ⟨he, hk⟩ => ⟨he, hk.below⟩
end Go.Proofs.Ythfelcnhkabdhaa
