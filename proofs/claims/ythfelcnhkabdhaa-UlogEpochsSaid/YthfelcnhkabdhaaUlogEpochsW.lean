/-
  UlogEpochs: the walk.
-/
import Derived.Test.YthfelcnhkabdhaaUndo
import Derived.Test.YthfelcnhkabdhaaPlace
set_option linter.unusedSimpArgs false
set_option linter.unusedVariables false
namespace Go.Proofs.Ythfelcnhkabdhaa
open Go.RowKit Go.Shelf

/-- The log behind c rows of records, each truncated; j records of the next row. -/
structure EpInv (s : St) (k : Kfg) (e0 : Int) (c j : Nat) : Prop where
  epo : s.nw 8 = (e0 + c) % 4294967296
  yes : ∀ i, i < j → s.nw (16 + 4 * i) = stampOf ((e0 + c) % 4294967296) i
  old : ∀ i, j ≤ i → i < k.L → s.nw (16 + 4 * i) = 0 ∨ ∃ c', c' < c ∧ s.nw (16 + 4 * i) = stampOf ((e0 + (c' : Nat)) % 4294967296) i
section
variable {s : St} {k : Kfg} {e0 : Int} {c j : Nat}
theorem EpInv.fresh (h : EpInv s k e0 c j) (hk : k.Ok) (hc : c ≤ 12) (hj : j < k.L) : s.nw (16 + 4 * j) ≠ stampOf ((e0 + c) % 4294967296) j := by
  have := hk.l1
  rcases h.old j (Nat.le_refl _) hj with e | ⟨c', hc', e⟩
  · rw [e]; unfold stampOf; omega
  · rw [e]
    intro he
    have := (stamp_inj (by omega) (by omega) he).1
    omega
theorem EpInv.log (h : EpInv s k e0 c j) (hk : k.Ok) (hc : c ≤ 12) (hj : j ≤ k.L) : LogIs s k ((e0 + c) % 4294967296) j :=
  ⟨hj, by rw [h.epo]; omega, h.yes, fun hlt => h.fresh hk hc hlt⟩
theorem EpInv.app (h : EpInv s k e0 c j) (hk : k.Ok) (hI : s.Is k.words) (hj : j < k.L) (i : Nat) (v : Int) : EpInv (s.run (appOps ((e0 + c) % 4294967296) j i v)) k e0 c (j + 1) := by
  have e := fun q => app_nw (ep := (e0 + c) % 4294967296) (i := i) (v := v) hk hI hj q
  refine ⟨?_, fun q hq => ?_, fun q hq hql => ?_⟩
  · rw [e, if_neg (by omega), if_neg (by omega), if_neg (by omega)]; exact h.epo
  · rw [e]
    by_cases hqj : q = j
    · subst hqj; rw [if_pos rfl]
    · rw [if_neg (by omega), if_neg (by omega), if_neg (by omega)]; exact h.yes q (by omega)
  · rw [e, if_neg (by omega), if_neg (by omega), if_neg (by omega)]; exact h.old q (by omega) hql
theorem EpInv.trunc (h : EpInv s k e0 c j) (hk : k.Ok) (hI : s.Is k.words) (hj : j ≤ k.L) : EpInv (s.run (truncOps ((e0 + c) % 4294967296))) k e0 (c + 1) 0 := by
  have hw := Kfg.words_le hk
  have ha := k.act_le
  have e : ∀ q, (s.run (truncOps ((e0 + c) % 4294967296))).nw q = if q = 8 then ((e0 + c) % 4294967296 + 1) % 4294967296 else s.nw q := fun q => by
    show (((s.store 8 (((e0 + c) % 4294967296 + 1) % 4294967296)).flush 8).fence).nw q = _
    rw [St.nw_fence, St.nw_flush, St.nw_store hI (by omega)]
  refine ⟨?_, fun q hq => by omega, fun q hq hql => ?_⟩
  · rw [e, if_pos rfl]; omega
  · rw [e, if_neg (by omega)]
    by_cases hqj : q < j
    · exact .inr ⟨c, by omega, h.yes q hqj⟩
    · rcases h.old q (by omega) hql with h | ⟨c', hc', h⟩
      · exact .inl h
      · exact .inr ⟨c', by omega, h⟩
end

set_option maxRecDepth 100000 in
set_option maxHeartbeats 2000000 in
theorem UlogEpochs.core (l r s : Int) (v1 : Value) (ms : List Int) (ep : Int) (w : World) (l0 : 0 ≤ l) (l1 : l ≤ 65535) (r0 : 0 ≤ r) (r1 : r ≤ 65535) (s0 : 0 ≤ s) (s1 : s ≤ 65535) (hq : Rd w v1 (ms.map (Value.int .u8))) (hok : ∀ x ∈ ms, 0 ≤ x ∧ x ≤ 255) (hml : ms.length ≤ maxLen) (ep0 : 0 ≤ ep) (ep1 : ep ≤ 4294967295) :
    Calls Try.prog 4 #[.agg #[.int .u16 l, .int .u16 r, .int .u16 s], v1, .int .u32 ep] w fun e w' => e = .returned (.bool true) ∧ Keep w.heap.size [] w w' := by
  simp only [maxLen] at hml
  obtain ⟨A1, c1, rfl, hrs⟩ := hq.cells
  have HS := Lib.hid ((Sep.start w []).new 24 #[.int .u16 l, .int .u16 r, .int .u16 s])
  have HQ := Lib.hid hq
  have HOK := Lib.hid hok
  clear hq hrs hok
  by_cases hb1 : 12 < ms.length
  · have hbI : (12 : Int) < ms.length := by omega
    go_enter Try.func4, Try.ntmps4
    go_wp2_with fail
    generalize w.alloc _ = w2 at *
    refine (awake6_any _).mono ?_
    rintro e w1 ⟨rfl, hk⟩
    replace HS := Lib.hid (HS.out.grow hk)
    clear hk
    go_wp2
    go_ret
    exact ⟨rfl, HS.out.keep⟩
  have hx2 : ((12 : Int) < ms.length) = False := by rw [eq_iff_iff, iff_false]; omega
  have hx3 : (12 < ms.length) = False := by rw [eq_iff_iff, iff_false]; omega
  go_enter Try.func4, Try.ntmps4
  go_wp2_with fail
  generalize w.alloc _ = w2 at *
  generalize w.heap.size = gx at *
  refine (awake6_any _).mono ?_
  rintro e w1 ⟨rfl, hk⟩
  replace HS := Lib.hid (HS.out.grow hk)
  clear hk
  have c0 := (HS.out.blk 0 rfl).cell 0
  simp at c0
  have c1 := (HS.out.blk 0 rfl).cell 1
  simp at c1
  have c2 := (HS.out.blk 0 rfl).cell 2
  simp at c2
  go_wp2_with fail
  refine (kmake l r s _ l0 l1 r0 r1 s0 s1).mono ?_
  rintro e w3 ⟨k, hk, hL, hR, hS, rfl, hkk⟩
  simp only [Kfg.cells]
  replace HS := Lib.hid ((HS.out.grow hkk).new 30 #[.int .i64 (k.L : Int), .int .i64 (k.R : Int), .int .i64 (k.S : Int)])
  have HK := Lib.hid hk
  clear hkk hk c0 c1 c2
  go_wp2_with fail
  generalize w3.alloc _ = w4 at *
  generalize w3.heap.size = gk at *
  refine (formatted_any k _ [] _ HK.out (rd_nil6 _ 0) (by decide)).mono ?_
  rintro e w5 ⟨d, rfl, hdb, hd, hkk⟩
  obtain ⟨s5, hs5⟩ : ∃ s5, s5 = (St.fresh (-1) 0 (fill [] k.words)).run (fmtOps k) := ⟨_, rfl⟩
  rw [← hs5] at hd
  have hI : s5.Is k.words := by rw [hs5]; exact (fresh_fill [] k).run _
  have hA : AllS s5 k := by rw [hs5]; exact all_of HK.out (fresh_fill [] k)
  have hl5 : s5.l < 0 := by rw [hs5, St.run_l]; show (-1 : Int) < 0; decide
  replace HS := Lib.hid (HS.out.add hkk (r := devR d s5) hd hdb)
  have HI := Lib.hid hI
  have HA := Lib.hid hA
  have HW := Lib.hid hA.whole
  have HL := Lib.hid hl5
  have HE := Lib.hid hs5
  clear hdb hd hkk hs5 hI hA hl5
  obtain ⟨hw1, hw2⟩ := Kfg.words_le HK.out
  have ha1 := k.act_le
  go_wp2_with fail
  refine (store_free d s5 8 ep _ (HS.out.dev 2 rfl) HL.out (by rw [HI.out.now]; omega)).mono ?_
  rintro e w1 ⟨rfl, hd, hk⟩
  replace HS := Lib.hid (HS.out.did (i := 2) rfl hd hk)
  clear hd hk
  have hst : ∀ j, (s5.store 8 ep).nw j = if j = 8 then ep else s5.nw j := St.nw_store HI.out (by omega) ep
  have hE0 : EpInv (s5.store 8 ep) k ep 0 0 := by
    refine ⟨by rw [hst, if_pos rfl]; omega, fun i hi => by omega, fun i _ hi => .inl ?_⟩
    rw [hst, if_neg (by omega)]
    exact HW.out.recs i hi
  have hI6 := HI.out.store 8 ep
  have hl6 : (s5.store 8 ep).l < 0 := HL.out
  obtain ⟨s6, hs6⟩ : ∃ s6, s5.store 8 ep = s6 := ⟨_, rfl⟩
  rw [hs6] at hE0 hI6 hl6 HS
  have HE0 := Lib.hid hE0
  have HI6 := Lib.hid hI6
  have HL6 := Lib.hid hl6
  clear hst hE0 hI6 hl6 hs6 hw1 hw2 ha1
  go_wp2_with fail
  go_loopw [10, 38] (fun v0' v' wr => ∃ (j c : Nat) (s' : St), j ≤ ms.length ∧ c ≤ j ∧ v' = .int .i64 (j : Int) ∧ v0' = .int .u32 ((ep + c) % 4294967296) ∧ (EpInv s' k ep c 0 ∧ s'.Is k.words ∧ s'.l < 0) ∧ Sep w [] [blkR gx 24 #[.int .u16 l, .int .u16 r, .int .u16 s], blkR gk 30 #[.int .i64 (k.L : Int), .int .i64 (k.R : Int), .int .i64 (k.S : Int)], devR d s'] wr) (fun v0' v' _ => ms.length - (intOf v').toNat)
  case atStart => exact ⟨0, 0, s6, by omega, by omega, by simp, by simp; omega, ⟨HE0.out, HI6.out, HL6.out⟩, HS.out⟩
  case round =>
    clear HS HE HL HI HW HA HE0 HI6 HL6
    obtain ⟨j, c, s', hj, hc, rfl, rfl, hf, hs⟩ := hrel
    have HS := Lib.hid hs
    have HF := Lib.hid hf
    clear hs hf
    by_cases hlt : j < ms.length
    · have hjI : (j : Int) < ms.length := by omega
      obtain ⟨x, hx⟩ : ∃ x, ms[j]? = some x := ⟨_, List.getElem?_eq_getElem hlt⟩
      obtain ⟨x0, x1⟩ := HOK.out x (List.mem_of_getElem? hx)
      obtain ⟨A', c', hA, hr⟩ := (HQ.out.keep HS.out.keep).cells
      injection hA with e1 e2 e3
      subst e1
      obtain ⟨g, off, rfl, k0⟩ := hr j hlt
      rw [show ms.getD j 0 = x by simp [List.getD_eq_getElem?_getD, hx]] at k0
      clear hx hr e2 e3
      obtain ⟨q, hq1, hq2, hq3⟩ := tmod_some x (k.L + 1) x0 (by omega)
      rw [show ((k.L + 1 : Nat) : Int) = (k.L : Int) + 1 by omega] at hq1 hq3
      have hqL : q ≤ k.L := by omega
      obtain ⟨e, he⟩ : ∃ e, (ep + (c : Int)) % 4294967296 = e := ⟨_, rfl⟩
      have he0 : 0 ≤ e := by omega
      have he1 : e < 4294967296 := by omega
      have hlog := HF.out.1.log HK.out (by omega) (by omega)
      have h8 := HF.out.1.epo
      rw [he] at hlog h8 ⊢
      have HEE := Lib.hid he
      have HLOG := Lib.hid hlog
      have H8 := Lib.hid h8
      clear he hlog h8
      have c0 := (HS.out.blk 1 rfl).cell 0
      simp at c0
      have c1 := (HS.out.blk 1 rfl).cell 1
      simp at c1
      have c2 := (HS.out.blk 1 rfl).cell 2
      simp at c2
      go_wp2_with fail
      refine (open_any d s' k e 0 _ (HS.out.dev 2 rfl) HK.out (by rw [H8.out]; omega) (by rw [H8.out]; omega) HLOG.out).mono ?_
      rintro e' w7 ⟨gl, rfl, hgn, hb, hkk⟩
      replace HS := Lib.hid (HS.out.add hkk (r := blkR gl 79 (logC d k e 0)) hb (by intro y hy; simp [blkR] at hy; subst hy; exact hgn))
      clear hb hkk hgn c0 c1 c2 k0
      have hgd : gl ∉ d.blocks := HS.out.apart 3 2 _ _ (by decide) rfl rfl gl (by simp [blkR])
      have HGD := Lib.hid hgd
      clear hgd
      go_wp2_with fail
      refine (log_len d k e 0 gl _ (HS.out.blk 3 rfl)).mono ?_
      rintro e w' ⟨rfl, rfl⟩
      go_wp2_with fail
      refine (log_epoch d k e 0 gl _ (HS.out.blk 3 rfl)).mono ?_
      rintro e w' ⟨rfl, rfl⟩
      have c0 := (HS.out.blk 1 rfl).cell 0
      simp at c0
      go_wp2_with fail
      clear c0 hq1 hq3
      go_loopw [66] (fun v' wr => ∃ (i : Nat) (s' : St), i ≤ q ∧ v' = .int .i64 (i : Int) ∧ (EpInv s' k ep c i ∧ s'.Is k.words ∧ s'.l < 0) ∧ Sep w [] [blkR gx 24 #[.int .u16 l, .int .u16 r, .int .u16 s], blkR gk 30 #[.int .i64 (k.L : Int), .int .i64 (k.R : Int), .int .i64 (k.S : Int)], devR d s', blkR gl 79 (logC d k e i)] wr) (fun v' _ => q - (intOf v').toNat)
      case atStart => exact ⟨0, s', by omega, by simp, HF.out, HS.out⟩
      case round =>
        clear HS HF HLOG H8
        obtain ⟨i, s', hi, rfl, hf, hs⟩ := hrel
        have HS := Lib.hid hs
        have HF := Lib.hid hf
        clear hs hf
        by_cases hlt2 : i < q
        · obtain ⟨hw1, hw2⟩ := Kfg.words_le HK.out
          have ha1 := k.act_le
          have hiL : i < k.L := by omega
          have hl1 := HK.out.l1
          obtain ⟨pl, hpl⟩ : ∃ pl : Nat, k.act + i % 4 = pl := ⟨_, rfl⟩
          have hplw : pl < k.words := by have := k.words_is; have := k.from_le; have := up8_le k.S; have := HK.out.s0; omega
          have hplI : (k.act : Int) + (i : Int) % 4 = pl := by omega
          have htm : (i : Int).tmod 4 = (i : Int) % 4 := Int.tmod_eq_emod_of_nonneg (by omega)
          have hact : (k.act : Int) ≤ 10000 := by omega
          clear hpl hw1 hw2 ha1
          have c0 := (HS.out.blk 1 rfl).cell 0
          simp at c0
          have c1 := (HS.out.blk 1 rfl).cell 1
          simp at c1
          have c2 := (HS.out.blk 1 rfl).cell 2
          simp at c2
          go_wp2_with fail
          refine (kactive k _ HK.out).mono ?_
          rintro e w1 ⟨rfl, hk⟩
          replace HS := Lib.hid (HS.out.grow hk)
          clear hk
          clear c0 c1 c2
          go_wp2_with fail
          refine (append_any d s' k e _ i pl gl _ (HS.out.dev 2 rfl) (HS.out.blk 3 rfl) HGD.out HK.out HF.out.2.1.now he0 he1 hiL hplw rfl).mono ?_
          rintro e' w7 hp
          obtain ⟨rfl, hd, hb, hkp⟩ := hp.free HF.out.2.2
          obtain ⟨y, hy⟩ : ∃ y, (s'.store (16 + 4 * i + 1) (pl : Int)).nw pl = y := ⟨_, rfl⟩
          rw [hy] at hd
          have hf7 : EpInv (s'.run (appOps e i pl y)) k ep c (i + 1) ∧ (s'.run (appOps e i pl y)).Is k.words ∧ (s'.run (appOps e i pl y)).l < 0 := by
            refine ⟨?_, HF.out.2.1.run _, by rw [St.run_l]; exact HF.out.2.2⟩
            have := HF.out.1.app HK.out HF.out.2.1 hiL pl y
            rwa [HEE.out] at this
          replace HS := Lib.hid (HS.out.step2 (i := 2) (j := 3) (by decide) rfl rfl hkp (r' := devR d (s'.run (appOps e i pl y))) (q' := blkR gl 79 (logC d k e (i + 1))) hd hb (fun _ h => h) (fun _ h => h))
          clear hp hd hb hkp hy hplI htm
          have HF7 := Lib.hid hf7
          clear hf7
          go_wp2
          exact ⟨⟨i + 1, _, by omega, by simp, HF7.out, HS.out⟩, by simp [intOf]; omega⟩
        · obtain rfl : i = q := by omega
          have hlog := HF.out.1.log HK.out (by omega) hqL
          have h8 := HF.out.1.epo
          rw [HEE.out] at hlog h8
          have HLOG := Lib.hid hlog
          have H8 := Lib.hid h8
          clear hlog h8
          have c0 := (HS.out.blk 1 rfl).cell 0
          simp at c0
          have c1 := (HS.out.blk 1 rfl).cell 1
          simp at c1
          have c2 := (HS.out.blk 1 rfl).cell 2
          simp at c2
          go_wp2_with fail
          refine (open_any d s' k e i _ (HS.out.dev 2 rfl) HK.out (by rw [H8.out]; omega) (by rw [H8.out]; omega) HLOG.out).mono ?_
          rintro e' w7 ⟨gm, rfl, hgn, hb, hkk⟩
          replace HS := Lib.hid (HS.out.add hkk (r := blkR gm 79 (logC d k e i)) hb (by intro y hy; simp [blkR] at hy; subst hy; exact hgn))
          clear hb hkk hgn c0 c1 c2
          go_wp2_with fail
          refine (log_len d k e i gm _ (HS.out.blk 4 rfl)).mono ?_
          rintro e w' ⟨rfl, rfl⟩
          by_cases hi0 : i = 0
          · subst hi0
            go_wp2_with fail
            refine (truncate_none d k e gl _ (HS.out.blk 3 rfl)).mono ?_
            rintro e w' ⟨rfl, rfl⟩
            go_wp2
            exact ⟨⟨j + 1, c, s', by omega, by omega, by simp, by simp [HEE.out], HF.out, HS.out.take 3⟩, by simp [intOf]; omega⟩
          · have hi1 : decide (0 < (i : Int)) = true := by simp; omega
            have hw8 : 8 < s'.now.length := by rw [HF.out.2.1.now]; have := Kfg.words_le HK.out; have := k.act_le; omega
            go_wp2_with fail
            refine (truncate_any d s' k e i gl _ (HS.out.dev 2 rfl) (HS.out.blk 3 rfl) HGD.out hw8 he0 he1 (by omega)).mono ?_
            rintro e' w8 hp
            obtain ⟨rfl, hd, hb, hkp⟩ := hp.free HF.out.2.2
            have hf7 : EpInv (s'.run (truncOps e)) k ep (c + 1) 0 ∧ (s'.run (truncOps e)).Is k.words ∧ (s'.run (truncOps e)).l < 0 := by
              refine ⟨?_, HF.out.2.1.run _, by rw [St.run_l]; exact HF.out.2.2⟩
              have := HF.out.1.trunc HK.out HF.out.2.1 hqL
              rwa [HEE.out] at this
            replace HS := Lib.hid (HS.out.step2 (i := 2) (j := 3) (by decide) rfl rfl hkp (r' := devR d (s'.run (truncOps e))) (q' := blkR gl 79 (logC d k ((e + 1) % 4294967296) 0)) hd hb (fun _ h => h) (fun _ h => h))
            clear hp hd hb hkp
            have HF7 := Lib.hid hf7
            clear hf7
            go_wp2
            exact ⟨⟨j + 1, c + 1, _, by omega, by omega, by simp, by have := HEE.out; simp; omega, HF7.out, HS.out.take 3⟩, by simp [intOf]; omega⟩
    · go_wp2
      go_ret
      exact ⟨rfl, HS.out.keep⟩

theorem UlogEpochs.walk {v1 : Value} {w : World} (l r s : Int) (h : (lowest .u16 ≤ l ∧ l ≤ greatest .u16) ∧ (lowest .u16 ≤ r ∧ r ≤ greatest .u16) ∧ (lowest .u16 ≤ s ∧ s ≤ greatest .u16)) (ms : List Int) (hq : Rd w v1 (ms.map (Value.int .u8))) (hok : ∀ x ∈ ms, lowest .u8 ≤ x ∧ x ≤ greatest .u8) (hml : ms.length ≤ maxLen) (ep : Int) (ep0 : lowest .u32 ≤ ep) (ep1 : ep ≤ greatest .u32) :
    Calls Try.prog 4 #[.agg #[.int .u16 l, .int .u16 r, .int .u16 s], v1, .int .u32 ep] w fun e w' => e = .returned (.bool true) ∧ Below w.heap.size w w' := by
  obtain ⟨⟨l0, l1⟩, ⟨r0, r1⟩, s0, s1⟩ := h
  simp [lowest, greatest] at l0 l1 r0 r1 s0 s1 ep0 ep1
  exact (UlogEpochs.core l r s v1 ms ep w l0 l1 r0 r1 s0 s1 hq (fun x hx => by have := hok x hx; simpa [lowest, greatest] using this) hml ep0 ep1).mono fun e w' ⟨he, hk⟩ => ⟨he, hk.below⟩
end Go.Proofs.Ythfelcnhkabdhaa
