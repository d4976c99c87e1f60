/-
  SpaceFills: the walk.
-/
import Derived.Deep.CutRange
import Derived.Test.YtaophnicdbmojaaAwk9
set_option linter.unusedSimpArgs false
set_option linter.unusedVariables false
set_option maxRecDepth 100000
namespace Go.Proofs.Ytaophnicdbmojaa
open Go.RowKit Go.Shelf

/-- A device whose root block says so. -/
structure UseS (t : St) (k : Kfg) (a u : Nat) : Prop where
  is : t.Is k.words
  lim : t.l < 0
  act : t.nw k.act = (a : Int)
  used : t.nw (k.act + 1) = (u : Int)
theorem UseS.alloc {t : St} {k : Kfg} {a u n at_ : Nat} {hv : Int} (h : UseS t k a u) (hk : k.Ok) (ha : a ≤ 1) (hat : k.from_ a + u = at_) (hfit : u + (n + 1) ≤ k.S) : UseS (allocS t k u n at_ hv) k a (u + (n + 1)) := by
  have h1 := Kfg.from_words hk (a := a) (by omega)
  have h2 := Kfg.from_words hk (a := a + 1) (by omega)
  have h3 := k.from_step a
  have h4 := (up8_le k.S).1
  have h5 := k.from_le
  have e := allocS_nw (hv := hv) h.is k u n at_ (by omega) (by omega) (by omega)
  refine ⟨allocS_is h.is _ _ _ _ _, by rw [allocS_lim]; exact h.lim, ?_, by rw [e, if_pos rfl]⟩
  rw [e, if_neg (by omega), if_neg (by omega)]
  exact h.act

set_option maxRecDepth 100000 in
set_option maxHeartbeats 8000000 in
theorem SpaceFills.core (l r s x y : Int) (av : Bool) (w : World) (l0 : 0 ≤ l) (l1 : l ≤ 65535) (r0 : 0 ≤ r) (r1 : r ≤ 65535) (s0 : 0 ≤ s) (s1 : s ≤ 65535) (x0 : 0 ≤ x) (x1 : x ≤ 255) (y0 : 0 ≤ y) (y1 : y ≤ 255) :
    Calls Try.prog 9 #[.agg #[.int .u16 l, .int .u16 r, .int .u16 s], .agg #[.int .u8 x, .int .u8 y], .bool av] w fun e w' => e = .returned (.bool true) ∧ Keep w.heap.size [] w w' := by
  have HS := Lib.hid (((Sep.start w []).new 24 #[.int .u16 l, .int .u16 r, .int .u16 s]).new 65 #[.int .u8 x, .int .u8 y])
  rw [show (w.alloc (.cells #[.int .u16 l, .int .u16 r, .int .u16 s] 24)).heap.size = w.heap.size + 1 by simp] at HS
  go_enter Try.func9, Try.ntmps9
  go_wp2_with fail
  generalize (w.alloc _).alloc _ = w2 at *
  generalize w.heap.size = gx at *
  generalize gx + 1 = gy at *
  refine (awake9_any _).mono ?_
  rintro e w1 ⟨rfl, hk⟩
  replace HS := Lib.hid (HS.out.grow hk)
  clear hk
  have c0 := (HS.out.blk 0 rfl).cell 0
  simp at c0
  have c1 := (HS.out.blk 0 rfl).cell 1
  simp at c1
  have c2 := (HS.out.blk 0 rfl).cell 2
  simp at c2
  go_wp2_with fail
  refine (kmake l r s _ l0 l1 r0 r1 s0 s1).mono ?_
  rintro e w3 ⟨k, hk, hL, hR, hS, rfl, hkk⟩
  simp only [Kfg.cells]
  replace HS := Lib.hid ((HS.out.grow hkk).new 29 #[.int .i64 (k.L : Int), .int .i64 (k.R : Int), .int .i64 (k.S : Int)])
  have HK := Lib.hid hk
  clear hkk hk c0 c1 c2
  go_wp2_with fail
  generalize w3.alloc _ = w4 at *
  generalize w3.heap.size = gk at *
  refine (formatted_any k _ [] _ HK.out (rd_nil6 _ 0) (by decide)).mono ?_
  rintro e w5 ⟨d, rfl, hdb, hd, hkk⟩
  obtain ⟨s5, hs5⟩ : ∃ s5, s5 = (St.fresh (-1) 0 (fill [] k.words)).run (fmtOps k) := ⟨_, rfl⟩
  rw [← hs5] at hd
  have hI : s5.Is k.words := by rw [hs5]; exact (fresh_fill [] k).run _
  have hA : AllS s5 k := by rw [hs5]; exact all_of HK.out (fresh_fill [] k)
  have hl5 : s5.l < 0 := by rw [hs5, St.run_l]; show (-1 : Int) < 0; decide
  replace HS := Lib.hid (HS.out.add hkk (r := devR d s5) hd hdb)
  have hU : UseS s5 k 0 0 := ⟨hI, hl5, (hA.zer 0 (by omega)).1, (hA.zer 1 (by omega)).1⟩
  have HU := Lib.hid hU
  clear hdb hd hkk hs5 hI hA hl5 hU
  have hww := Kfg.words_le HK.out
  have hkS : k.S ≤ 4096 := HK.out.s1
  go_upto_if 28 with fail
  go_cut [29] from 28 to 32 (fun _ wx => ∃ (a : Nat) (t : St), a ≤ 1 ∧ UseS t k a 0 ∧ Sep w [] [blkR gx 24 #[.int .u16 l, .int .u16 r, .int .u16 s], blkR gy 65 #[.int .u8 x, .int .u8 y], blkR gk 29 #[.int .i64 (k.L : Int), .int .i64 (k.R : Int), .int .i64 (k.S : Int)], devR d t] wx)
  case first =>
    cases av
    · go_wp2
      go_meet
      exact ⟨0, s5, by decide, HU.out, HS.out⟩
    · have c0 := (HS.out.blk 2 rfl).cell 0
      simp at c0
      have c1 := (HS.out.blk 2 rfl).cell 1
      simp at c1
      have c2 := (HS.out.blk 2 rfl).cell 2
      simp at c2
      go_wp2_with fail
      refine (kactive k _ HK.out).mono ?_
      rintro e w1 ⟨rfl, hk⟩
      replace HS := Lib.hid (HS.out.grow hk)
      clear hk
      clear c0 c1 c2
      go_wp2_with fail
      refine (store_free d s5 k.act 1 _ (HS.out.dev 3 rfl) HU.out.lim (by rw [HU.out.is.now]; omega)).mono ?_
      rintro e w1 ⟨rfl, hd, hk⟩
      replace HS := Lib.hid (HS.out.did (i := 3) rfl hd hk)
      clear hd hk
      go_wp2
      go_meet
      have e1 := St.nw_store HU.out.is (show k.act < k.words by omega) 1
      exact ⟨1, _, by decide, ⟨HU.out.is.store _ _, HU.out.lim, by rw [e1, if_pos rfl]; rfl, by rw [e1, if_neg (by omega)]; exact HU.out.used⟩, HS.out⟩
  case rest =>
    obtain ⟨a, t, ha1, hu, hs⟩ := hcut
    replace HS := Lib.hid hs
    have HU := Lib.hid hu
    clear hu hs
    have d0 := (HS.out.blk 1 rfl).cell 0
    simp at d0
    have d1 := (HS.out.blk 1 rfl).cell 1
    simp at d1
    go_wp2_with fail
    refine (make_h x y _ x0 x1 y0 y1).mono ?_
    rintro e w6 ⟨rfl, hkk⟩
    obtain ⟨n0, hn0, hn1⟩ : ∃ n0 : Nat, y % 9 = (n0 : Int) ∧ n0 ≤ 8 := ⟨(y % 9).toNat, by omega, by omega⟩
    rw [hn0]
    obtain ⟨b, hb⟩ : ∃ b, x % ((n0 : Int) + 1) = b := ⟨_, rfl⟩
    have hb0 : 0 ≤ b := by rw [← hb]; exact Int.emod_nonneg _ (by omega)
    have hb1 : b ≤ n0 := by have := Int.emod_lt_of_pos x (show 0 < (n0 : Int) + 1 by omega); omega
    rw [hb]
    have hok : headOk (n0 : Int) b := ⟨by omega, by omega, hb0, hb1⟩
    have HOK := Lib.hid hok
    replace HS := Lib.hid ((HS.out.grow hkk).new 60 #[.int .i64 (n0 : Int), .int .i64 b])
    clear hkk hb hn0 hok d0 d1 hb0 hb1
    go_upto_region 11 with fail
    generalize w6.alloc _ = w7 at *
    generalize w6.heap.size = gh at *
    obtain ⟨sz, hsz⟩ : ∃ sz, n0 + 1 = sz := ⟨_, rfl⟩
    go_loopw [11, 12, 13] (fun v' _ _ wr => ∃ (n : Nat) (t : St), n * sz ≤ k.S ∧ v' = .int .i64 (n : Int) ∧ UseS t k a (n * sz) ∧ Sep w [] [blkR gx 24 #[.int .u16 l, .int .u16 r, .int .u16 s], blkR gy 65 #[.int .u8 x, .int .u8 y], blkR gk 29 #[.int .i64 (k.L : Int), .int .i64 (k.R : Int), .int .i64 (k.S : Int)], devR d t, blkR gh 60 #[.int .i64 (n0 : Int), .int .i64 b]] wr) (fun v' _ _ _ => k.S + 1 - (intOf v').toNat)
    case atStart => exact ⟨0, t, by omega, rfl, by rw [Nat.zero_mul]; exact HU.out, HS.out⟩
    case round =>
      clear HS HU
      obtain ⟨n, t, hn, rfl, hu, hs⟩ := hrel
      have HS := Lib.hid hs
      have HU := Lib.hid hu
      clear hs hu
      have hns : n ≤ n * sz := Nat.le_mul_of_pos_right n (by omega)
      obtain ⟨u, hnu⟩ : ∃ u, n * sz = u := ⟨_, rfl⟩
      rw [hnu] at HU hn hns
      have hle : decide ((n : Int) ≤ (k.S : Int)) = true := by simp; omega
      have hle2 : (n ≤ k.S) = True := by simp; omega
      have hle3 : (n : Int) ≤ 4096 := by omega
      have HNU := Lib.hid hnu
      clear hnu
      have hsz2 : u + (n0 + 1) = (n + 1) * sz := by rw [hsz, Nat.add_mul, HNU.out]; omega
      have HSZ := Lib.hid hsz2
      clear hsz2
      have c0 := (HS.out.blk 2 rfl).cell 0
      simp at c0
      have c1 := (HS.out.blk 2 rfl).cell 1
      simp at c1
      have c2 := (HS.out.blk 2 rfl).cell 2
      simp at c2
      have h0 := (HS.out.blk 4 rfl).cell 0
      simp at h0
      have h1 := (HS.out.blk 4 rfl).cell 1
      simp at h1
      obtain ⟨at_, hat⟩ : ∃ at_, k.from_ a + u = at_ := ⟨_, rfl⟩
      by_cases hfit : u + (n0 + 1) ≤ k.S
      · go_wp2_with fail
        refine (alloc_dev d t k n0 a u at_ b _ HK.out HU.out.is HU.out.lim HOK.out HU.out.act HU.out.used ha1 hfit hat (HS.out.dev 3 rfl)).mono ?_
        rintro e w8 ⟨rfl, hS⟩
        replace HS := Lib.hid (HS.out.app hS (i := 3) rfl (fun k h => h) (j := 0) rfl)
        have hU2 := HU.out.alloc (hv := hw (n0 : Int) b) HK.out ha1 hat hfit
        rw [HSZ.out] at hU2
        have hfit2 : (n + 1) * sz ≤ k.S := by rw [← HSZ.out]; exact hfit
        have HU2 := Lib.hid hU2
        have HF2 := Lib.hid hfit2
        clear hS hU2 c0 c1 c2 h0 h1 hat hfit2
        go_wp2
        exact ⟨⟨n + 1, _, HF2.out, by first | rfl | go_num | simp, HU2.out, HS.out⟩, by simp [intOf]; omega⟩
      · go_wp2_with fail
        refine (alloc_space d t k n0 a u b _ _ (HS.out.dev 3 rfl) HK.out HU.out.is.now HOK.out HU.out.act HU.out.used ha1 hn (by omega)).mono ?_
        rintro e w8 ⟨rfl, hkk⟩
        replace HS := Lib.hid (HS.out.grow hkk)
        clear hkk c0 c1 c2 h0 h1
        have c0 := (HS.out.blk 2 rfl).cell 0
        simp at c0
        have c1 := (HS.out.blk 2 rfl).cell 1
        simp at c1
        have c2 := (HS.out.blk 2 rfl).cell 2
        simp at c2
        go_wp2_with fail
        refine (rread_any d t k a u _ (HS.out.dev 3 rfl) HK.out HU.out.is.now HU.out.act HU.out.used ha1 hn).mono ?_
        rintro e w9 ⟨v, rfl, hkk, hrow, hnew⟩
        obtain ⟨RA, RC, hv⟩ := rowR_val hrow
        subst hv
        simp only [rbC]
        obtain ⟨RL, hRL⟩ : ∃ RL, (uw (rootsOf t k k.R)).length = RL := ⟨_, rfl⟩
        rw [hRL]
        replace HS := Lib.hid (HS.out.grow hkk)
        clear hkk hrow hnew c0 c1 c2 hRL
        go_upto_region 18 with fail
        replace HS := Lib.hid (HS.out.new 39 #[.int .i64 (a : Int), .int .i64 (u : Int), .slice RA RL RC])
        generalize w9.alloc _ = wa at *
        generalize w9.heap.size = gb at *
        have c0 := (HS.out.blk 2 rfl).cell 0
        simp at c0
        have c1 := (HS.out.blk 2 rfl).cell 1
        simp at c1
        have c2 := (HS.out.blk 2 rfl).cell 2
        simp at c2
        have b0 := (HS.out.blk 5 rfl).cell 0
        simp at b0
        have b1 := (HS.out.blk 5 rfl).cell 1
        simp at b1
        have b2 := (HS.out.blk 5 rfl).cell 2
        simp at b2
        obtain ⟨f, hf⟩ : ∃ f, k.from_ a + u = f := ⟨_, rfl⟩
        obtain ⟨tt, ht⟩ : ∃ tt, k.from_ a + k.S = tt := ⟨_, rfl⟩
        have hfw := Kfg.from_words HK.out (a := a) (by omega)
        have hfr := fun w => sfresh_is k a u f tt (.slice RA RL RC) w HK.out (by omega) (by omega) hf ht
        have HFR := Lib.hid hfr
        clear hfr
        go_wp2_with fail
        refine (HFR.out _).mono ?_
        rintro e wb ⟨rfl, hkk⟩
        replace HS := Lib.hid (HS.out.grow hkk)
        clear hkk c0 c1 c2 b0 b1 b2
        go_upto_region 19 with fail
        replace HS := Lib.hid (HS.out.new 68 #[.int .i64 (f : Int), .int .i64 (tt : Int)])
        generalize wb.alloc _ = wc2 at *
        generalize wb.heap.size = gs at *
        obtain ⟨p, hp⟩ : ∃ p, k.S - u = p := ⟨_, rfl⟩
        have hpz : p < sz := by omega
        have hmul : IntKind.i64.wrap ((n : Int) * (sz : Int)) = (u : Int) := by
          have := HNU.out
          rw [← Int.natCast_mul, this]
          exact IntWalk.i64_in _ (by omega)
        have hdiv : k.S / sz = n := by
          have h1 := HNU.out
          have h2 := HSZ.out
          refine Nat.div_eq_of_lt_le ?_ ?_
          · rw [h1]; exact hn
          · show k.S < (n + 1) * sz
            omega
        have hquo : (k.S : Int).tdiv (sz : Int) = (n : Int) := by
          rw [Int.tdiv_eq_ediv_of_nonneg (by omega)]
          exact_mod_cast hdiv
        have hwn : IntKind.i64.wrap (n : Int) = (n : Int) := IntWalk.i64_in _ (by omega)
        have hzz : ((sz : Int) = 0) = False := by simp; omega
        have hsub1 : IntKind.i64.wrap ((tt : Int) - (f : Int)) = (p : Int) := by rw [IntWalk.i64_in _ (by omega)]; omega
        have hsub2 : IntKind.i64.wrap ((k.S : Int) - (u : Int)) = (p : Int) := by rw [IntWalk.i64_in _ (by omega)]; omega
        have hlt1 : decide ((p : Int) < (sz : Int)) = true := by simp; omega
        have hsize := fun w => hsize_eq (n0 : Int) b (sz : Int) w (by omega) (by omega) (by omega)
        have HSIZE := Lib.hid hsize
        have HPZ := Lib.hid hpz
        clear hsize hf ht hp hpz hdiv
        have c2 : ∀ x : Ext wc2, x.now.cell? ⟨gk, 2, none⟩ = some (.int .i64 (k.S : Int)) := fun x => x.cell (by simpa using (HS.out.blk 2 rfl).cell 2)
        have h0 : ∀ x : Ext wc2, x.now.cell? ⟨gh, 0, none⟩ = some (.int .i64 (n0 : Int)) := fun x => x.cell (by simpa using (HS.out.blk 4 rfl).cell 0)
        have h1 : ∀ x : Ext wc2, x.now.cell? ⟨gh, 1, none⟩ = some (.int .i64 b) := fun x => x.cell (by simpa using (HS.out.blk 4 rfl).cell 1)
        have b1 : ∀ x : Ext wc2, x.now.cell? ⟨gb, 1, none⟩ = some (.int .i64 (u : Int)) := fun x => x.cell (by simpa using (HS.out.blk 5 rfl).cell 1)
        have z0 : ∀ x : Ext wc2, x.now.cell? ⟨gs, 0, none⟩ = some (.int .i64 (f : Int)) := fun x => x.cell (by simpa using (HS.out.blk 6 rfl).cell 0)
        have z1 : ∀ x : Ext wc2, x.now.cell? ⟨gs, 1, none⟩ = some (.int .i64 (tt : Int)) := fun x => x.cell (by simpa using (HS.out.blk 6 rfl).cell 1)
        refine wp_region_ext (by kernel_rfl) (by kernel_rfl) ?_
        repeat (go_big_quiet_step ((first | (go_at_call 39; with_reducible exact Calls.ext (HSIZE.out _)))))
        refine wpQuiet_nil ?_
        rintro _ ⟨x, rfl⟩
        replace HS := Lib.hid (HS.out.grow x.keep)
        go_wp2
        go_ret
        exact ⟨by simp; exact HPZ.out, HS.out.keep⟩

theorem SpaceFills.walk {w : World} (l r s : Int) (h : (lowest .u16 ≤ l ∧ l ≤ greatest .u16) ∧ (lowest .u16 ≤ r ∧ r ≤ greatest .u16) ∧ (lowest .u16 ≤ s ∧ s ≤ greatest .u16)) (x y : Int) (hq : (lowest .u8 ≤ x ∧ x ≤ greatest .u8) ∧ (lowest .u8 ≤ y ∧ y ≤ greatest .u8)) (av : Bool) :
    Calls Try.prog 9 #[.agg #[.int .u16 l, .int .u16 r, .int .u16 s], .agg #[.int .u8 x, .int .u8 y], .bool av] w fun e w' => e = .returned (.bool true) ∧ Below w.heap.size w w' := by
  obtain ⟨⟨l0, l1⟩, ⟨r0, r1⟩, s0, s1⟩ := h
  obtain ⟨⟨x0, x1⟩, y0, y1⟩ := hq
  simp [lowest, greatest] at l0 l1 r0 r1 s0 s1 x0 x1 y0 y1
  exact (SpaceFills.core l r s x y av w l0 l1 r0 r1 s0 s1 x0 x1 y0 y1).mono fun e w' ⟨he, hk⟩ => ⟨he, hk.below⟩
end Go.Proofs.Ytaophnicdbmojaa
