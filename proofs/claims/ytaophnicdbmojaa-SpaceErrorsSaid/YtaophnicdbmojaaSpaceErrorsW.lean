/-
  SpaceErrors: the walk.
-/
import Derived.Deep.CutRange
import Derived.Test.YtaophnicdbmojaaAwk9
import Derived.Test.YtaophnicdbmojaaMerge
set_option linter.unusedSimpArgs false
set_option linter.unusedVariables false
set_option maxRecDepth 100000
namespace Go.Proofs.Ytaophnicdbmojaa
open Go.RowKit Go.Shelf

set_option maxHeartbeats 2000000 in
theorem err_one (gn gf gz : Nat) (n m sp x y z f er f2 : Int) (w : World) (hn : Blk w gn 3 #[.int .i64 n]) (hf : Blk w gf 3 #[.int .i64 f]) (hz : Blk w gz 5 #[.int .u8 z]) (hsp : z.tmod 8 = sp) (hsp0 : 0 ≤ sp) (hsp8 : sp < 8) (hn0 : 0 ≤ n) (hnn : n ≤ 100000) (hm : n + 1 = m) (e1 : gn ≠ gf) (e2 : gn ≠ gz) (e3 : gf ≠ gz) (her : (if n = sp then 3 else 0) = er) (hf2 : (if n = 0 then x else f) = f2) :
    Calls Try.prog 36 #[.int .i64 x, .int .u64 y, .pointer (some ⟨gn, 0, none⟩), .pointer (some ⟨gf, 0, none⟩), .pointer (some ⟨gz, 0, none⟩)] w fun e w' =>
      e = .returned (.int .i64 er) ∧ Blk w' gn 3 #[.int .i64 m] ∧ Blk w' gf 3 #[.int .i64 f2] ∧ Blk w' gz 5 #[.int .u8 z] ∧ Keep w.heap.size [gn, gf] w w' := by
  have c0 := hn.cell 0
  have z0 := hn.frozen 0
  simp at c0
  have hn1 := hn.set_ 0 (.int .i64 m)
  have hf1 := hf.far (p := ⟨gn, 0, none⟩) (Ne.symm e1) (.int .i64 m)
  have hz1 := hz.far (p := ⟨gn, 0, none⟩) (Ne.symm e2) (.int .i64 m)
  have k1 : Keep w.heap.size [gn, gf] w (w.setCell ⟨gn, 0, none⟩ (.int .i64 m)) := (Keep.refl _ _ _).setCell (by simp) _
  have hadd : IntKind.i64.wrap (n + 1) = m := by rw [IntWalk.i64_in _ (by omega)]; omega
  have hadd2 : IntKind.i64.wrap (1 + sp) = 1 + sp := by rw [IntWalk.i64_in _ (by omega)]
  have hspw : IntKind.i64.wrap sp = sp := by rw [IntWalk.i64_in _ (by omega)]
  have H1 := Lib.hid hn1
  have H2 := Lib.hid hf1
  have H3 := Lib.hid hz1
  have K1 := Lib.hid k1
  have HM := Lib.hid hm
  have H0 := Lib.hid hn0
  have HER := Lib.hid her
  have HF2 := Lib.hid hf2
  clear hn hf hz hn1 hf1 hz1 k1 hm hn0 her hf2
  go_enter Try.func36, Try.ntmps36
  go_upto_region 2 with fail
  clear c0 z0 hadd
  generalize w.setCell ⟨gn, 0, none⟩ (.int .i64 m) = w1 at *
  have d0 := H1.out.cell 0
  simp at d0
  by_cases hc : n = 0
  · have hd1 : (m == 1) = true := by have := HM.out; simp; omega
    have HC := Lib.hid hc
    clear hc
    have f0 := H2.out.cell 0
    have y0 := H2.out.frozen 0
    simp at f0
    go_upto_region 4 with fail
    have hn2 := H1.out.far (p := ⟨gf, 0, none⟩) e1 (.int .i64 x)
    have hf2 := H2.out.set_ 0 (.int .i64 x)
    have hz2 := H3.out.far (p := ⟨gf, 0, none⟩) (Ne.symm e3) (.int .i64 x)
    have k2 := K1.out.setCell (p := ⟨gf, 0, none⟩) (by simp) (.int .i64 x)
    generalize w1.setCell ⟨gf, 0, none⟩ (.int .i64 x) = w2 at *
    clear f0 y0 d0 H1 H2 H3 K1
    have d0 := hn2.cell 0
    have d1 := hz2.cell 0
    simp at d0 d1
    have H1 := Lib.hid hn2
    have H2 := Lib.hid hf2
    have H3 := Lib.hid hz2
    have K1 := Lib.hid k2
    clear hn2 hf2 hz2 k2
    by_cases hs : n = sp
    · have ht2 : (m == 1 + sp) = true := by have := HM.out; simp; omega
      have HS := Lib.hid hs
      clear hs
      go_wp2
      go_ret
      rw [← HER.out, ← HF2.out, if_pos HS.out, if_pos HC.out]
      exact ⟨rfl, by simpa using H1.out, by simpa using H2.out, H3.out, K1.out⟩
    · have ht2 : (m == 1 + sp) = false := by have := HM.out; simp; omega
      have HS := Lib.hid hs
      clear hs
      go_wp2
      go_ret
      rw [← HER.out, ← HF2.out, if_neg HS.out, if_pos HC.out]
      exact ⟨rfl, by simpa using H1.out, by simpa using H2.out, H3.out, K1.out⟩
  · have d1 := H3.out.cell 0
    simp at d1
    have hd1 : (m == 1) = false := by have := HM.out; simp; omega
    have HC := Lib.hid hc
    clear hc
    by_cases hs : n = sp
    · have ht2 : (m == 1 + sp) = true := by have := HM.out; simp; omega
      have HS := Lib.hid hs
      clear hs
      go_wp2
      go_ret
      rw [← HER.out, ← HF2.out, if_pos HS.out, if_neg HC.out]
      exact ⟨rfl, by simpa using H1.out, H2.out, H3.out, K1.out⟩
    · have ht2 : (m == 1 + sp) = false := by have := HM.out; simp; omega
      have HS := Lib.hid hs
      clear hs
      go_wp2
      go_ret
      rw [← HER.out, ← HF2.out, if_neg HS.out, if_neg HC.out]
      exact ⟨rfl, by simpa using H1.out, H2.out, H3.out, K1.out⟩

/-- A device, what the counting function looks at, what it counts. -/
def erR (d : DevI) (s : St) (gz : Nat) (z : Int) (gn : Nat) (n : Int) (gf : Nat) (f : Int) : Res :=
  andR (andR (andR (devR d s) (blkR gz 5 #[.int .u8 z])) (blkR gn 3 #[.int .i64 n])) (blkR gf 3 #[.int .i64 f])

theorem stores_err {d : DevI} {s : St} {gz gn gf : Nat} {z : Int} {sp a0 : Nat} {ops : List (Nat × Int)} (hsp : z.tmod 8 = (sp : Int)) (h8 : sp < 8) (h0 : ∀ p, ops[0]? = some p → p.1 = a0) (hl : ops.length ≤ 10000) :
    Stores 36 #[] #[.pointer (some ⟨gn, 0, none⟩), .pointer (some ⟨gf, 0, none⟩), .pointer (some ⟨gz, 0, none⟩)] ops
      (fun i r => i ≤ sp ∧ r = erR d s gz z gn (i : Int) gf (if i = 0 then 0 else (a0 : Int))) (fun err i r => err = 3 ∧ i = sp ∧ r = erR d s gz z gn ((i + 1 : Nat) : Int) gf (a0 : Int)) := by
  refine ⟨enters_of Try.func36 (by kernel_rfl) rfl, ?_⟩
  rintro i p hp r ⟨hi, rfl⟩ w hd
  obtain ⟨hil, hget⟩ := List.getElem?_eq_some_iff.1 hp
  obtain ⟨⟨⟨h1, h2, h3⟩, h4, h5⟩, h6, h7⟩ := hd
  have ngf : gn ≠ gf := fun e => h7 gn (by simp [andR, blkR]) (by simp [blkR, e])
  have ngz : gn ≠ gz := fun e => h5 gz (by simp [andR, blkR]) (by simp [blkR, e])
  have nfz : gf ≠ gz := fun e => h7 gz (by simp [andR, blkR]) (by simp [blkR, e])
  have ndn : gn ∉ d.blocks := fun hm => h5 gn (by simp [andR, devR, hm]) (by simp [blkR])
  have ndf : gf ∉ d.blocks := fun hm => h7 gf (by simp [andR, devR, hm]) (by simp [blkR])
  refine (err_one gn gf gz (i : Int) ((i + 1 : Nat) : Int) (sp : Int) _ _ z _ _ _ w h4 h6 h2 hsp (by omega) (by omega) (by omega) (by omega) (by omega) ngf ngz nfz rfl rfl).mono ?_
  rintro e w' ⟨rfl, b1, b2, b3, hk⟩
  have hdd : Dev w' d s := Dev.keep h1 hk fun k hkd => ⟨Dev.lt h1 k hkd, fun hm => by simp at hm; rcases hm with rfl | rfl; exact ndn hkd; exact ndf hkd⟩
  have hf : (if (i : Int) = 0 then (p.1 : Int) else if i = 0 then 0 else (a0 : Int)) = (a0 : Int) := by
    by_cases hi0 : i = 0
    · subst hi0
      rw [if_pos (by simp), h0 p hp]
    · rw [if_neg (by omega), if_neg hi0]
  rw [hf] at b2
  have hh : (erR d s gz z gn ((i + 1 : Nat) : Int) gf (a0 : Int)).holds w' := ⟨⟨⟨hdd, b3, h3⟩, b1, h5⟩, b2, h7⟩
  refine ⟨_, erR d s gz z gn ((i + 1 : Nat) : Int) gf (a0 : Int), rfl, hk.sub (fun k _ hk => by simp at hk; rcases hk with rfl | rfl <;> simp [erR, andR, blkR]), hh, fun _ h => .inl h, ?_⟩
  by_cases hs : i = sp
  · refine .inr ⟨by rw [if_pos (by omega)]; decide, by rw [if_pos (by omega)], hs, rfl⟩
  · refine .inl ⟨by rw [if_neg (by omega)], by omega, by rw [if_neg (by omega)]⟩

theorem tmod_small (a : Int) : -12 < a.tmod 12 ∧ a.tmod 12 < 12 := by
  have h1 := Int.tmod_lt_of_pos a (show (0 : Int) < 12 by decide)
  have h2 := Int.lt_tmod_of_pos a (show (0 : Int) < 12 by decide)
  omega

set_option maxRecDepth 100000 in
set_option maxHeartbeats 8000000 in
theorem SpaceErrors.core (l r s m0 b0 q0 z : Int) (near : Bool) (w : World) (l0 : 0 ≤ l) (l1 : l ≤ 65535) (r0 : 0 ≤ r) (r1 : r ≤ 65535) (s0 : 0 ≤ s) (s1 : s ≤ 65535) (m00 : -9223372036854775808 ≤ m0) (m01 : m0 ≤ 9223372036854775807) (b00 : -9223372036854775808 ≤ b0) (b01 : b0 ≤ 9223372036854775807) (q00 : 0 ≤ q0) (q01 : q0 ≤ 18446744073709551615) (z0 : 0 ≤ z) (z1 : z ≤ 255) :
    Calls Try.prog 8 #[.agg #[.int .u16 l, .int .u16 r, .int .u16 s], .int .i64 m0, .int .i64 b0, .int .u64 q0, .int .u8 z, .bool near] w fun e w' => e = .returned (.bool true) ∧ Keep w.heap.size [] w w' := by
  have HS := Lib.hid (((Sep.start w []).new 24 #[.int .u16 l, .int .u16 r, .int .u16 s]).new 5 #[.int .u8 z])
  rw [show (w.alloc (.cells #[.int .u16 l, .int .u16 r, .int .u16 s] 24)).heap.size = w.heap.size + 1 by simp] at HS
  go_enter Try.func8, Try.ntmps8
  go_wp2_with fail
  generalize (w.alloc _).alloc _ = w2 at *
  generalize w.heap.size = gx at *
  generalize gx + 1 = gz at *
  refine (awake9_any _).mono ?_
  rintro e w1 ⟨rfl, hk⟩
  replace HS := Lib.hid (HS.out.grow hk)
  clear hk
  have c0 := (HS.out.blk 0 rfl).cell 0
  simp at c0
  have c1 := (HS.out.blk 0 rfl).cell 1
  simp at c1
  have c2 := (HS.out.blk 0 rfl).cell 2
  simp at c2
  go_wp2_with fail
  refine (kmake l r s _ l0 l1 r0 r1 s0 s1).mono ?_
  rintro e w3 ⟨k, hk, hL, hR, hS, rfl, hkk⟩
  simp only [Kfg.cells]
  replace HS := Lib.hid ((HS.out.grow hkk).new 29 #[.int .i64 (k.L : Int), .int .i64 (k.R : Int), .int .i64 (k.S : Int)])
  have HK := Lib.hid hk
  clear hkk hk c0 c1 c2
  go_wp2_with fail
  generalize w3.alloc _ = w4 at *
  generalize w3.heap.size = gk at *
  refine (formatted_any k _ [] _ HK.out (rd_nil6 _ 0) (by decide)).mono ?_
  rintro e w5 ⟨d, rfl, hdb, hd, hkk⟩
  obtain ⟨s5, hs5⟩ : ∃ s5, s5 = (St.fresh (-1) 0 (fill [] k.words)).run (fmtOps k) := ⟨_, rfl⟩
  rw [← hs5] at hd
  have hI : s5.Is k.words := by rw [hs5]; exact (fresh_fill [] k).run _
  have hA : AllS s5 k := by rw [hs5]; exact all_of HK.out (fresh_fill [] k)
  have hz : s5.nw k.act = ((0 : Nat) : Int) := (hA.zer 0 (by omega)).1
  have hl5 : s5.l < 0 := by rw [hs5, St.run_l]; show (-1 : Int) < 0; decide
  replace HS := Lib.hid (HS.out.add hkk (r := devR d s5) hd hdb)
  have HI := Lib.hid hI
  have HZ := Lib.hid hz
  have HL := Lib.hid hl5
  clear hdb hd hkk hs5 hI hA hl5 hz
  obtain ⟨hw1, hw2⟩ := Kfg.words_le HK.out
  have hkS : k.S ≤ 4096 := HK.out.s1
  go_upto_if 32 with fail
  go_cut [1, 2, 3] from 32 to 42 (fun v1 v2 v3 wx => ∃ m b q : Int, v1 = .int .i64 m ∧ v2 = .int .i64 b ∧ v3 = .int .u64 q ∧ (-9223372036854775808 ≤ m ∧ m ≤ 9223372036854775807) ∧ (-9223372036854775808 ≤ b ∧ b ≤ 9223372036854775807) ∧ (0 ≤ q ∧ q ≤ 18446744073709551615) ∧ Sep w [] [blkR gx 24 #[.int .u16 l, .int .u16 r, .int .u16 s], blkR gz 5 #[.int .u8 z], blkR gk 29 #[.int .i64 (k.L : Int), .int .i64 (k.R : Int), .int .i64 (k.S : Int)], devR d s5] wx)
  case first =>
    cases near
    · go_wp2
      go_meet
      exact ⟨m0, b0, q0, rfl, rfl, rfl, ⟨m00, m01⟩, ⟨b00, b01⟩, ⟨q00, q01⟩, HS.out⟩
    · have c2 : ∀ x : Ext w5, x.now.cell? ⟨gk, 2, none⟩ = some (.int .i64 (k.S : Int)) := fun x => x.cell (by simpa using (HS.out.blk 2 rfl).cell 2)
      have hi1 : IntKind.i64.wrap ((k.S : Int) + 3) = (k.S : Int) + 3 := IntWalk.i64_in _ (by omega)
      have hi2 : IntKind.u64.wrap ((k.S : Int) + 3) = (k.S : Int) + 3 := by rw [IntKind.wrap_u64]; omega
      have hz1 : ((k.S : Int) + 3 = 0) = False := by simp; omega
      go_wp2_with fail
      refine wp_region_ext (by kernel_rfl) (by kernel_rfl) ?_
      repeat (go_big_quiet_step ((first | fail)))
      refine wpQuiet_nil ?_
      rintro _ ⟨x, rfl⟩
      replace HS := Lib.hid (HS.out.grow x.keep)
      have t1 := tmod_small m0
      have t2 := tmod_small b0
      have hQ0 := Int.emod_nonneg q0 (show (k.S : Int) + 3 ≠ 0 by omega)
      have hQ1 := Int.emod_lt_of_pos q0 (show 0 < (k.S : Int) + 3 by omega)
      go_wp2
      go_meet
      exact ⟨m0.tmod 12, b0.tmod 12, q0 % ((k.S : Int) + 3), rfl, rfl, rfl, ⟨by omega, by omega⟩, ⟨by omega, by omega⟩, ⟨by omega, by omega⟩, HS.out⟩
  case rest =>
    obtain ⟨m, b, q, rfl, rfl, rfl, hm, hb, hq, hs⟩ := hcut
    have HS := Lib.hid hs
    clear hs m00 m01 b00 b01 q00 q01
    have c0 := (HS.out.blk 2 rfl).cell 0
    simp at c0
    have c1 := (HS.out.blk 2 rfl).cell 1
    simp at c1
    have c2 := (HS.out.blk 2 rfl).cell 2
    simp at c2
    go_wp2_with fail
    refine (kused k _ HK.out).mono ?_
    rintro e w6 ⟨rfl, hkk⟩
    replace HS := Lib.hid (HS.out.grow hkk)
    clear hkk c0 c1 c2
    go_wp2_with fail
    refine (store_free d s5 (k.act + 1) q _ (HS.out.dev 3 rfl) HL.out (by rw [HI.out.now]; omega)).mono ?_
    rintro e w7 ⟨rfl, hd, hkk⟩
    replace HS := Lib.hid (HS.out.did (i := 3) rfl hd hkk)
    have e1 := St.nw_store HI.out (show k.act + 1 < k.words by omega) q
    have hI6 := HI.out.store (k.act + 1) q
    have ha6 : (s5.store (k.act + 1) q).nw k.act = ((0 : Nat) : Int) := by rw [e1, if_neg (by omega)]; exact HZ.out
    have hu6 : (s5.store (k.act + 1) q).nw (k.act + 1) = q := by rw [e1, if_pos rfl]
    generalize s5.store (k.act + 1) q = t at *
    have HI6 := Lib.hid hI6
    have HA6 := Lib.hid ha6
    have HU6 := Lib.hid hu6
    clear hd hkk e1 hI6 ha6 hu6 HI HZ HL
    go_upto_region 12 with fail
    replace HS := Lib.hid (((HS.out.new 60 #[.int .i64 m, .int .i64 b]).new 3 #[.int .i64 0]).new 3 #[.int .i64 0])
    rw [show ((w7.alloc (.cells #[.int .i64 m, .int .i64 b] 60)).alloc (.cells #[.int .i64 0] 3)).heap.size = w7.heap.size + 1 + 1 by simp, show (w7.alloc (.cells #[.int .i64 m, .int .i64 b] 60)).heap.size = w7.heap.size + 1 by simp] at HS
    generalize ((w7.alloc _).alloc _).alloc _ = w8 at *
    generalize w7.heap.size = gh at *
    generalize gh + 1 = gn at *
    generalize gn + 1 = gf at *
    have hcvS : IntKind.u64.wrap (k.S : Int) = (k.S : Int) := by rw [IntKind.wrap_u64]; omega
    have c0 := (HS.out.blk 2 rfl).cell 0
    simp at c0
    have c1 := (HS.out.blk 2 rfl).cell 1
    simp at c1
    have c2 := (HS.out.blk 2 rfl).cell 2
    simp at c2
    have h0 := (HS.out.blk 4 rfl).cell 0
    simp at h0
    have h1 := (HS.out.blk 4 rfl).cell 1
    simp at h1
    by_cases hok : headOk m b
    rotate_left
    · go_wp2_with fail
      refine (alloc_kind d k m b _ _ hok).mono ?_
      rintro e w9 ⟨rfl, hkk⟩
      replace HS := Lib.hid (HS.out.grow hkk)
      clear hkk c0 c1 c2 h0 h1
      have n0 := (HS.out.blk 5 rfl).cell 0
      simp at n0
      by_cases y1 : m < 0
      · go_wp2
        go_ret
        exact ⟨rfl, HS.out.keep⟩
      by_cases y2 : 64 < m
      · go_wp2
        go_ret
        exact ⟨rfl, HS.out.keep⟩
      by_cases y3 : b < 0
      · go_wp2
        go_ret
        exact ⟨rfl, HS.out.keep⟩
      have y4 : m < b := by unfold headOk at hok; omega
      go_wp2
      go_ret
      exact ⟨rfl, HS.out.keep⟩
    have HOK := Lib.hid hok
    have y1 : ¬ m < 0 := by unfold headOk at hok; omega
    have y2 : ¬ 64 < m := by unfold headOk at hok; omega
    have y3 : ¬ b < 0 := by unfold headOk at hok; omega
    have y4 : ¬ m < b := by unfold headOk at hok; omega
    clear hok hm hb
    by_cases hu : (k.S : Int) < q
    · go_wp2_with fail
      refine (alloc_used d t k m b 0 q _ _ (HS.out.dev 3 rfl) HK.out HI6.out.now HOK.out HA6.out HU6.out (.inr hu)).mono ?_
      rintro e w9 ⟨rfl, hkk⟩
      replace HS := Lib.hid (HS.out.grow hkk)
      clear hkk c0 c1 c2 h0 h1
      have c2 := (HS.out.blk 2 rfl).cell 2
      simp at c2
      have n0 := (HS.out.blk 5 rfl).cell 0
      simp at n0
      go_wp2
      go_ret
      exact ⟨rfl, HS.out.keep⟩
    obtain ⟨u, rfl⟩ : ∃ u : Nat, q = (u : Int) := ⟨q.toNat, by omega⟩
    obtain ⟨n, rfl⟩ : ∃ n : Nat, m = (n : Int) := ⟨m.toNat, by omega⟩
    have hcq : IntKind.i64.wrap (u : Int) = (u : Int) := by rw [IntWalk.i64_in _ (by omega)]
    obtain ⟨p, hp⟩ : ∃ p : Nat, k.S - u = p := ⟨_, rfl⟩
    have hsub : IntKind.i64.wrap ((k.S : Int) - (u : Int)) = (p : Int) := by rw [IntWalk.i64_in _ (by omega)]; omega
    have hn64 : n ≤ 64 := by omega
    have hnI : (n : Int) ≤ 64 := by omega
    have huS : u ≤ k.S := by omega
    clear hq
    by_cases hfit : u + (n + 1) ≤ k.S
    rotate_left
    · go_wp2_with fail
      refine (alloc_space d t k n 0 u b _ _ (HS.out.dev 3 rfl) HK.out HI6.out.now HOK.out HA6.out HU6.out (by decide) huS (by omega)).mono ?_
      rintro e w9 ⟨rfl, hkk⟩
      replace HS := Lib.hid (HS.out.grow hkk)
      clear hkk c0 c1 c2 h0 h1
      have c2 := (HS.out.blk 2 rfl).cell 2
      simp at c2
      have n0 := (HS.out.blk 5 rfl).cell 0
      simp at n0
      have y5 : (p : Int) < (n : Int) + 1 := by omega
      have y6 : p < n + 1 := by omega
      clear hfit
      go_wp2
      go_ret
      exact ⟨rfl, HS.out.keep⟩
    obtain ⟨sp, hsp⟩ : ∃ sp : Nat, z.tmod 8 = (sp : Int) := ⟨(z.tmod 8).toNat, by have := Int.tmod_nonneg 8 z0; omega⟩
    have hsp8 : sp < 8 := by have := Int.tmod_lt_of_pos z (show (0 : Int) < 8 by decide); omega
    have hsp8I : (sp : Int) < 8 := by omega
    have HSP := Lib.hid hsp
    replace HS := Lib.hid (((HS.out.join (i := 3) (j := 1) (by decide) rfl rfl).join (i := 3) (j := 5) (by decide) rfl rfl).join (i := 3) (j := 6) (by decide) rfl rfl)
    obtain ⟨f, hf⟩ : ∃ f, k.from_ 0 + u = f := ⟨_, rfl⟩
    have HF := Lib.hid hf
    have hfw := Kfg.from_words HK.out (a := 1) (by omega)
    have hf0 : k.from_ 1 = k.from_ 0 + up8 k.S := k.from_step 0
    have hfS := (up8_le k.S).1
    have hf2 : f ≤ 10000 := by omega
    clear hsp hf hfw hf0 hfS
    go_wp2_with fail
    refine (alloc_go d t k n 0 u f b _ #[] #[.pointer (some ⟨gn, 0, none⟩), .pointer (some ⟨gf, 0, none⟩), .pointer (some ⟨gz, 0, none⟩)] _ _ (erR d t gz z gn 0 gf 0) _ HK.out HI6.out.now HOK.out HA6.out HU6.out (by decide) hfit HF.out (stores_err (d := d) (s := t) (sp := sp) (a0 := k.act + 1) HSP.out hsp8 (fun p hp => by simp [allocOps] at hp; rw [← hp]) (by simp [allocOps]; omega)) ⟨Nat.zero_le _, rfl⟩ (HS.out.all 3 _ rfl) (fun w h => h.1.1.1)).mono ?_
    rintro e w9 ⟨err, r', hS, hor⟩
    replace HS := Lib.hid (HS.out.app hS (i := 3) rfl (fun k h => h) (j := 0) rfl)
    clear hS c0 c1 c2 h0 h1
    have hus := fun w => kused k w HK.out
    have hfr := fun w => kfrom k w HK.out 0 (by decide)
    have hfe : IntKind.i64.wrap ((k.from_ 0 : Int) + (u : Int)) = (f : Int) := by have := HF.out; rw [IntWalk.i64_in _ (by omega)]; omega
    obtain ⟨na, hna⟩ : ∃ na, k.act + 1 = na := ⟨_, rfl⟩
    obtain ⟨fr, hfr0⟩ : ∃ fr, k.from_ 0 = fr := ⟨_, rfl⟩
    rw [hna] at hus hor
    rw [hfr0] at hfr hfe
    have HUS := Lib.hid hus
    have HFR := Lib.hid hfr
    have hnp : (n : Int) + 1 ≤ (p : Int) := by omega
    have y5 : ¬ (p : Int) < (n : Int) + 1 := by omega
    have y6 : ¬ p < n + 1 := by omega
    clear hus hfr hfit hf2 hna hfr0
    rcases hor with ⟨rfl, rfl, hj⟩ | ⟨herr, rfl, i, hi, rfl, hisp, rfl⟩
    · obtain ⟨hle, rfl⟩ := hj
      rw [if_neg (by omega)] at HS
      obtain ⟨⟨⟨_, b2, _⟩, b1, _⟩, b3, _⟩ := HS.out.all 3 _ rfl
      have n0 : ∀ x : Ext w9, x.now.cell? ⟨gn, 0, none⟩ = some (.int .i64 ((n : Int) + 2)) := fun x => x.cell (by have := b1.cell 0; simpa using this)
      have f0 : ∀ x : Ext w9, x.now.cell? ⟨gf, 0, none⟩ = some (.int .i64 (na : Int)) := fun x => x.cell (by have := b3.cell 0; simpa using this)
      have x0 : ∀ x : Ext w9, x.now.cell? ⟨gz, 0, none⟩ = some (.int .u8 z) := fun x => x.cell (by have := b2.cell 0; simpa using this)
      have x00 := x0 ⟨w9, Keep.refl _ _ _⟩
      simp only at x00
      clear b1 b2 b3
      have c0 : ∀ x : Ext w9, x.now.cell? ⟨gk, 0, none⟩ = some (.int .i64 (k.L : Int)) := fun x => x.cell (by simpa using (HS.out.blk 2 rfl).cell 0)
      have c1 : ∀ x : Ext w9, x.now.cell? ⟨gk, 1, none⟩ = some (.int .i64 (k.R : Int)) := fun x => x.cell (by simpa using (HS.out.blk 2 rfl).cell 1)
      have c2 : ∀ x : Ext w9, x.now.cell? ⟨gk, 2, none⟩ = some (.int .i64 (k.S : Int)) := fun x => x.cell (by simpa using (HS.out.blk 2 rfl).cell 2)
      have d2 := (HS.out.blk 2 rfl).cell 2
      simp at d2
      have hsp := HSP.out
      have y7 : ¬ (1 + (sp : Int) ≤ (n : Int) + 2) := by omega
      have y8 : ¬ (1 + sp ≤ n + 2) := by omega
      go_upto_region 21 with fail
      have hw2n : IntKind.i64.wrap ((n : Int) + 2) = (n : Int) + 2 := by rw [IntWalk.i64_in _ (by omega)]
      clear hsp y7 y8
      refine wp_region_ext (by kernel_rfl) (by kernel_rfl) ?_
      repeat (go_big_quiet_step ((first | (go_at_call 24; with_reducible exact Calls.ext (HFR.out _)) | (go_at_call 21; with_reducible exact Calls.ext (HUS.out _)))))
      refine wpQuiet_nil ?_
      rintro _ ⟨x, rfl⟩
      replace HS := Lib.hid (HS.out.grow x.keep)
      go_wp2
      go_ret
      exact ⟨rfl, HS.out.keep⟩
    · subst hisp
      obtain ⟨⟨⟨_, b2, _⟩, b1, _⟩, b3, _⟩ := HS.out.all 3 _ rfl
      have n0 : ∀ x : Ext w9, x.now.cell? ⟨gn, 0, none⟩ = some (.int .i64 (1 + (i : Int))) := fun x => x.cell (by have := b1.cell 0; rw [show (1 + (i : Int)) = ((i + 1 : Nat) : Int) by omega]; simpa using this)
      have f0 : ∀ x : Ext w9, x.now.cell? ⟨gf, 0, none⟩ = some (.int .i64 (na : Int)) := fun x => x.cell (by have := b3.cell 0; simpa using this)
      have x0 : ∀ x : Ext w9, x.now.cell? ⟨gz, 0, none⟩ = some (.int .u8 z) := fun x => x.cell (by have := b2.cell 0; simpa using this)
      have x00 := x0 ⟨w9, Keep.refl _ _ _⟩
      simp only at x00
      clear b1 b2 b3
      have c0 : ∀ x : Ext w9, x.now.cell? ⟨gk, 0, none⟩ = some (.int .i64 (k.L : Int)) := fun x => x.cell (by simpa using (HS.out.blk 2 rfl).cell 0)
      have c1 : ∀ x : Ext w9, x.now.cell? ⟨gk, 1, none⟩ = some (.int .i64 (k.R : Int)) := fun x => x.cell (by simpa using (HS.out.blk 2 rfl).cell 1)
      have c2 : ∀ x : Ext w9, x.now.cell? ⟨gk, 2, none⟩ = some (.int .i64 (k.S : Int)) := fun x => x.cell (by simpa using (HS.out.blk 2 rfl).cell 2)
      have d2 := (HS.out.blk 2 rfl).cell 2
      simp at d2
      have hsp := HSP.out
      have y7 : 1 + (i : Int) ≤ (n : Int) + 2 := by omega
      have y8 : 1 + i ≤ n + 2 := by omega
      go_upto_region 20 with fail
      clear y7 y8
      refine wp_region_ext (by kernel_rfl) (by kernel_rfl) ?_
      repeat (go_big_quiet_step ((first | (go_at_call 21; with_reducible exact Calls.ext (HUS.out _)))))
      refine wpQuiet_nil ?_
      rintro _ ⟨x, rfl⟩
      replace HS := Lib.hid (HS.out.grow x.keep)
      go_wp2
      go_ret
      exact ⟨rfl, HS.out.keep⟩

theorem SpaceErrors.walk {w : World} (l r s : Int) (h : (lowest .u16 ≤ l ∧ l ≤ greatest .u16) ∧ (lowest .u16 ≤ r ∧ r ≤ greatest .u16) ∧ (lowest .u16 ≤ s ∧ s ≤ greatest .u16)) (m : Int) (m0 : lowest .i64 ≤ m) (m1 : m ≤ greatest .i64) (b : Int) (b0 : lowest .i64 ≤ b) (b1 : b ≤ greatest .i64) (u : Int) (u0 : lowest .u64 ≤ u) (u1 : u ≤ greatest .u64) (z : Int) (z0 : lowest .u8 ≤ z) (z1 : z ≤ greatest .u8) (near : Bool) :
    Calls Try.prog 8 #[.agg #[.int .u16 l, .int .u16 r, .int .u16 s], .int .i64 m, .int .i64 b, .int .u64 u, .int .u8 z, .bool near] w fun e w' => e = .returned (.bool true) ∧ Below w.heap.size w w' := by
  obtain ⟨⟨l0, l1⟩, ⟨r0, r1⟩, s0, s1⟩ := h
  simp [lowest, greatest] at l0 l1 r0 r1 s0 s1 m0 m1 b0 b1 u0 u1 z0 z1
  exact (SpaceErrors.core l r s m b u z near w l0 l1 r0 r1 s0 s1 m0 m1 b0 b1 u0 u1 z0 z1).mono fun e w' ⟨he, hk⟩ => ⟨he, hk.below⟩
end Go.Proofs.Ytaophnicdbmojaa
