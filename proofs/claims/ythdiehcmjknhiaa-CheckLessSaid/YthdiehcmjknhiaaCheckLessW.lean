/-
  CheckLess: the walk.
-/
import Derived.Test.YthdiehcmjknhiaaAwk12
set_option linter.unusedSimpArgs false
set_option linter.unusedVariables false
set_option maxRecDepth 100000
namespace Go.Proofs.Ythdiehcmjknhiaa
open Go.RowKit Go.Shelf

set_option maxRecDepth 100000 in
set_option maxHeartbeats 8000000 in
theorem CheckLess.core (l r s : Int) (v1 : Value) (hl1 : List HV) (a2 : Int) (a3 : Int) (w : World) (l0 : 0 ≤ l) (l1 : l ≤ 65535) (r0 : 0 ≤ r) (r1 : r ≤ 65535) (s0 : 0 ≤ s) (s1 : s ≤ 65535) (hm1 : RdH w v1 hl1) (ho1 : ∀ x ∈ hl1, x.Ok) (hn1 : hl1.length ≤ maxLen) (a20 : 0 ≤ a2) (a21 : a2 ≤ 255) (a30 : 0 ≤ a3) (a31 : a3 ≤ 18446744073709551615) :
    Calls Try.prog 8 #[.agg #[.int .u16 l, .int .u16 r, .int .u16 s], v1, .int .u8 a2, .int .u64 a3] w fun e w' => e = .returned (.bool true) ∧ Keep w.heap.size [] w w' := by
  simp only [maxLen] at hn1
  obtain ⟨q, rfl⟩ : ∃ q : Nat, a2 = (q : Int) := ⟨a2.toNat, by omega⟩
  obtain ⟨q3, rfl⟩ : ∃ q3 : Nat, a3 = (q3 : Int) := ⟨a3.toNat, by omega⟩
  obtain ⟨m3, hm3⟩ : ∃ m3, q3 % 4611686018427387904 = m3 := ⟨_, rfl⟩
  have hm3l : m3 < 4611686018427387904 := by have := Nat.mod_lt q3 (show 0 < 4611686018427387904 by omega); omega
  have hrem3 : ((q3 : Int)).tmod 4611686018427387904 = (m3 : Int) := by rw [show (4611686018427387904 : Int) = ((4611686018427387904 : Nat) : Int) from rfl, tmod_natN, hm3]
  clear hm3
  have HS := Lib.hid ((Sep.start w []).new 24 #[.int .u16 l, .int .u16 r, .int .u16 s])
  obtain ⟨hk, hkL, hkR, hkS⟩ := kOf_ok (l := l) (r := r) (s := s) l0 r0 s0
  have hfa := fun w hm hml => filled_any l r s v1 hl1 w l0 l1 r0 r1 s0 s1 hm ho1 hml
  have hpl := placed_length ((kOf l r s).from_ 0) (kOf l r s).S hl1 0
  generalize kOf l r s = k at *
  obtain ⟨os, hos⟩ : ∃ os, placed (k.from_ 0) k.S hl1 0 = os := ⟨_, rfl⟩
  obtain ⟨u, hu⟩ : ∃ u, usedOf k.S hl1 0 = u := ⟨_, rfl⟩
  simp only [hos, hu] at hfa hpl
  have HFA := Lib.hid hfa
  have HK := Lib.hid hk
  have HM := Lib.hid hm1
  have hS8 : 8 ≤ k.S := hk.s0
  have hw2 : k.words ≤ 10000 := (Kfg.words_le hk).2
  have hw1 : k.act + 2 + k.R ≤ k.words := (Kfg.words_le hk).1
  clear hfa hk hos hu
  obtain ⟨HA, HC, hv1, hvv⟩ := hm1
  subst hv1
  clear hvv
  by_cases hb1 : 30 < hl1.length
  · have hbI : (30 : Int) < hl1.length := by omega
    go_enter Try.func8, Try.ntmps8
    go_wp2_with fail
    generalize w.alloc _ = w2 at *
    refine (awake12_any _).mono ?_
    rintro e w1 ⟨rfl, hk⟩
    replace HS := Lib.hid (HS.out.grow hk)
    clear hk
    go_wp2
    go_ret
    exact ⟨rfl, HS.out.keep⟩
  have hx2 : ((30 : Int) < hl1.length) = False := by rw [eq_iff_iff, iff_false]; omega
  have hx3 : (30 < hl1.length) = False := by rw [eq_iff_iff, iff_false]; omega
  go_enter Try.func8, Try.ntmps8
  go_wp2_with fail
  generalize w.alloc _ = w2 at *
  generalize w.heap.size = gx at *
  refine (awake12_any _).mono ?_
  rintro e w1 ⟨rfl, hk⟩
  replace HS := Lib.hid (HS.out.grow hk)
  clear hk
  have c0 := (HS.out.blk 0 rfl).cell 0
  simp at c0
  have c1 := (HS.out.blk 0 rfl).cell 1
  simp at c1
  have c2 := (HS.out.blk 0 rfl).cell 2
  simp at c2
  go_wp2_with fail
  refine (HFA.out _ (HM.out.keep HS.out.keep) (by omega)).mono ?_
  rintro e w3 ⟨d, t, rv, ov, rfl, hf, hb, hS⟩
  obtain ⟨OA, OC, hov⟩ := rowR_val (hS.row 1 rfl)
  obtain ⟨RA, RC, hrv⟩ := rowR_val (hS.row 2 rfl)
  rw [atsOf_length] at hov
  obtain ⟨rs, hrs⟩ : ∃ rs, rootsOf t k k.R = rs := ⟨_, rfl⟩
  rw [hrs] at hrv hS
  obtain ⟨RL, hRL⟩ : ∃ RL, (uw rs).length = RL := ⟨_, rfl⟩
  rw [hRL] at hrv
  subst hov hrv
  have hadds := HS.out.adds hS
  replace HS := Lib.hid hadds
  have HF := Lib.hid hf
  have HB := Lib.hid hb
  simp only [Kfg.cells, rbC]
  clear hS hadds hf hb hrs hRL c0 c1 c2 HFA HM
  go_upto_region 8 with fail
  replace HS := Lib.hid ((HS.out.new 30 #[.int .i64 (k.L : Int), .int .i64 (k.R : Int), .int .i64 (k.S : Int)]).new 33 #[.int .i64 0, .int .i64 (u : Int), .slice RA RL RC])
  simp only [World.size_alloc] at HS
  generalize (w3.alloc _).alloc _ = w4 at *
  generalize w3.heap.size = gk at *
  generalize gk + 1 = gb at *
  have hosl : os.length ≤ 1000 := by omega
  by_cases hlen : os.length = 0
  · have hzI : ¬ (0 : Int) < (os.length : Int) := by omega
    have hT := HF.out
    have HT := Lib.hid hT
    have HR0 := Lib.hid HB.out.roots
    have HB0 := Lib.hid HB.out.body
    have HRG := Lib.hid HB.out.rng
    obtain ⟨os2, hos2⟩ : ∃ os2, os2 = os := ⟨_, rfl⟩
    rw [← hos2] at HT HB0
    clear hT HF HB hos2
    obtain ⟨t2, ht2⟩ : ∃ t2, t2 = t := ⟨_, rfl⟩
    rw [← ht2] at HT HB0 HR0 HRG HS
    obtain ⟨u2, hu2⟩ : ∃ u2, u2 = u := ⟨_, rfl⟩
    rw [← hu2] at HT
    clear ht2 hu2
    go_upto_region 10 with fail
    have hc0 : checkP t2 k 0 u2 = 0 := fill_whole HT.out (fun i hi => .inl (HR0.out i hi)) (fun o ho i hi => .inl (HB0.out o ho i (by have := HT.out.small o ho; omega)))
    have HC0 := Lib.hid hc0
    clear hc0
    have c0 := (HS.out.blk 4 rfl).cell 0
    simp at c0
    have c1 := (HS.out.blk 4 rfl).cell 1
    simp at c1
    have c2 := (HS.out.blk 4 rfl).cell 2
    simp at c2
    go_wp2_with fail
    refine (heap_check d t2 k 0 u2 _ (HS.out.dev 1 rfl) HK.out HT.out.use.is.now HT.out.use.act HT.out.use.used (by decide) HT.out.le HRG.out).mono ?_
    rintro e1 wa ⟨rfl, hs⟩
    rw [HC0.out]
    replace HS := Lib.hid (HS.out.grow hs.keep)
    clear hs c0 c1 c2
    go_upto_region 11 with fail
    replace HS : Hid (Sep w [] [blkR gx 24 #[.int .u16 l, .int .u16 r, .int .u16 s], devR d (t2), rowR 3 (.slice OA os.length OC) (atsOf os), rowR 26 (.slice RA RL RC) (uw rs), blkR gk 30 #[.int .i64 (k.L : Int), .int .i64 (k.R : Int), .int .i64 (k.S : Int)], blkR gb 33 #[.int .i64 0, .int .i64 (u : Int), .slice RA RL RC]] wa) := HS
    have hS97 : k.S ≤ 97 := hkS
    obtain ⟨z, hz⟩ : ∃ z : Nat, k.S + 1 + m3 = z := ⟨_, rfl⟩
    have hw5 : IntKind.u64.wrap (k.S : Int) = (k.S : Int) := by rw [IntKind.wrap_u64]; omega
    have hw6 : IntKind.u64.wrap ((k.S : Int) + 1) = (k.S : Int) + 1 := by rw [IntKind.wrap_u64]; omega
    have hw7 : IntKind.u64.wrap ((k.S : Int) + 1 + (m3 : Int)) = (z : Int) := by rw [IntKind.wrap_u64]; omega
    have HZ := Lib.hid hz
    clear hz
    have HKU := Lib.hid (fun w => kused k w HK.out)
    simp only [Kfg.cells] at HKU
    refine wp_region_st3 (W := w) (S := []) (by kernel_rfl) (by kernel_rfl) (by kernel_rfl) (fun D uu => [blkR gx 24 #[.int .u16 l, .int .u16 r, .int .u16 s], devR d (bif D 10 then t2.store (k.act + 1) (z : Int) else t2), rowR 3 (.slice OA os.length OC) (atsOf os), rowR 26 (.slice RA RL RC) (uw rs), blkR gk 30 #[.int .i64 (k.L : Int), .int .i64 (k.R : Int), .int .i64 (k.S : Int)], blkR gb 33 #[.int .i64 0, .int .i64 (u : Int), .slice RA RL RC]])
      (fun j v => match j with
        | 0 => v = .pointer (some ⟨d.b, 0, none⟩)
        | 1 => v = .agg #[.int .i64 (k.L : Int), .int .i64 (k.R : Int), .int .i64 (k.S : Int)]
        | 2 => v = .int .i64 ((k.act + 1 : Nat) : Int)
        | 3 => v = .pointer (some ⟨gk, 2, none⟩)
        | 4 => v = .int .i64 (k.S : Int)
        | 5 => v = .int .u64 (k.S : Int)
        | 6 => v = .int .u64 ((k.S : Int) + 1)
        | 7 => v = .int .u64 (q3 : Int)
        | 8 => v = .int .u64 (m3 : Int)
        | 9 => v = .int .u64 (z : Int)
        | _ => True) ?start ?step ?fin
    case start => exact fun u => HS.out
    case step =>
      clear HS
      refine ⟨?_, ?_, ?_, ?_, ?_, ?_, ?_, ?_, ?_, ?_, ?_, trivial⟩
      · intro D uu w' K hD hF hl hS hK
        simp only [puts, Act.put, List.setIfInBounds_toArray, List.set_cons_succ, List.set_cons_zero, Nat.zero_add, Nat.reduceAdd]
        go_simp
        simp only [yUpon]
        exact hK _ _ rfl hS
      · intro D uu w' K hD hF hl hS hK
        simp only [puts, Act.put, List.setIfInBounds_toArray, List.set_cons_succ, List.set_cons_zero, Nat.zero_add, Nat.reduceAdd]
        have x0 := (hS.blk 4 rfl).cell 0
        have x1 := (hS.blk 4 rfl).cell 1
        have x2 := (hS.blk 4 rfl).cell 2
        simp at x0 x1 x2
        go_simp
        simp only [yUpon]
        exact hK _ _ rfl hS
      · intro D uu w' K hD hF hl hS hK
        have f1 := (hF 1 (by kernel_rfl)).2
        simp only at f1
        simp only [puts, Act.put, List.setIfInBounds_toArray, List.set_cons_succ, List.set_cons_zero, Nat.zero_add, Nat.reduceAdd]
        simp only [f1]
        go_simp
        simp only [yUpon]
        refine (HKU.out _).mono ?_
        rintro e w1 ⟨rfl, hkk⟩
        exact hK _ _ rfl (hS.grow hkk)
      · intro D uu w' K hD hF hl hS hK
        simp only [puts, Act.put, List.setIfInBounds_toArray, List.set_cons_succ, List.set_cons_zero, Nat.zero_add, Nat.reduceAdd]
        go_simp
        simp only [yUpon]
        exact hK _ _ rfl hS
      · intro D uu w' K hD hF hl hS hK
        have f3 := (hF 3 (by kernel_rfl)).2
        simp only at f3
        simp only [puts, Act.put, List.setIfInBounds_toArray, List.set_cons_succ, List.set_cons_zero, Nat.zero_add, Nat.reduceAdd]
        simp only [f3]
        have x2 := (hS.blk 4 rfl).cell 2
        simp at x2
        go_simp
        simp only [yUpon]
        exact hK _ _ rfl hS
      · intro D uu w' K hD hF hl hS hK
        have f4 := (hF 4 (by kernel_rfl)).2
        simp only at f4
        simp only [puts, Act.put, List.setIfInBounds_toArray, List.set_cons_succ, List.set_cons_zero, Nat.zero_add, Nat.reduceAdd]
        simp only [f4]
        go_simp
        simp only [yUpon]
        exact hK _ _ rfl hS
      · intro D uu w' K hD hF hl hS hK
        have f5 := (hF 5 (by kernel_rfl)).2
        simp only at f5
        simp only [puts, Act.put, List.setIfInBounds_toArray, List.set_cons_succ, List.set_cons_zero, Nat.zero_add, Nat.reduceAdd]
        simp only [f5]
        go_simp
        simp only [yUpon]
        exact hK _ _ rfl hS
      · intro D uu w' K hD hF hl hS hK
        simp only [puts, Act.put, List.setIfInBounds_toArray, List.set_cons_succ, List.set_cons_zero, Nat.zero_add, Nat.reduceAdd]
        go_simp
        simp only [yUpon]
        exact hK _ _ rfl hS
      · intro D uu w' K hD hF hl hS hK
        have f7 := (hF 7 (by kernel_rfl)).2
        simp only at f7
        simp only [puts, Act.put, List.setIfInBounds_toArray, List.set_cons_succ, List.set_cons_zero, Nat.zero_add, Nat.reduceAdd]
        simp only [f7]
        go_simp
        simp only [yUpon]
        exact hK _ _ rfl hS
      · intro D uu w' K hD hF hl hS hK
        have f6 := (hF 6 (by kernel_rfl)).2
        simp only at f6
        have f8 := (hF 8 (by kernel_rfl)).2
        simp only at f8
        simp only [puts, Act.put, List.setIfInBounds_toArray, List.set_cons_succ, List.set_cons_zero, Nat.zero_add, Nat.reduceAdd]
        simp only [f6, f8]
        go_simp
        simp only [yUpon]
        exact hK _ _ rfl hS
      · intro D uu w' K hD hF hl hS hK
        have f0 := (hF 0 (by kernel_rfl)).2
        simp only at f0
        have f2 := (hF 2 (by kernel_rfl)).2
        simp only at f2
        have f9 := (hF 9 (by kernel_rfl)).2
        simp only at f9
        simp only [puts, Act.put, List.setIfInBounds_toArray, List.set_cons_succ, List.set_cons_zero, Nat.zero_add, Nat.reduceAdd]
        simp only [f0, f2, f9]
        simp only [hD, cond_false] at hS
        have e1 : (fset D 10 true) 10 = true := rfl
        go_simp
        simp only [yUpon]
        refine (store_free d t2 (k.act + 1) (z : Int) _ (hS.dev 1 rfl) HT.out.use.lim (by rw [HT.out.use.is.now]; omega)).mono ?_
        rintro e w1 ⟨rfl, hd, hkk⟩
        refine hK _ _ trivial ?_
        simp only [e1, cond_true]
        exact hS.did (i := 1) rfl hd hkk
    case fin =>
      intro D uu wf hall hS
      have f10 := (hall 10 (by simp)).1
      have v0 := (hall 0 (by simp)).2
      have v1 := (hall 1 (by simp)).2
      have v2 := (hall 2 (by simp)).2
      have v3 := (hall 3 (by simp)).2
      have v4 := (hall 4 (by simp)).2
      have v5 := (hall 5 (by simp)).2
      have v6 := (hall 6 (by simp)).2
      have v7 := (hall 7 (by simp)).2
      have v8 := (hall 8 (by simp)).2
      have v9 := (hall 9 (by simp)).2
      simp only at v0 v1 v2 v3 v4 v5 v6 v7 v8 v9
      simp only [f10, cond_true] at hS
      have HS := Lib.hid hS
      clear hall hS f10
      simp only [puts, Act.put, List.setIfInBounds_toArray, List.set_cons_succ, List.set_cons_zero, Nat.zero_add, Nat.reduceAdd]
      simp only [v0, v1, v2, v3, v4, v5, v6, v7, v8, v9]
      clear v0 v1 v2 v3 v4 v5 v6 v7 v8 v9
      have hI2 := HT.out.use.is
      have hnw3 := St.nw_store hI2 (show k.act + 1 < k.words by omega) (z : Int)
      have hI3 := hI2.store (k.act + 1) (z : Int)
      have ha3 : (t2.store (k.act + 1) (z : Int)).nw k.act = 0 := by rw [hnw3, if_neg (by omega)]; exact HT.out.use.act
      have hu3 : (t2.store (k.act + 1) (z : Int)).nw (k.act + 1) = (z : Int) := by rw [hnw3, if_pos rfl]
      have hl3 : (t2.store (k.act + 1) (z : Int)).l < 0 := HT.out.use.lim
      generalize t2.store (k.act + 1) (z : Int) = t3 at *
      have hnw4 := St.nw_store hI3 (show k.act + 1 < k.words by omega) 0
      have hI4 := hI3.store (k.act + 1) 0
      have ha4 : (t3.store (k.act + 1) 0).nw (k.act + 1) = 0 := by rw [hnw4, if_pos rfl]
      have hl4 : (t3.store (k.act + 1) 0).l < 0 := hl3
      have HI3 := Lib.hid hI3
      have HA3 := Lib.hid ha3
      have HU3 := Lib.hid hu3
      have HL3 := Lib.hid hl3
      clear hI2 hnw3 hI3 ha3 hu3 hl3
      have c0 := (HS.out.blk 4 rfl).cell 0
      simp at c0
      have c1 := (HS.out.blk 4 rfl).cell 1
      simp at c1
      have c2 := (HS.out.blk 4 rfl).cell 2
      simp at c2
      go_wp2_with fail
      refine (heap_bad d t3 k 0 (z : Int) _ (HS.out.dev 1 rfl) HK.out HI3.out.now HA3.out HU3.out (.inr (by have := HZ.out; omega))).mono ?_
      rintro e1 wb ⟨rfl, hs⟩
      replace HS := Lib.hid (HS.out.grow hs.keep)
      clear hs c0 c1 c2
      have c0 := (HS.out.blk 4 rfl).cell 0
      simp at c0
      have c1 := (HS.out.blk 4 rfl).cell 1
      simp at c1
      have c2 := (HS.out.blk 4 rfl).cell 2
      simp at c2
      go_wp2_with fail
      refine (HKU.out _).mono ?_
      rintro e1 wc ⟨rfl, hkk⟩
      replace HS := Lib.hid (HS.out.grow hkk)
      clear hkk c0 c1 c2
      go_wp2_with fail
      refine (store_free d t3 (k.act + 1) 0 _ (HS.out.dev 1 rfl) HL3.out (by rw [HI3.out.now]; omega)).mono ?_
      rintro e1 wd ⟨rfl, hd, hkk⟩
      replace HS := Lib.hid (HS.out.did (i := 1) rfl hd hkk)
      clear hd hkk HA3 HU3 HL3 HI3
      generalize t3.store (k.act + 1) 0 = t4 at *
      have hw8 : IntKind.u64.wrap (2 + (m3 : Int)) = 2 + (m3 : Int) := by rw [IntKind.wrap_u64]; omega
      have hnw5 := St.nw_store hI4 (show k.act < k.words by omega) (2 + (m3 : Int))
      have hI5 := hI4.store k.act (2 + (m3 : Int))
      have ha5 : (t4.store k.act (2 + (m3 : Int))).nw k.act = 2 + (m3 : Int) := by rw [hnw5, if_pos rfl]
      have hu5 : (t4.store k.act (2 + (m3 : Int))).nw (k.act + 1) = 0 := by rw [hnw5, if_neg (by omega)]; exact ha4
      have HI4 := Lib.hid hI4
      have HL4 := Lib.hid hl4
      have HI5 := Lib.hid hI5
      have HA5 := Lib.hid ha5
      have HU5 := Lib.hid hu5
      clear hnw4 hnw5 hI4 ha4 hl4 hI5 ha5 hu5
      have c0 := (HS.out.blk 4 rfl).cell 0
      simp at c0
      have c1 := (HS.out.blk 4 rfl).cell 1
      simp at c1
      have c2 := (HS.out.blk 4 rfl).cell 2
      simp at c2
      go_wp2_with fail
      refine (kactive k _ HK.out).mono ?_
      rintro e1 we ⟨rfl, hkk⟩
      replace HS := Lib.hid (HS.out.grow hkk)
      clear hkk c0 c1 c2
      go_wp2_with fail
      refine (store_free d t4 k.act (2 + (m3 : Int)) _ (HS.out.dev 1 rfl) HL4.out (by rw [HI4.out.now]; omega)).mono ?_
      rintro e1 wg ⟨rfl, hd, hkk⟩
      replace HS := Lib.hid (HS.out.did (i := 1) rfl hd hkk)
      clear hd hkk
      have c0 := (HS.out.blk 4 rfl).cell 0
      simp at c0
      have c1 := (HS.out.blk 4 rfl).cell 1
      simp at c1
      have c2 := (HS.out.blk 4 rfl).cell 2
      simp at c2
      go_wp2_with fail
      refine (heap_bad d _ k (2 + (m3 : Int)) 0 _ (HS.out.dev 1 rfl) HK.out HI5.out.now HA5.out HU5.out (.inl (by omega))).mono ?_
      rintro e1 wh ⟨rfl, hs⟩
      replace HS := Lib.hid (HS.out.grow hs.keep)
      clear hs c0 c1 c2
      go_wp2
      go_ret
      exact ⟨rfl, HS.out.keep⟩
  · have hzI : (0 : Int) < (os.length : Int) := by omega
    obtain ⟨jj, hj⟩ : ∃ jj, q % os.length = jj := ⟨_, rfl⟩
    have hlt : jj < os.length := by have := Nat.mod_lt q (show 0 < os.length by omega); omega
    have hltI : (jj : Int) < (os.length : Int) := by omega
    have hrem : ((q : Int)).tmod (os.length : Int) = (jj : Int) := by rw [tmod_natN, hj]
    have hz2 : ((os.length : Int) = 0) = False := by rw [eq_iff_iff, iff_false]; omega
    have hq8 : IntKind.i64.wrap (q : Int) = (q : Int) := IntWalk.i64_in _ (by omega)
    clear hj
    obtain ⟨ob, hob⟩ : ∃ ob, os[jj]? = some ob := ⟨_, List.getElem?_eq_getElem (by omega)⟩
    have hmem := List.mem_of_getElem? hob
    have hrow : w4.ownsRow 0 3 1 (.slice OA os.length OC) (atsOf os).length (atsOf os) := HS.out.row 2 rfl
    obtain ⟨g, hOA, ha0⟩ : ∃ g, OA = some ⟨g, 0, none⟩ ∧ w4.cell? ⟨g, jj, none⟩ = some (.int .i64 (ob.at_ : Int)) := by
      rcases hrow.2 with ⟨hv, h0⟩ | ⟨g, cap, cur, hv, _⟩
      · rw [atsOf_length] at h0; omega
      · injection hv with e1 e2 e3
        refine ⟨g, e1, ?_⟩
        subst e1
        have := hrow.cells (g := g) rfl jj (.int .i64 (ob.at_ : Int)) (by simp [atsOf, hob])
        rwa [show (⟨g, 0, none⟩ : Addr).add jj = ⟨g, jj, none⟩ by unfold Addr.add; split <;> simp_all] at this
    subst hOA
    clear hrow
    obtain ⟨f, hf0⟩ : ∃ f, k.from_ 0 = f := ⟨_, rfl⟩
    have hin := HF.out.in_ HK.out (by decide) hmem
    have hcm := HF.out.chain.mem hmem
    obtain ⟨vv, hv⟩ : ∃ vv, ob.at_ - f = vv := ⟨_, rfl⟩
    rw [hf0] at hcm
    have hvI : IntKind.i64.wrap ((ob.at_ : Int) - (f : Int)) = (vv : Int) := by rw [IntWalk.i64_in _ (by omega)]; omega
    have hcv : IntKind.u64.wrap (vv : Int) = (vv : Int) := by rw [IntKind.wrap_u64]; omega
    have hvu : vv ≤ u := by omega
    have hI2 := HF.out.use.is
    have hnw := St.nw_store hI2 (show k.act + 1 < k.words by omega) (vv : Int)
    have hT : FillS (t.store (k.act + 1) (vv : Int)) k 0 (os.take jj) vv := by
      refine ⟨HF.out.use.toUsed (by omega), by have := HF.out.le; omega, ?_, fun o ho => HF.out.small o (List.mem_of_mem_take ho), fun o ho => ?_⟩
      · have := HF.out.chain.upto hob
        rwa [show ob.at_ = k.from_ 0 + vv by omega] at this
      · have := HF.out.in_ HK.out (by decide) (List.mem_of_mem_take ho)
        rw [hnw, if_neg (by omega)]
        exact HF.out.heads o (List.mem_of_mem_take ho)
    have hR0 : ∀ i, i < k.R → (t.store (k.act + 1) (vv : Int)).nw (k.act + 2 + i) = 0 := fun i hi => by
      rw [hnw, if_neg (by omega)]; exact HB.out.roots i hi
    have hB0 : ∀ o ∈ os.take jj, ∀ i, i < o.n → (t.store (k.act + 1) (vv : Int)).nw (o.at_ + 1 + i) = 0 := fun o ho i hi => by
      have := HF.out.in_ HK.out (by decide) (List.mem_of_mem_take ho)
      rw [hnw, if_neg (by omega)]; exact HB.out.body o (List.mem_of_mem_take ho) i hi
    have hRG : (t.store (k.act + 1) (vv : Int)).rng := HB.out.rng.store ⟨by omega, by omega⟩
    have HT := Lib.hid hT
    have HR0 := Lib.hid hR0
    have HB0 := Lib.hid hB0
    have HRG := Lib.hid hRG
    have HLT := Lib.hid HF.out.use.lim
    have HIT := Lib.hid HF.out.use.is.now
    have HF0 := Lib.hid hf0
    have HOB := Lib.hid ha0
    obtain ⟨at_, hat⟩ : ∃ at_, ob.at_ = at_ := ⟨_, rfl⟩
    rw [hat] at hvI HOB
    have HKU := Lib.hid (fun w => kused k w HK.out)
    have HKF := Lib.hid (fun w => kfrom k w HK.out 0 (by decide))
    rw [hf0] at HKF
    simp only [Kfg.cells] at HKU HKF
    have hrowc : ∀ (wz : World) (hrow : wz.ownsRow 0 3 1 (.slice (some ⟨g, 0, none⟩) os.length OC) (atsOf os).length (atsOf os)), wz.cell? ⟨g, jj, none⟩ = some (.int .i64 (at_ : Int)) := fun wz hrow => by
      have := hrow.cells (g := g) rfl jj (.int .i64 (at_ : Int)) (by simp [atsOf, hob, hat])
      rwa [show (⟨g, 0, none⟩ : Addr).add jj = ⟨g, jj, none⟩ by unfold Addr.add; split <;> simp_all] at this
    have HRC := Lib.hid hrowc
    clear hI2 hnw hT hR0 hB0 hRG HF HB hin hcm hv hvu hob hmem hat ha0 hf0 HOB hrowc
    go_upto_region 9 with fail
    refine wp_region_st3 (W := w) (S := []) (by kernel_rfl) (by kernel_rfl) (by kernel_rfl) (fun D uu => [blkR gx 24 #[.int .u16 l, .int .u16 r, .int .u16 s], devR d (bif D 15 then t.store (k.act + 1) (vv : Int) else t), rowR 3 (.slice (some ⟨g, 0, none⟩) os.length OC) (atsOf os), rowR 26 (.slice RA RL RC) (uw rs), blkR gk 30 #[.int .i64 (k.L : Int), .int .i64 (k.R : Int), .int .i64 (k.S : Int)], blkR gb 33 #[.int .i64 0, .int .i64 (u : Int), .slice RA RL RC]])
      (fun j v => match j with
        | 0 => v = .pointer (some ⟨d.b, 0, none⟩)
        | 1 => v = .agg #[.int .i64 (k.L : Int), .int .i64 (k.R : Int), .int .i64 (k.S : Int)]
        | 2 => v = .int .i64 ((k.act + 1 : Nat) : Int)
        | 3 => v = .slice (some ⟨g, 0, none⟩) os.length OC
        | 4 => v = .int .u8 (q : Int)
        | 5 => v = .int .i64 (q : Int)
        | 6 => v = .slice (some ⟨g, 0, none⟩) os.length OC
        | 7 => v = .int .i64 (os.length : Int)
        | 8 => v = .int .i64 (jj : Int)
        | 9 => v = .pointer (some ⟨g, jj, none⟩)
        | 10 => v = .int .i64 (at_ : Int)
        | 11 => v = .agg #[.int .i64 (k.L : Int), .int .i64 (k.R : Int), .int .i64 (k.S : Int)]
        | 12 => v = .int .i64 (f : Int)
        | 13 => v = .int .i64 (vv : Int)
        | 14 => v = .int .u64 (vv : Int)
        | _ => True) ?start ?step ?fin
    case start => exact fun u => HS.out
    case step =>
      clear HS
      refine ⟨?_, ?_, ?_, ?_, ?_, ?_, ?_, ?_, ?_, ?_, ?_, ?_, ?_, ?_, ?_, ?_, trivial⟩
      · intro D uu w' K hD hF hl hS hK
        simp only [puts, Act.put, List.setIfInBounds_toArray, List.set_cons_succ, List.set_cons_zero, Nat.zero_add, Nat.reduceAdd]
        go_simp
        simp only [yUpon]
        exact hK _ _ rfl hS
      · intro D uu w' K hD hF hl hS hK
        simp only [puts, Act.put, List.setIfInBounds_toArray, List.set_cons_succ, List.set_cons_zero, Nat.zero_add, Nat.reduceAdd]
        have x0 := (hS.blk 4 rfl).cell 0
        have x1 := (hS.blk 4 rfl).cell 1
        have x2 := (hS.blk 4 rfl).cell 2
        simp at x0 x1 x2
        go_simp
        simp only [yUpon]
        exact hK _ _ rfl hS
      · intro D uu w' K hD hF hl hS hK
        have f1 := (hF 1 (by kernel_rfl)).2
        simp only at f1
        simp only [puts, Act.put, List.setIfInBounds_toArray, List.set_cons_succ, List.set_cons_zero, Nat.zero_add, Nat.reduceAdd]
        simp only [f1]
        go_simp
        simp only [yUpon]
        refine (HKU.out _).mono ?_
        rintro e w1 ⟨rfl, hkk⟩
        exact hK _ _ rfl (hS.grow hkk)
      · intro D uu w' K hD hF hl hS hK
        simp only [puts, Act.put, List.setIfInBounds_toArray, List.set_cons_succ, List.set_cons_zero, Nat.zero_add, Nat.reduceAdd]
        go_simp
        simp only [yUpon]
        exact hK _ _ rfl hS
      · intro D uu w' K hD hF hl hS hK
        simp only [puts, Act.put, List.setIfInBounds_toArray, List.set_cons_succ, List.set_cons_zero, Nat.zero_add, Nat.reduceAdd]
        go_simp
        simp only [yUpon]
        exact hK _ _ rfl hS
      · intro D uu w' K hD hF hl hS hK
        have f4 := (hF 4 (by kernel_rfl)).2
        simp only at f4
        simp only [puts, Act.put, List.setIfInBounds_toArray, List.set_cons_succ, List.set_cons_zero, Nat.zero_add, Nat.reduceAdd]
        simp only [f4]
        go_simp
        simp only [yUpon]
        exact hK _ _ rfl hS
      · intro D uu w' K hD hF hl hS hK
        simp only [puts, Act.put, List.setIfInBounds_toArray, List.set_cons_succ, List.set_cons_zero, Nat.zero_add, Nat.reduceAdd]
        go_simp
        simp only [yUpon]
        exact hK _ _ rfl hS
      · intro D uu w' K hD hF hl hS hK
        have f6 := (hF 6 (by kernel_rfl)).2
        simp only at f6
        simp only [puts, Act.put, List.setIfInBounds_toArray, List.set_cons_succ, List.set_cons_zero, Nat.zero_add, Nat.reduceAdd]
        simp only [f6]
        go_simp
        simp only [yUpon]
        exact hK _ _ rfl hS
      · intro D uu w' K hD hF hl hS hK
        have f5 := (hF 5 (by kernel_rfl)).2
        simp only at f5
        have f7 := (hF 7 (by kernel_rfl)).2
        simp only at f7
        simp only [puts, Act.put, List.setIfInBounds_toArray, List.set_cons_succ, List.set_cons_zero, Nat.zero_add, Nat.reduceAdd]
        simp only [f5, f7]
        go_simp
        simp only [yUpon]
        exact hK _ _ rfl hS
      · intro D uu w' K hD hF hl hS hK
        have f3 := (hF 3 (by kernel_rfl)).2
        simp only at f3
        have f8 := (hF 8 (by kernel_rfl)).2
        simp only at f8
        simp only [puts, Act.put, List.setIfInBounds_toArray, List.set_cons_succ, List.set_cons_zero, Nat.zero_add, Nat.reduceAdd]
        simp only [f3, f8]
        go_simp
        simp only [yUpon]
        exact hK _ _ rfl hS
      · intro D uu w' K hD hF hl hS hK
        have f9 := (hF 9 (by kernel_rfl)).2
        simp only at f9
        simp only [puts, Act.put, List.setIfInBounds_toArray, List.set_cons_succ, List.set_cons_zero, Nat.zero_add, Nat.reduceAdd]
        simp only [f9]
        have x := HRC.out _ (hS.row 2 rfl)
        go_simp
        simp only [yUpon]
        exact hK _ _ rfl hS
      · intro D uu w' K hD hF hl hS hK
        simp only [puts, Act.put, List.setIfInBounds_toArray, List.set_cons_succ, List.set_cons_zero, Nat.zero_add, Nat.reduceAdd]
        have x0 := (hS.blk 4 rfl).cell 0
        have x1 := (hS.blk 4 rfl).cell 1
        have x2 := (hS.blk 4 rfl).cell 2
        simp at x0 x1 x2
        go_simp
        simp only [yUpon]
        exact hK _ _ rfl hS
      · intro D uu w' K hD hF hl hS hK
        have f11 := (hF 11 (by kernel_rfl)).2
        simp only at f11
        simp only [puts, Act.put, List.setIfInBounds_toArray, List.set_cons_succ, List.set_cons_zero, Nat.zero_add, Nat.reduceAdd]
        simp only [f11]
        go_simp
        simp only [yUpon]
        refine (HKF.out _).mono ?_
        rintro e w1 ⟨rfl, hkk⟩
        exact hK _ _ rfl (hS.grow hkk)
      · intro D uu w' K hD hF hl hS hK
        have f10 := (hF 10 (by kernel_rfl)).2
        simp only at f10
        have f12 := (hF 12 (by kernel_rfl)).2
        simp only at f12
        simp only [puts, Act.put, List.setIfInBounds_toArray, List.set_cons_succ, List.set_cons_zero, Nat.zero_add, Nat.reduceAdd]
        simp only [f10, f12]
        go_simp
        simp only [yUpon]
        exact hK _ _ rfl hS
      · intro D uu w' K hD hF hl hS hK
        have f13 := (hF 13 (by kernel_rfl)).2
        simp only at f13
        simp only [puts, Act.put, List.setIfInBounds_toArray, List.set_cons_succ, List.set_cons_zero, Nat.zero_add, Nat.reduceAdd]
        simp only [f13]
        go_simp
        simp only [yUpon]
        exact hK _ _ rfl hS
      · intro D uu w' K hD hF hl hS hK
        have f0 := (hF 0 (by kernel_rfl)).2
        simp only at f0
        have f2 := (hF 2 (by kernel_rfl)).2
        simp only at f2
        have f14 := (hF 14 (by kernel_rfl)).2
        simp only at f14
        simp only [puts, Act.put, List.setIfInBounds_toArray, List.set_cons_succ, List.set_cons_zero, Nat.zero_add, Nat.reduceAdd]
        simp only [f0, f2, f14]
        simp only [hD, cond_false] at hS
        have e1 : (fset D 15 true) 15 = true := rfl
        go_simp
        simp only [yUpon]
        refine (store_free d t (k.act + 1) (vv : Int) _ (hS.dev 1 rfl) HLT.out (by rw [HIT.out]; omega)).mono ?_
        rintro e w1 ⟨rfl, hd, hkk⟩
        refine hK _ _ trivial ?_
        simp only [e1, cond_true]
        exact hS.did (i := 1) rfl hd hkk
    case fin =>
      intro D uu wf hall hS
      have f15 := (hall 15 (by simp)).1
      have v0 := (hall 0 (by simp)).2
      have v1 := (hall 1 (by simp)).2
      have v2 := (hall 2 (by simp)).2
      have v3 := (hall 3 (by simp)).2
      have v4 := (hall 4 (by simp)).2
      have v5 := (hall 5 (by simp)).2
      have v6 := (hall 6 (by simp)).2
      have v7 := (hall 7 (by simp)).2
      have v8 := (hall 8 (by simp)).2
      have v9 := (hall 9 (by simp)).2
      have v10 := (hall 10 (by simp)).2
      have v11 := (hall 11 (by simp)).2
      have v12 := (hall 12 (by simp)).2
      have v13 := (hall 13 (by simp)).2
      have v14 := (hall 14 (by simp)).2
      simp only at v0 v1 v2 v3 v4 v5 v6 v7 v8 v9 v10 v11 v12 v13 v14
      simp only [f15, cond_true] at hS
      have HS := Lib.hid hS
      clear hall hS f15
      simp only [puts, Act.put, List.setIfInBounds_toArray, List.set_cons_succ, List.set_cons_zero, Nat.zero_add, Nat.reduceAdd]
      simp only [v0, v1, v2, v3, v4, v5, v6, v7, v8, v9, v10, v11, v12, v13, v14]
      clear v0 v1 v2 v3 v4 v5 v6 v7 v8 v9 v10 v11 v12 v13 v14
      generalize t.store (k.act + 1) (vv : Int) = t2 at *
      obtain ⟨os2, hos2⟩ : ∃ os2, os2 = os.take jj := ⟨_, rfl⟩
      rw [← hos2] at HT HB0
      clear hos2
      obtain ⟨u2, hu2⟩ : ∃ u2, u2 = vv := ⟨_, rfl⟩
      rw [← hu2] at HT
      clear hu2 HRC hrem hz2 hvI hcv HLT HIT HKU HKF
      go_upto_region 10 with fail
      have hc0 : checkP t2 k 0 u2 = 0 := fill_whole HT.out (fun i hi => .inl (HR0.out i hi)) (fun o ho i hi => .inl (HB0.out o ho i (by have := HT.out.small o ho; omega)))
      have HC0 := Lib.hid hc0
      clear hc0
      have c0 := (HS.out.blk 4 rfl).cell 0
      simp at c0
      have c1 := (HS.out.blk 4 rfl).cell 1
      simp at c1
      have c2 := (HS.out.blk 4 rfl).cell 2
      simp at c2
      go_wp2_with fail
      refine (heap_check d t2 k 0 u2 _ (HS.out.dev 1 rfl) HK.out HT.out.use.is.now HT.out.use.act HT.out.use.used (by decide) HT.out.le HRG.out).mono ?_
      rintro e1 wa ⟨rfl, hs⟩
      rw [HC0.out]
      replace HS := Lib.hid (HS.out.grow hs.keep)
      clear hs c0 c1 c2
      go_upto_region 11 with fail
      replace HS : Hid (Sep w [] [blkR gx 24 #[.int .u16 l, .int .u16 r, .int .u16 s], devR d (t2), rowR 3 (.slice (some ⟨g, 0, none⟩) os.length OC) (atsOf os), rowR 26 (.slice RA RL RC) (uw rs), blkR gk 30 #[.int .i64 (k.L : Int), .int .i64 (k.R : Int), .int .i64 (k.S : Int)], blkR gb 33 #[.int .i64 0, .int .i64 (u : Int), .slice RA RL RC]] wa) := HS
      have hS97 : k.S ≤ 97 := hkS
      obtain ⟨z, hz⟩ : ∃ z : Nat, k.S + 1 + m3 = z := ⟨_, rfl⟩
      have hw5 : IntKind.u64.wrap (k.S : Int) = (k.S : Int) := by rw [IntKind.wrap_u64]; omega
      have hw6 : IntKind.u64.wrap ((k.S : Int) + 1) = (k.S : Int) + 1 := by rw [IntKind.wrap_u64]; omega
      have hw7 : IntKind.u64.wrap ((k.S : Int) + 1 + (m3 : Int)) = (z : Int) := by rw [IntKind.wrap_u64]; omega
      have HZ := Lib.hid hz
      clear hz
      have HKU := Lib.hid (fun w => kused k w HK.out)
      simp only [Kfg.cells] at HKU
      refine wp_region_st3 (W := w) (S := []) (by kernel_rfl) (by kernel_rfl) (by kernel_rfl) (fun D uu => [blkR gx 24 #[.int .u16 l, .int .u16 r, .int .u16 s], devR d (bif D 10 then t2.store (k.act + 1) (z : Int) else t2), rowR 3 (.slice (some ⟨g, 0, none⟩) os.length OC) (atsOf os), rowR 26 (.slice RA RL RC) (uw rs), blkR gk 30 #[.int .i64 (k.L : Int), .int .i64 (k.R : Int), .int .i64 (k.S : Int)], blkR gb 33 #[.int .i64 0, .int .i64 (u : Int), .slice RA RL RC]])
        (fun j v => match j with
          | 0 => v = .pointer (some ⟨d.b, 0, none⟩)
          | 1 => v = .agg #[.int .i64 (k.L : Int), .int .i64 (k.R : Int), .int .i64 (k.S : Int)]
          | 2 => v = .int .i64 ((k.act + 1 : Nat) : Int)
          | 3 => v = .pointer (some ⟨gk, 2, none⟩)
          | 4 => v = .int .i64 (k.S : Int)
          | 5 => v = .int .u64 (k.S : Int)
          | 6 => v = .int .u64 ((k.S : Int) + 1)
          | 7 => v = .int .u64 (q3 : Int)
          | 8 => v = .int .u64 (m3 : Int)
          | 9 => v = .int .u64 (z : Int)
          | _ => True) ?start ?step ?fin
      case start => exact fun u => HS.out
      case step =>
        clear HS
        refine ⟨?_, ?_, ?_, ?_, ?_, ?_, ?_, ?_, ?_, ?_, ?_, trivial⟩
        · intro D uu w' K hD hF hl hS hK
          simp only [puts, Act.put, List.setIfInBounds_toArray, List.set_cons_succ, List.set_cons_zero, Nat.zero_add, Nat.reduceAdd]
          go_simp
          simp only [yUpon]
          exact hK _ _ rfl hS
        · intro D uu w' K hD hF hl hS hK
          simp only [puts, Act.put, List.setIfInBounds_toArray, List.set_cons_succ, List.set_cons_zero, Nat.zero_add, Nat.reduceAdd]
          have x0 := (hS.blk 4 rfl).cell 0
          have x1 := (hS.blk 4 rfl).cell 1
          have x2 := (hS.blk 4 rfl).cell 2
          simp at x0 x1 x2
          go_simp
          simp only [yUpon]
          exact hK _ _ rfl hS
        · intro D uu w' K hD hF hl hS hK
          have f1 := (hF 1 (by kernel_rfl)).2
          simp only at f1
          simp only [puts, Act.put, List.setIfInBounds_toArray, List.set_cons_succ, List.set_cons_zero, Nat.zero_add, Nat.reduceAdd]
          simp only [f1]
          go_simp
          simp only [yUpon]
          refine (HKU.out _).mono ?_
          rintro e w1 ⟨rfl, hkk⟩
          exact hK _ _ rfl (hS.grow hkk)
        · intro D uu w' K hD hF hl hS hK
          simp only [puts, Act.put, List.setIfInBounds_toArray, List.set_cons_succ, List.set_cons_zero, Nat.zero_add, Nat.reduceAdd]
          go_simp
          simp only [yUpon]
          exact hK _ _ rfl hS
        · intro D uu w' K hD hF hl hS hK
          have f3 := (hF 3 (by kernel_rfl)).2
          simp only at f3
          simp only [puts, Act.put, List.setIfInBounds_toArray, List.set_cons_succ, List.set_cons_zero, Nat.zero_add, Nat.reduceAdd]
          simp only [f3]
          have x2 := (hS.blk 4 rfl).cell 2
          simp at x2
          go_simp
          simp only [yUpon]
          exact hK _ _ rfl hS
        · intro D uu w' K hD hF hl hS hK
          have f4 := (hF 4 (by kernel_rfl)).2
          simp only at f4
          simp only [puts, Act.put, List.setIfInBounds_toArray, List.set_cons_succ, List.set_cons_zero, Nat.zero_add, Nat.reduceAdd]
          simp only [f4]
          go_simp
          simp only [yUpon]
          exact hK _ _ rfl hS
        · intro D uu w' K hD hF hl hS hK
          have f5 := (hF 5 (by kernel_rfl)).2
          simp only at f5
          simp only [puts, Act.put, List.setIfInBounds_toArray, List.set_cons_succ, List.set_cons_zero, Nat.zero_add, Nat.reduceAdd]
          simp only [f5]
          go_simp
          simp only [yUpon]
          exact hK _ _ rfl hS
        · intro D uu w' K hD hF hl hS hK
          simp only [puts, Act.put, List.setIfInBounds_toArray, List.set_cons_succ, List.set_cons_zero, Nat.zero_add, Nat.reduceAdd]
          go_simp
          simp only [yUpon]
          exact hK _ _ rfl hS
        · intro D uu w' K hD hF hl hS hK
          have f7 := (hF 7 (by kernel_rfl)).2
          simp only at f7
          simp only [puts, Act.put, List.setIfInBounds_toArray, List.set_cons_succ, List.set_cons_zero, Nat.zero_add, Nat.reduceAdd]
          simp only [f7]
          go_simp
          simp only [yUpon]
          exact hK _ _ rfl hS
        · intro D uu w' K hD hF hl hS hK
          have f6 := (hF 6 (by kernel_rfl)).2
          simp only at f6
          have f8 := (hF 8 (by kernel_rfl)).2
          simp only at f8
          simp only [puts, Act.put, List.setIfInBounds_toArray, List.set_cons_succ, List.set_cons_zero, Nat.zero_add, Nat.reduceAdd]
          simp only [f6, f8]
          go_simp
          simp only [yUpon]
          exact hK _ _ rfl hS
        · intro D uu w' K hD hF hl hS hK
          have f0 := (hF 0 (by kernel_rfl)).2
          simp only at f0
          have f2 := (hF 2 (by kernel_rfl)).2
          simp only at f2
          have f9 := (hF 9 (by kernel_rfl)).2
          simp only at f9
          simp only [puts, Act.put, List.setIfInBounds_toArray, List.set_cons_succ, List.set_cons_zero, Nat.zero_add, Nat.reduceAdd]
          simp only [f0, f2, f9]
          simp only [hD, cond_false] at hS
          have e1 : (fset D 10 true) 10 = true := rfl
          go_simp
          simp only [yUpon]
          refine (store_free d t2 (k.act + 1) (z : Int) _ (hS.dev 1 rfl) HT.out.use.lim (by rw [HT.out.use.is.now]; omega)).mono ?_
          rintro e w1 ⟨rfl, hd, hkk⟩
          refine hK _ _ trivial ?_
          simp only [e1, cond_true]
          exact hS.did (i := 1) rfl hd hkk
      case fin =>
        intro D uu wf hall hS
        have f10 := (hall 10 (by simp)).1
        have v0 := (hall 0 (by simp)).2
        have v1 := (hall 1 (by simp)).2
        have v2 := (hall 2 (by simp)).2
        have v3 := (hall 3 (by simp)).2
        have v4 := (hall 4 (by simp)).2
        have v5 := (hall 5 (by simp)).2
        have v6 := (hall 6 (by simp)).2
        have v7 := (hall 7 (by simp)).2
        have v8 := (hall 8 (by simp)).2
        have v9 := (hall 9 (by simp)).2
        simp only at v0 v1 v2 v3 v4 v5 v6 v7 v8 v9
        simp only [f10, cond_true] at hS
        have HS := Lib.hid hS
        clear hall hS f10
        simp only [puts, Act.put, List.setIfInBounds_toArray, List.set_cons_succ, List.set_cons_zero, Nat.zero_add, Nat.reduceAdd]
        simp only [v0, v1, v2, v3, v4, v5, v6, v7, v8, v9]
        clear v0 v1 v2 v3 v4 v5 v6 v7 v8 v9
        have hI2 := HT.out.use.is
        have hnw3 := St.nw_store hI2 (show k.act + 1 < k.words by omega) (z : Int)
        have hI3 := hI2.store (k.act + 1) (z : Int)
        have ha3 : (t2.store (k.act + 1) (z : Int)).nw k.act = 0 := by rw [hnw3, if_neg (by omega)]; exact HT.out.use.act
        have hu3 : (t2.store (k.act + 1) (z : Int)).nw (k.act + 1) = (z : Int) := by rw [hnw3, if_pos rfl]
        have hl3 : (t2.store (k.act + 1) (z : Int)).l < 0 := HT.out.use.lim
        generalize t2.store (k.act + 1) (z : Int) = t3 at *
        have hnw4 := St.nw_store hI3 (show k.act + 1 < k.words by omega) 0
        have hI4 := hI3.store (k.act + 1) 0
        have ha4 : (t3.store (k.act + 1) 0).nw (k.act + 1) = 0 := by rw [hnw4, if_pos rfl]
        have hl4 : (t3.store (k.act + 1) 0).l < 0 := hl3
        have HI3 := Lib.hid hI3
        have HA3 := Lib.hid ha3
        have HU3 := Lib.hid hu3
        have HL3 := Lib.hid hl3
        clear hI2 hnw3 hI3 ha3 hu3 hl3
        have c0 := (HS.out.blk 4 rfl).cell 0
        simp at c0
        have c1 := (HS.out.blk 4 rfl).cell 1
        simp at c1
        have c2 := (HS.out.blk 4 rfl).cell 2
        simp at c2
        go_wp2_with fail
        refine (heap_bad d t3 k 0 (z : Int) _ (HS.out.dev 1 rfl) HK.out HI3.out.now HA3.out HU3.out (.inr (by have := HZ.out; omega))).mono ?_
        rintro e1 wb ⟨rfl, hs⟩
        replace HS := Lib.hid (HS.out.grow hs.keep)
        clear hs c0 c1 c2
        have c0 := (HS.out.blk 4 rfl).cell 0
        simp at c0
        have c1 := (HS.out.blk 4 rfl).cell 1
        simp at c1
        have c2 := (HS.out.blk 4 rfl).cell 2
        simp at c2
        go_wp2_with fail
        refine (HKU.out _).mono ?_
        rintro e1 wc ⟨rfl, hkk⟩
        replace HS := Lib.hid (HS.out.grow hkk)
        clear hkk c0 c1 c2
        go_wp2_with fail
        refine (store_free d t3 (k.act + 1) 0 _ (HS.out.dev 1 rfl) HL3.out (by rw [HI3.out.now]; omega)).mono ?_
        rintro e1 wd ⟨rfl, hd, hkk⟩
        replace HS := Lib.hid (HS.out.did (i := 1) rfl hd hkk)
        clear hd hkk HA3 HU3 HL3 HI3
        generalize t3.store (k.act + 1) 0 = t4 at *
        have hw8 : IntKind.u64.wrap (2 + (m3 : Int)) = 2 + (m3 : Int) := by rw [IntKind.wrap_u64]; omega
        have hnw5 := St.nw_store hI4 (show k.act < k.words by omega) (2 + (m3 : Int))
        have hI5 := hI4.store k.act (2 + (m3 : Int))
        have ha5 : (t4.store k.act (2 + (m3 : Int))).nw k.act = 2 + (m3 : Int) := by rw [hnw5, if_pos rfl]
        have hu5 : (t4.store k.act (2 + (m3 : Int))).nw (k.act + 1) = 0 := by rw [hnw5, if_neg (by omega)]; exact ha4
        have HI4 := Lib.hid hI4
        have HL4 := Lib.hid hl4
        have HI5 := Lib.hid hI5
        have HA5 := Lib.hid ha5
        have HU5 := Lib.hid hu5
        clear hnw4 hnw5 hI4 ha4 hl4 hI5 ha5 hu5
        have c0 := (HS.out.blk 4 rfl).cell 0
        simp at c0
        have c1 := (HS.out.blk 4 rfl).cell 1
        simp at c1
        have c2 := (HS.out.blk 4 rfl).cell 2
        simp at c2
        go_wp2_with fail
        refine (kactive k _ HK.out).mono ?_
        rintro e1 we ⟨rfl, hkk⟩
        replace HS := Lib.hid (HS.out.grow hkk)
        clear hkk c0 c1 c2
        go_wp2_with fail
        refine (store_free d t4 k.act (2 + (m3 : Int)) _ (HS.out.dev 1 rfl) HL4.out (by rw [HI4.out.now]; omega)).mono ?_
        rintro e1 wg ⟨rfl, hd, hkk⟩
        replace HS := Lib.hid (HS.out.did (i := 1) rfl hd hkk)
        clear hd hkk
        have c0 := (HS.out.blk 4 rfl).cell 0
        simp at c0
        have c1 := (HS.out.blk 4 rfl).cell 1
        simp at c1
        have c2 := (HS.out.blk 4 rfl).cell 2
        simp at c2
        go_wp2_with fail
        refine (heap_bad d _ k (2 + (m3 : Int)) 0 _ (HS.out.dev 1 rfl) HK.out HI5.out.now HA5.out HU5.out (.inl (by omega))).mono ?_
        rintro e1 wh ⟨rfl, hs⟩
        replace HS := Lib.hid (HS.out.grow hs.keep)
        clear hs c0 c1 c2
        go_wp2
        go_ret
        exact ⟨rfl, HS.out.keep⟩

theorem CheckLess.walk {v1 : Value} {w : World} (l r s : Int) (h : (lowest .u16 ≤ l ∧ l ≤ greatest .u16) ∧ (lowest .u16 ≤ r ∧ r ≤ greatest .u16) ∧ (lowest .u16 ≤ s ∧ s ≤ greatest .u16)) (hl1 : List HV) (hm1 : RdH w v1 hl1) (ho1 : ∀ x ∈ hl1, x.Ok) (hn1 : hl1.length ≤ maxLen) (a2 : Int) (a20 : lowest .u8 ≤ a2) (a21 : a2 ≤ greatest .u8) (a3 : Int) (a30 : lowest .u64 ≤ a3) (a31 : a3 ≤ greatest .u64) :
    Calls Try.prog 8 #[.agg #[.int .u16 l, .int .u16 r, .int .u16 s], v1, .int .u8 a2, .int .u64 a3] w fun e w' => e = .returned (.bool true) ∧ Below w.heap.size w w' := by
  obtain ⟨⟨l0, l1⟩, ⟨r0, r1⟩, s0, s1⟩ := h
  simp [lowest, greatest] at l0 l1 r0 r1 s0 s1 a20 a21 a30 a31
  exact (CheckLess.core l r s v1 hl1 a2 a3 w l0 l1 r0 r1 s0 s1 hm1 ho1 hn1 a20 a21 a30 a31).mono fun e w' ⟨he, hk⟩ => ⟨he, hk.below⟩
end Go.Proofs.Ythdiehcmjknhiaa
