/-
  WalkLess: the walk.
-/
import Derived.Deep.CutRange
import Derived.Test.YthdiehcmjknhiaaAwk11
set_option linter.unusedSimpArgs false
set_option linter.unusedVariables false
set_option maxRecDepth 100000
namespace Go.Proofs.Ythdiehcmjknhiaa
open Go.RowKit Go.Shelf

theorem UseS.setUsedN {t : St} {k : Kfg} {a u u' : Nat} (h : UseS t k a u) (hw : k.act + 1 < k.words) : UseS (t.store (k.act + 1) (u' : Int)) k a u' := by
  have e := St.nw_store h.is hw (u' : Int)
  refine ⟨h.is.store _ _, h.lim, ?_, ?_⟩
  · rw [e, if_neg (by omega)]; exact h.act
  · rw [e, if_pos rfl]
theorem take_filter_succ {α : Type} {l : List α} {p : α → Bool} {j : Nat} {x : α} (h : l[j]? = some x) : ((l.take (j + 1)).filter p).length = ((l.take j).filter p).length + if p x = true then 1 else 0 := by
  rw [List.take_add_one, h, List.filter_append]
  simp only [Option.toList, List.length_append]
  by_cases hp : p x = true
  · rw [if_pos hp, List.filter_cons_of_pos hp]; rfl
  · rw [if_neg hp, List.filter_cons_of_neg hp]; rfl
theorem take_any_succ {α : Type} {l : List α} {p : α → Bool} {j : Nat} {x : α} (h : l[j]? = some x) : (l.take (j + 1)).any p = ((l.take j).any p || p x) := by
  rw [List.take_add_one, h]
  simp [Option.toList]

set_option maxRecDepth 100000 in
set_option maxHeartbeats 8000000 in
theorem WalkLess.core (l r s : Int) (v1 : Value) (hl1 : List HV) (a2 : Int) (w : World) (l0 : 0 ≤ l) (l1 : l ≤ 65535) (r0 : 0 ≤ r) (r1 : r ≤ 65535) (s0 : 0 ≤ s) (s1 : s ≤ 65535) (hm1 : RdH w v1 hl1) (ho1 : ∀ x ∈ hl1, x.Ok) (hn1 : hl1.length ≤ maxLen) (a20 : 0 ≤ a2) (a21 : a2 ≤ 65535) :
    Calls Try.prog 6 #[.agg #[.int .u16 l, .int .u16 r, .int .u16 s], v1, .int .u16 a2] w fun e w' => e = .returned (.bool true) ∧ Keep w.heap.size [] w w' := by
  simp only [maxLen] at hn1
  have HS := Lib.hid ((Sep.start w []).new 24 #[.int .u16 l, .int .u16 r, .int .u16 s])
  obtain ⟨hk, hkL, hkR, hkS⟩ := kOf_ok (l := l) (r := r) (s := s) l0 r0 s0
  have hfa := fun w hm hml => filled_any l r s v1 hl1 w l0 l1 r0 r1 s0 s1 hm ho1 hml
  have hpl := placed_length ((kOf l r s).from_ 0) (kOf l r s).S hl1 0
  generalize kOf l r s = k at *
  obtain ⟨os, hos⟩ : ∃ os, placed (k.from_ 0) k.S hl1 0 = os := ⟨_, rfl⟩
  obtain ⟨u, hu⟩ : ∃ u, usedOf k.S hl1 0 = u := ⟨_, rfl⟩
  simp only [hos, hu] at hfa hpl
  have HFA := Lib.hid hfa
  have HK := Lib.hid hk
  have HM := Lib.hid hm1
  have hS8 : 8 ≤ k.S := hk.s0
  have hw2 : k.words ≤ 10000 := (Kfg.words_le hk).2
  have hw1 : k.act + 2 + k.R ≤ k.words := (Kfg.words_le hk).1
  clear hfa hk hos hu
  obtain ⟨HA, HC, hv1, hvv⟩ := hm1
  subst hv1
  clear hvv
  by_cases hb1 : 30 < hl1.length
  · have hbI : (30 : Int) < hl1.length := by omega
    go_enter Try.func6, Try.ntmps6
    go_wp2_with fail
    generalize w.alloc _ = w2 at *
    refine (awake11_any _).mono ?_
    rintro e w1 ⟨rfl, hk⟩
    replace HS := Lib.hid (HS.out.grow hk)
    clear hk
    go_wp2
    go_ret
    exact ⟨rfl, HS.out.keep⟩
  have hx2 : ((30 : Int) < hl1.length) = False := by rw [eq_iff_iff, iff_false]; omega
  have hx3 : (30 < hl1.length) = False := by rw [eq_iff_iff, iff_false]; omega
  go_enter Try.func6, Try.ntmps6
  go_wp2_with fail
  generalize w.alloc _ = w2 at *
  generalize w.heap.size = gx at *
  refine (awake11_any _).mono ?_
  rintro e w1 ⟨rfl, hk⟩
  replace HS := Lib.hid (HS.out.grow hk)
  clear hk
  have c0 := (HS.out.blk 0 rfl).cell 0
  simp at c0
  have c1 := (HS.out.blk 0 rfl).cell 1
  simp at c1
  have c2 := (HS.out.blk 0 rfl).cell 2
  simp at c2
  go_wp2_with fail
  refine (HFA.out _ (HM.out.keep HS.out.keep) (by omega)).mono ?_
  rintro e w3 ⟨d, t, rv, ov, rfl, hf, hb, hS⟩
  obtain ⟨OA, OC, hov⟩ := rowR_val (hS.row 1 rfl)
  obtain ⟨RA, RC, hrv⟩ := rowR_val (hS.row 2 rfl)
  rw [atsOf_length] at hov
  obtain ⟨rs, hrs⟩ : ∃ rs, rootsOf t k k.R = rs := ⟨_, rfl⟩
  rw [hrs] at hrv hS
  obtain ⟨RL, hRL⟩ : ∃ RL, (uw rs).length = RL := ⟨_, rfl⟩
  rw [hRL] at hrv
  subst hov hrv
  have hadds := HS.out.adds hS
  replace HS := Lib.hid hadds
  have HF := Lib.hid hf
  have HB := Lib.hid hb
  simp only [Kfg.cells, rbC]
  clear hS hadds hf hb hrs hRL c0 c1 c2 HFA HM
  go_upto_region 8 with fail
  replace HS := Lib.hid ((HS.out.new 30 #[.int .i64 (k.L : Int), .int .i64 (k.R : Int), .int .i64 (k.S : Int)]).new 33 #[.int .i64 0, .int .i64 (u : Int), .slice RA RL RC])
  simp only [World.size_alloc] at HS
  generalize (w3.alloc _).alloc _ = w4 at *
  generalize w3.heap.size = gk at *
  generalize gk + 1 = gb at *
  have hf0 : ∃ f, k.from_ 0 = f := ⟨_, rfl⟩
  obtain ⟨f, hf0⟩ := hf0
  have hfu : f + u ≤ k.words := by
    have h1 := Kfg.from_words HK.out (a := 1) (by omega)
    have h2 : k.from_ 1 = k.from_ 0 + up8 k.S := k.from_step 0
    have h3 := (up8_le k.S).1
    have h4 := HF.out.le
    omega
  have huS : u ≤ k.S := HF.out.le
  obtain ⟨q, rfl⟩ : ∃ q : Nat, a2 = (q : Int) := ⟨a2.toNat, by omega⟩
  obtain ⟨v, hv⟩ : ∃ v, q % (u + 1) = v := ⟨_, rfl⟩
  have hvu : v ≤ u := by have := Nat.mod_lt q (show 0 < u + 1 by omega); omega
  have hS1 : IntKind.i64.wrap ((u : Int) + 1) = (u : Int) + 1 := IntWalk.i64_in _ (by omega)
  have hrem : ((q : Int)).tmod ((u : Int) + 1) = (v : Int) := by rw [show (u : Int) + 1 = ((u + 1 : Nat) : Int) by omega, tmod_natN, hv]
  have hz2 : ((u : Int) + 1 = 0) = False := by simp; omega
  have hcv : IntKind.u64.wrap (v : Int) = (v : Int) := by rw [IntKind.wrap_u64]; omega
  have HF0 := Lib.hid hf0
  clear hv hf0
  have b1 := (HS.out.blk 5 rfl).cell 1
  simp at b1
  have c0 := (HS.out.blk 4 rfl).cell 0
  simp at c0
  have c1 := (HS.out.blk 4 rfl).cell 1
  simp at c1
  have c2 := (HS.out.blk 4 rfl).cell 2
  simp at c2
  go_wp2_with fail
  refine (kused k _ HK.out).mono ?_
  rintro e w5 ⟨rfl, hkk⟩
  replace HS := Lib.hid (HS.out.grow hkk)
  clear hkk c0 c1 c2 b1 hS1 hrem hz2
  go_wp2_with fail
  refine (store_free d t (k.act + 1) (v : Int) _ (HS.out.dev 1 rfl) HF.out.use.lim (by rw [HF.out.use.is.now]; omega)).mono ?_
  rintro e w6 ⟨rfl, hd, hkk⟩
  replace HS := Lib.hid (HS.out.did (i := 1) rfl hd hkk)
  have hus := HF.out.use.setUsedN (u' := v) (by omega)
  have hrg := HB.out.rng.store (k := k.act + 1) (v := (v : Int)) ⟨by omega, by omega⟩
  have hnw := St.nw_store HF.out.use.is (show k.act + 1 < k.words by omega) (v : Int)
  have hhd : ∀ o ∈ os, (t.store (k.act + 1) (v : Int)).nw o.at_ = hw (o.n : Nat) (o.b : Nat) := fun o ho => by
    have := HF.out.in_ HK.out (by decide) ho
    rw [hnw, if_neg (by omega)]
    exact HF.out.heads o ho
  have hch : Chain f os (f + u) := by have := HF.out.chain; rwa [HF0.out] at this
  have hsm : ∀ o ∈ os, o.n ≤ 8 ∧ o.b ≤ o.n := HF.out.small
  have hin : ∀ o ∈ os, o.at_ + (o.n + 1) ≤ 10000 := fun o ho => by have := HF.out.in_ HK.out (by decide) ho; omega
  generalize t.store (k.act + 1) (v : Int) = t2 at *
  clear hnw hd hkk HF HB
  have HU := Lib.hid hus
  have HRG := Lib.hid hrg
  have HHD := Lib.hid hhd
  have HCH := Lib.hid hch
  have HSM := Lib.hid hsm
  have HIN := Lib.hid hin
  clear hus hrg hhd hch hsm hin
  have c0 := (HS.out.blk 4 rfl).cell 0
  simp at c0
  have c1 := (HS.out.blk 4 rfl).cell 1
  simp at c1
  have c2 := (HS.out.blk 4 rfl).cell 2
  simp at c2
  go_wp2_with fail
  refine (rread_any d t2 k 0 v _ (HS.out.dev 1 rfl) HK.out HU.out.is.now HU.out.act HU.out.used (by decide) (by omega)).mono ?_
  rintro e w7 ⟨rv2, rfl, hkk, hrow, hnew⟩
  obtain ⟨RA2, RC2, hv2⟩ := rowR_val hrow
  subst hv2
  simp only [rbC]
  replace HS := Lib.hid (HS.out.grow hkk)
  obtain ⟨RL2, hRL2⟩ : ∃ RL2, (uw (rootsOf t2 k k.R)).length = RL2 := ⟨_, rfl⟩
  rw [hRL2]
  clear hkk hrow hnew c0 c1 c2 hRL2
  go_upto_region 13 with fail
  replace HS := Lib.hid (HS.out.new 33 #[.int .i64 0, .int .i64 (v : Int), .slice RA2 RL2 RC2])
  generalize w7.alloc _ = w8 at *
  generalize w7.heap.size = gn at *
  replace HS : Hid (Sep w [] [blkR gx 24 #[.int .u16 l, .int .u16 r, .int .u16 s], devR d (t2), rowR 3 (.slice OA os.length OC) (atsOf os), rowR 26 (.slice RA RL RC) (uw rs), blkR gk 30 #[.int .i64 (k.L : Int), .int .i64 (k.R : Int), .int .i64 (k.S : Int)], blkR gb 33 #[.int .i64 0, .int .i64 (u : Int), .slice RA RL RC], blkR gn 33 #[.int .i64 0, .int .i64 (v : Int), .slice RA2 RL2 RC2]] w8) := HS
  obtain ⟨e, he⟩ : ∃ e, f + v = e := ⟨_, rfl⟩
  have heI : (f : Int) + (v : Int) = (e : Int) := by omega
  have hew : IntKind.i64.wrap ((f : Int) + (v : Int)) = (e : Int) := by rw [IntWalk.i64_in _ (by omega)]; omega
  have hfr := fun w => kfrom k w HK.out 0 (by decide)
  rw [HF0.out] at hfr
  have HFR := Lib.hid hfr
  have hosl : os.length ≤ 1000 := by omega
  have hv0 : ((v : Int) == 0) = decide (v = 0) := by by_cases h : v = 0 <;> simp [h]
  have hv0' : decide ((v : Int) = 0) = decide (v = 0) := by by_cases h : v = 0 <;> simp [h]
  obtain ⟨z0, hz0⟩ : ∃ z0, decide (v = 0) = z0 := ⟨_, rfl⟩
  have HZ0 := Lib.hid hz0
  rw [hz0] at hv0 hv0'
  clear hfr hz0
  obtain ⟨fit, hfit⟩ : ∃ fit : Ob → Bool, fit = fun o => decide (o.at_ + (o.n + 1) ≤ e) := ⟨_, rfl⟩
  obtain ⟨bnd, hbnd⟩ : ∃ bnd : Ob → Bool, bnd = fun o => decide (o.at_ + (o.n + 1) = e) := ⟨_, rfl⟩
  have HFIT := Lib.hid hfit
  have HBND := Lib.hid hbnd
  have HE := Lib.hid he
  clear hfit hbnd
  go_wp2_with fail
  clear hv0 hv0'
  go_loopw [14, 15, 17, 18, 19, 60] (fun v14 v15 _ _ _ v60 wr => ∃ (j : Nat), j ≤ os.length ∧ v60 = .int .i64 (j : Int) ∧ v14 = .bool (z0 || (os.take j).any bnd) ∧ v15 = .int .i64 (((os.take j).filter fit).length : Int) ∧ Sep w [] [blkR gx 24 #[.int .u16 l, .int .u16 r, .int .u16 s], devR d (t2), rowR 3 (.slice OA os.length OC) (atsOf os), rowR 26 (.slice RA RL RC) (uw rs), blkR gk 30 #[.int .i64 (k.L : Int), .int .i64 (k.R : Int), .int .i64 (k.S : Int)], blkR gb 33 #[.int .i64 0, .int .i64 (u : Int), .slice RA RL RC], blkR gn 33 #[.int .i64 0, .int .i64 (v : Int), .slice RA2 RL2 RC2]] wr) (fun _ _ _ _ _ v60 _ => os.length - (intOf v60).toNat)
  case atStart => exact ⟨0, by omega, rfl, by simp, by simp, HS.out⟩
  case round =>
    clear HS
    obtain ⟨j, hj, rfl, rfl, rfl, hs⟩ := hrel
    have HS := Lib.hid hs
    clear hs
    obtain ⟨en, hen⟩ : ∃ en, (z0 || (os.take j).any bnd) = en := ⟨_, rfl⟩
    obtain ⟨mn, hmn⟩ : ∃ mn, ((os.take j).filter fit).length = mn := ⟨_, rfl⟩
    have hmnl : mn ≤ 1000 := by rw [← hmn]; have h1 := List.length_filter_le fit (os.take j); have h2 := List.length_take_le j os; omega
    rw [hen, hmn]
    by_cases hlt : j < os.length
    · have hltI : (j : Int) < (os.length : Int) := by omega
      obtain ⟨ob, hob⟩ : ∃ ob, os[j]? = some ob := ⟨_, List.getElem?_eq_getElem (by omega)⟩
      have hmem := List.mem_of_getElem? hob
      have hrow : wr.ownsRow 0 3 1 (.slice OA os.length OC) (atsOf os).length (atsOf os) := HS.out.row 2 rfl
      obtain ⟨g, hOA, ha0⟩ : ∃ g, OA = some ⟨g, 0, none⟩ ∧ wr.cell? ⟨g, j, none⟩ = some (.int .i64 (ob.at_ : Int)) := by
        rcases hrow.2 with ⟨hv, h0⟩ | ⟨g, cap, cur, hv, _⟩
        · rw [atsOf_length] at h0; omega
        · injection hv with e1 e2 e3
          refine ⟨g, e1, ?_⟩
          subst e1
          have := hrow.cells (g := g) rfl j (.int .i64 (ob.at_ : Int)) (by simp [atsOf, hob])
          rwa [show (⟨g, 0, none⟩ : Addr).add j = ⟨g, j, none⟩ by unfold Addr.add; split <;> simp_all] at this
      subst hOA
      clear hrow
      have ht1 := take_any_succ (p := bnd) hob
      have ht2 := take_filter_succ (p := fit) hob
      rw [hmn] at ht2
      have ht3 : (z0 || (os.take (j + 1)).any bnd) = (en || bnd ob) := by rw [ht1, ← hen, Bool.or_assoc]
      have HT2 := Lib.hid ht2
      have HT3 := Lib.hid ht3
      have hhd := HHD.out ob hmem
      have hsm := HSM.out ob hmem
      have hin := HIN.out ob hmem
      have hcm := HCH.out.mem hmem
      have hfb : fit ob = decide (ob.at_ + (ob.n + 1) ≤ e) := by rw [HFIT.out]
      have hbb : bnd ob = decide (ob.at_ + (ob.n + 1) = e) := by rw [HBND.out]
      rw [hfb] at HT2
      rw [hbb] at HT3
      clear ht1 ht2 ht3 hob hmem hen hmn hfb hbb
      obtain ⟨at_, m, b⟩ := ob
      simp only at hhd hsm hin hcm ha0 HT2 HT3
      have hof := fun w (hd : Dev w d t2) => of_yes d t2 k 0 u at_ (k.from_ 0 + u) _ (m : Int) (b : Int) (.slice RA RL RC) w hd HK.out (by decide) huS (by rw [HF0.out]; omega) rfl hhd (hw_wd (by omega) hsm.2).1 (hw_wd (by omega) hsm.2).2 (headOf_hw ⟨by omega, by omega, by omega, by omega⟩) (by rw [HF0.out]; omega)
      simp only [Kfg.cells, rbC] at hof
      have HOF := Lib.hid hof
      obtain ⟨hm8, hbm⟩ := hsm
      clear hof hhd
      have c0 := (HS.out.blk 4 rfl).cell 0
      simp at c0
      have c1 := (HS.out.blk 4 rfl).cell 1
      simp at c1
      have c2 := (HS.out.blk 4 rfl).cell 2
      simp at c2
      have b0 := (HS.out.blk 5 rfl).cell 0
      simp at b0
      have b1 := (HS.out.blk 5 rfl).cell 1
      simp at b1
      have b2 := (HS.out.blk 5 rfl).cell 2
      simp at b2
      go_wp2_with fail
      refine (HOF.out _ (HS.out.dev 1 rfl)).mono ?_
      rintro e1 wa ⟨rfl, hkk⟩
      replace HS := Lib.hid (HS.out.grow hkk)
      clear hkk c0 c1 c2 b0 b1 b2 HOF ha0
      go_upto_region 19 with fail
      replace HS := Lib.hid (HS.out.new 44 #[.int .i64 (m : Int), .int .i64 (b : Int), .int .i64 (at_ : Int)])
      generalize wa.alloc _ = wb at *
      generalize wa.heap.size = go at *
      have hsz := fun w => hsize_eq (m : Int) (b : Int) ((m : Int) + 1) w (by omega) (by omega) rfl
      have HSZ := Lib.hid hsz
      obtain ⟨q2, hq2⟩ : ∃ q2, at_ + (m + 1) = q2 := ⟨_, rfl⟩
      rw [hq2] at HT2 HT3 hin
      have hq3 : (at_ : Int) + ((m : Int) + 1) = (q2 : Int) := by omega
      have hq4 : IntKind.i64.wrap ((at_ : Int) + ((m : Int) + 1)) = (q2 : Int) := by rw [IntWalk.i64_in _ (by omega)]; exact hq3
      clear hsz hq2 hcm hm8 hbm
      have c0 : ∀ x : Ext wb, x.now.cell? ⟨gk, 0, none⟩ = some (.int .i64 (k.L : Int)) := fun x => x.cell (by simpa using (HS.out.blk 4 rfl).cell 0)
      have c1 : ∀ x : Ext wb, x.now.cell? ⟨gk, 1, none⟩ = some (.int .i64 (k.R : Int)) := fun x => x.cell (by simpa using (HS.out.blk 4 rfl).cell 1)
      have c2 : ∀ x : Ext wb, x.now.cell? ⟨gk, 2, none⟩ = some (.int .i64 (k.S : Int)) := fun x => x.cell (by simpa using (HS.out.blk 4 rfl).cell 2)
      have o0 : ∀ x : Ext wb, x.now.cell? ⟨go, 0, none⟩ = some (.int .i64 (m : Int)) := fun x => x.cell (by simpa using (HS.out.blk 7 rfl).cell 0)
      have o1 : ∀ x : Ext wb, x.now.cell? ⟨go, 1, none⟩ = some (.int .i64 (b : Int)) := fun x => x.cell (by simpa using (HS.out.blk 7 rfl).cell 1)
      have o2 : ∀ x : Ext wb, x.now.cell? ⟨go, 2, none⟩ = some (.int .i64 (at_ : Int)) := fun x => x.cell (by simpa using (HS.out.blk 7 rfl).cell 2)
      by_cases hle : q2 ≤ e
      · have hleI : (q2 : Int) ≤ (e : Int) := by omega
        rw [decide_eq_true hle, if_pos rfl] at HT2
        refine wp_region_ext (by kernel_rfl) (by kernel_rfl) ?_
        repeat (go_big_quiet_step ((first | (go_at_call 24; with_reducible exact Calls.ext (HSZ.out _)) | (go_at_call 18; with_reducible exact Calls.ext (HFR.out _)))))
        refine wpQuiet_nil ?_
        rintro _ ⟨x, rfl⟩
        replace HS := Lib.hid (HS.out.grow x.keep)
        generalize x.now = wc at *
        clear c0 c1 c2 o0 o1 o2 x
        have c0 : ∀ x : Ext wc, x.now.cell? ⟨gk, 0, none⟩ = some (.int .i64 (k.L : Int)) := fun x => x.cell (by simpa using (HS.out.blk 4 rfl).cell 0)
        have c1 : ∀ x : Ext wc, x.now.cell? ⟨gk, 1, none⟩ = some (.int .i64 (k.R : Int)) := fun x => x.cell (by simpa using (HS.out.blk 4 rfl).cell 1)
        have c2 : ∀ x : Ext wc, x.now.cell? ⟨gk, 2, none⟩ = some (.int .i64 (k.S : Int)) := fun x => x.cell (by simpa using (HS.out.blk 4 rfl).cell 2)
        have o0 : ∀ x : Ext wc, x.now.cell? ⟨go, 0, none⟩ = some (.int .i64 (m : Int)) := fun x => x.cell (by simpa using (HS.out.blk 7 rfl).cell 0)
        have o1 : ∀ x : Ext wc, x.now.cell? ⟨go, 1, none⟩ = some (.int .i64 (b : Int)) := fun x => x.cell (by simpa using (HS.out.blk 7 rfl).cell 1)
        have o2 : ∀ x : Ext wc, x.now.cell? ⟨go, 2, none⟩ = some (.int .i64 (at_ : Int)) := fun x => x.cell (by simpa using (HS.out.blk 7 rfl).cell 2)
        go_upto_region 21 with fail
        have hmw : IntKind.i64.wrap ((mn : Int) + 1) = (mn : Int) + 1 := IntWalk.i64_in _ (by omega)
        cases en with
        | true =>
          refine wp_region_ext (by kernel_rfl) (by kernel_rfl) ?_
          repeat (go_big_quiet_step ((first | (go_at_call 24; with_reducible exact Calls.ext (HSZ.out _)) | (go_at_call 18; with_reducible exact Calls.ext (HFR.out _)))))
          refine wpQuiet_nil ?_
          rintro _ ⟨x, rfl⟩
          replace HS := Lib.hid (HS.out.grow x.keep)
          clear c0 c1 c2 o0 o1 o2
          go_wp2
          refine ⟨?_, by simp [intOf]; omega⟩
          iterate 47 apply Exists.intro
          refine And.intro ?_ rfl
          exact ⟨j + 1, by omega, by first | rfl | go_num | simp, by rw [HT3.out]; rfl, by rw [HT2.out]; first | rfl | go_num | simp, HS.out.take 7⟩
        | false =>
          have hbe : ((q2 : Int) == (e : Int)) = decide (q2 = e) := by rw [Bool.eq_iff_iff, beq_iff_eq, decide_eq_true_iff]; omega
          have hbe2 : decide ((q2 : Int) = (e : Int)) = decide (q2 = e) := by rw [Bool.eq_iff_iff, decide_eq_true_iff, decide_eq_true_iff]; omega
          obtain ⟨zz, hzz⟩ : ∃ zz, decide (q2 = e) = zz := ⟨_, rfl⟩
          rw [hzz] at hbe hbe2 HT3
          clear hzz
          refine wp_region_ext (by kernel_rfl) (by kernel_rfl) ?_
          repeat (go_big_quiet_step ((first | (go_at_call 24; with_reducible exact Calls.ext (HSZ.out _)) | (go_at_call 18; with_reducible exact Calls.ext (HFR.out _)))))
          refine wpQuiet_nil ?_
          rintro _ ⟨x, rfl⟩
          replace HS := Lib.hid (HS.out.grow x.keep)
          clear c0 c1 c2 o0 o1 o2
          go_wp2
          refine ⟨?_, by simp [intOf]; omega⟩
          iterate 47 apply Exists.intro
          refine And.intro ?_ rfl
          exact ⟨j + 1, by omega, by first | rfl | go_num | simp, by rw [HT3.out]; first | rfl | simp, by rw [HT2.out]; first | rfl | go_num | simp, HS.out.take 7⟩
      · have hleI : ¬ (q2 : Int) ≤ (e : Int) := by omega
        rw [decide_eq_false hle, if_neg (by decide)] at HT2
        rw [decide_eq_false (show ¬ q2 = e by omega), Bool.or_false] at HT3
        refine wp_region_ext (by kernel_rfl) (by kernel_rfl) ?_
        repeat (go_big_quiet_step ((first | (go_at_call 24; with_reducible exact Calls.ext (HSZ.out _)) | (go_at_call 18; with_reducible exact Calls.ext (HFR.out _)))))
        refine wpQuiet_nil ?_
        rintro _ ⟨x, rfl⟩
        replace HS := Lib.hid (HS.out.grow x.keep)
        clear c0 c1 c2 o0 o1 o2
        go_wp2
        exact ⟨⟨_, _, _, _, _, _, ⟨j + 1, by omega, by first | rfl | go_num | simp, by rw [HT3.out], by rw [HT2.out]; rfl, HS.out.take 7⟩, rfl, rfl, rfl, rfl, rfl, rfl⟩, by simp [intOf]; omega⟩
    · have hltI : ¬ (j : Int) < (os.length : Int) := by omega
      have hjl : os.take j = os := by rw [List.take_of_length_le (by omega)]
      rw [hjl] at hen hmn
      obtain ⟨its, hits⟩ : ∃ its, scan t2 e f = its := ⟨_, rfl⟩
      obtain ⟨lt, hlt1, hlt2⟩ := scan_cut (t := t2) (e := e) HCH.out (by have := HE.out; omega) (by have := HE.out; omega) HHD.out (fun o ho => by have := HSM.out o ho; omega)
      have hpw := scan_rise t2 e f
      rw [hits] at hlt1 hpw
      have hz0 := HZ0.out
      have hcnt : (its.filter fun x => decide (x.err = 0)).length = mn ∧ errAt its = if en = true then 0 else 8 := by
        have h0 : (os.filter fun o => decide (o.at_ + (o.n + 1) ≤ e)).length = mn := by rw [← hmn, HFIT.out]
        have hb : (f = e ∨ ∃ o ∈ os, o.at_ + (o.n + 1) = e) ↔ en = true := by
          rw [← hen, ← hz0, Bool.or_eq_true, decide_eq_true_iff, List.any_eq_true, HBND.out]
          have := HE.out
          constructor
          · rintro (h | ⟨o, h1, h2⟩)
            · exact .inl (by omega)
            · exact .inr ⟨o, h1, by simpa using h2⟩
          · rintro (h | ⟨o, h1, h2⟩)
            · exact .inl (by omega)
            · exact .inr ⟨o, h1, by simpa using h2⟩
        rw [hb] at hlt2
        have hmap : (((os.filter fun o => decide (o.at_ + (o.n + 1) ≤ e)).map (fun o => (⟨o.at_, o.n, o.b, 0⟩ : It))).filter fun x => decide (x.err = 0)) = (os.filter fun o => decide (o.at_ + (o.n + 1) ≤ e)).map (fun o => (⟨o.at_, o.n, o.b, 0⟩ : It)) := by
          rw [List.filter_eq_self]
          intro x hx
          obtain ⟨o, _, rfl⟩ := List.mem_map.1 hx
          rfl
        rcases hlt2 with ⟨rfl, h⟩ | ⟨⟨x, rfl⟩, h⟩
        · rw [List.append_nil] at hlt1
          refine ⟨by rw [hlt1, hmap, List.length_map, h0], ?_⟩
          rw [if_pos h, ← hits]
          refine errAt_zero fun x hx => ?_
          rw [hits, hlt1] at hx
          obtain ⟨o, _, rfl⟩ := List.mem_map.1 hx
          rfl
        · refine ⟨by rw [hlt1, List.filter_append, hmap, List.length_append, List.length_map, h0]; simp, ?_⟩
          rw [if_neg h, hlt1]
          unfold errAt
          simp
      obtain ⟨hc1, hc2⟩ := hcnt
      have HPW := Lib.hid hpw
      have HC1 := Lib.hid hc1
      have HC2 := Lib.hid hc2
      have HITS := Lib.hid hits
      clear hits hlt1 hlt2 hpw hc1 hc2 hz0 hen hmn hjl
      have c0 := (HS.out.blk 4 rfl).cell 0
      simp at c0
      have c1 := (HS.out.blk 4 rfl).cell 1
      simp at c1
      have c2 := (HS.out.blk 4 rfl).cell 2
      simp at c2
      have b0 := (HS.out.blk 6 rfl).cell 0
      simp at b0
      have b1 := (HS.out.blk 6 rfl).cell 1
      simp at b1
      have b2 := (HS.out.blk 6 rfl).cell 2
      simp at b2
      go_wp2_with fail
      refine (starts_any d t2 k 0 v e f RA2 RL2 RC2 _ (HS.out.dev 1 rfl) HK.out (by decide) (by omega) HF0.out HE.out HRG.out).mono ?_
      rintro e1 wa ⟨mr, rfl, hS⟩
      rw [HITS.out] at hS ⊢
      replace HS := Lib.hid (HS.out.adds hS)
      clear hS c0 c1 c2 b0 b1 b2
      have him : IMap wa mr .i64 (mapOf its) := HS.out.all 7 _ rfl
      have hln := map_len (P := Try.prog) (T := 50) (ty := 3) him u_starts _ (mapOf_nodup HPW.out) (mapOf_some HPW.out)
      rw [List.length_map, HC1.out] at hln
      rw [HC2.out]
      clear him
      cases en with
      | true =>
        rw [if_pos rfl]
        go_wp2
        go_ret
        exact ⟨rfl, HS.out.keep⟩
      | false =>
        rw [if_neg (by decide)]
        go_wp2
        go_ret
        exact ⟨rfl, HS.out.keep⟩

theorem WalkLess.walk {v1 : Value} {w : World} (l r s : Int) (h : (lowest .u16 ≤ l ∧ l ≤ greatest .u16) ∧ (lowest .u16 ≤ r ∧ r ≤ greatest .u16) ∧ (lowest .u16 ≤ s ∧ s ≤ greatest .u16)) (hl1 : List HV) (hm1 : RdH w v1 hl1) (ho1 : ∀ x ∈ hl1, x.Ok) (hn1 : hl1.length ≤ maxLen) (a2 : Int) (a20 : lowest .u16 ≤ a2) (a21 : a2 ≤ greatest .u16) :
    Calls Try.prog 6 #[.agg #[.int .u16 l, .int .u16 r, .int .u16 s], v1, .int .u16 a2] w fun e w' => e = .returned (.bool true) ∧ Below w.heap.size w w' := by
  obtain ⟨⟨l0, l1⟩, ⟨r0, r1⟩, s0, s1⟩ := h
  simp [lowest, greatest] at l0 l1 r0 r1 s0 s1 a20 a21
  exact (WalkLess.core l r s v1 hl1 a2 w l0 l1 r0 r1 s0 s1 hm1 ho1 hn1 a20 a21).mono fun e w' ⟨he, hk⟩ => ⟨he, hk.below⟩
end Go.Proofs.Ythdiehcmjknhiaa
