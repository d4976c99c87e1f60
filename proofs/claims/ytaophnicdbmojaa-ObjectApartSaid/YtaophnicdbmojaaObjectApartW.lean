/-
  ObjectApart: the walk.
-/
import Derived.Test.YtaophnicdbmojaaAwk10
import Derived.Test.YtaophnicdbmojaaRng
import Derived.Test.YtaophnicdbmojaaObjR
import Derived.Test.YtaophnicdbmojaaOpenT
import Derived.Test.YtaophnicdbmojaaKMap
set_option linter.unusedSimpArgs false
set_option linter.unusedVariables false
set_option maxRecDepth 100000
namespace Go.Proofs.Ytaophnicdbmojaa
open Go.RowKit Go.Shelf

def kmapR (g : Nat) (m : Int → Option Value) : Res := ⟨[g], fun w => KMap w g kPair m, fun w h k hk => by simp at hk; subst hk; exact h.lt, fun w w' h e => h.same (e g (by simp))⟩
theorem tmod_m (a n : Nat) : ((a : Int)).tmod (n : Int) = ((a % n : Nat) : Int) := by
  rw [Int.tmod_eq_emod_of_nonneg (by omega)]; simp
theorem u_fields : Try.prog.underlying 91 = some (.map 95 3) := by kernel_rfl
/-- What stands in the objects' fields is what the map holds. -/
structure ApartS (t : St) (k : Kfg) (os : List Ob) (u : Nat) (M : Int → Option Value) : Prop where
  fill : FillS t k 0 os u
  rng : t.rng
  vals : ∀ o ∈ os, ∀ i, i < o.n → ∃ x : Int, 0 ≤ x ∧ x ≤ 255 ∧ t.nw (o.at_ + 1 + i) = x ∧ (M ((o.at_ : Int) * 8 + (i : Int))).getD (.int .i64 0) = .int .i64 x
theorem ApartS.set {t : St} {k : Kfg} {os : List Ob} {u : Nat} {M : Int → Option Value} (h : ApartS t k os u M) (hk : k.Ok) {o : Ob} (ho : o ∈ os) {i q : Nat} (hi : i < o.n) (hq : o.at_ + 1 + i = q) {x : Int} (h0 : 0 ≤ x) (h1 : x ≤ 255) :
    ApartS (t.store q x) k os u (mset M ((o.at_ : Int) * 8 + (i : Int)) (.int .i64 x)) := by
  have hin := h.fill.in_ hk (by decide) ho
  have hsm := h.fill.small o ho
  have e := St.nw_store h.fill.use.is (show q < k.words by omega) x
  have far : ∀ o' ∈ os, q ≠ o'.at_ := fun o' ho' => by
    rcases h.fill.chain.apart ho ho' with rfl | h1 | h1 <;> omega
  have sep : ∀ o' ∈ os, ∀ i', i' < o'.n → o'.at_ + 1 + i' = q → o' = o ∧ i' = i := fun o' ho' i' hi' hq' => by
    rcases h.fill.chain.apart ho ho' with rfl | h1 | h1
    · exact ⟨rfl, by omega⟩
    · omega
    · omega
  refine ⟨⟨⟨h.fill.use.is.store _ _, h.fill.use.lim, ?_, ?_⟩, h.fill.le, h.fill.chain, h.fill.small, ?_⟩, h.rng.store ⟨h0, by omega⟩, ?_⟩
  · rw [e, if_neg (by omega)]; exact h.fill.use.act
  · rw [e, if_neg (by omega)]; exact h.fill.use.used
  · intro o' ho'
    rw [e, if_neg (fun h2 => far o' ho' h2.symm)]
    exact h.fill.heads o' ho'
  · intro o' ho' i' hi'
    have hsm' := h.fill.small o' ho'
    by_cases h2 : o'.at_ + 1 + i' = q
    · obtain ⟨rfl, rfl⟩ := sep o' ho' i' hi' h2
      exact ⟨x, h0, h1, by rw [e, if_pos h2], by simp [mset]⟩
    · obtain ⟨y, y0, y1, y2, y3⟩ := h.vals o' ho' i' hi'
      refine ⟨y, y0, y1, by rw [e, if_neg h2]; exact y2, ?_⟩
      unfold mset
      rw [if_neg]
      · exact y3
      · intro e2
        have : o'.at_ = o.at_ ∧ i' = i := by omega
        rcases h.fill.chain.apart ho ho' with rfl | h1 | h1 <;> omega
set_option maxRecDepth 100000 in
set_option maxHeartbeats 8000000 in
theorem ObjectApart.core (l r s : Int) (v1 : Value) (hl1 : List HV) (v2 : Value) (hl2 : List TV) (w : World) (l0 : 0 ≤ l) (l1 : l ≤ 65535) (r0 : 0 ≤ r) (r1 : r ≤ 65535) (s0 : 0 ≤ s) (s1 : s ≤ 65535) (hm1 : RdH w v1 hl1) (ho1 : ∀ x ∈ hl1, x.Ok) (hn1 : hl1.length ≤ maxLen) (hm2 : RdT w v2 hl2) (ho2 : ∀ x ∈ hl2, x.Ok) (hn2 : hl2.length ≤ maxLen) :
    Calls Try.prog 13 #[.agg #[.int .u16 l, .int .u16 r, .int .u16 s], v1, v2] w fun e w' => e = .returned (.bool true) ∧ Keep w.heap.size [] w w' := by
  simp only [maxLen] at hn1 hn2
  have HS := Lib.hid ((Sep.start w []).new 24 #[.int .u16 l, .int .u16 r, .int .u16 s])
  have HM2 := Lib.hid hm2
  have HO2 := Lib.hid ho2
  obtain ⟨hk, hkL, hkR, hkS⟩ := kOf_ok (l := l) (r := r) (s := s) l0 r0 s0
  have hfa := fun w hm hml => filled_any l r s v1 hl1 w l0 l1 r0 r1 s0 s1 hm ho1 hml
  have hpl := placed_length ((kOf l r s).from_ 0) (kOf l r s).S hl1 0
  generalize kOf l r s = k at *
  obtain ⟨os, hos⟩ : ∃ os, placed (k.from_ 0) k.S hl1 0 = os := ⟨_, rfl⟩
  obtain ⟨u, hu⟩ : ∃ u, usedOf k.S hl1 0 = u := ⟨_, rfl⟩
  simp only [hos, hu] at hfa hpl
  have HFA := Lib.hid hfa
  have HK := Lib.hid hk
  have HM := Lib.hid hm1
  have hS8 : 8 ≤ k.S := hk.s0
  have hw2 : k.words ≤ 10000 := (Kfg.words_le hk).2
  have hw1 : k.act + 2 + k.R ≤ k.words := (Kfg.words_le hk).1
  clear hfa hk hos hu
  obtain ⟨HA, HC, hv1, hvv⟩ := hm1
  subst hv1
  clear hvv
  obtain ⟨TA_, TC, hv2, hvv⟩ := hm2
  subst hv2
  clear hvv ho2
  go_enter Try.func13, Try.ntmps13
  go_wp2_with fail
  generalize w.alloc _ = w2 at *
  generalize w.heap.size = gx at *
  refine (awake10_any _).mono ?_
  rintro e w1 ⟨rfl, hk⟩
  replace HS := Lib.hid (HS.out.grow hk)
  clear hk
  by_cases hb1 : 20 < hl1.length
  · have hbI : (20 : Int) < hl1.length := by omega
    go_wp2
    go_ret
    exact ⟨rfl, HS.out.keep⟩
  have hx2 : ((20 : Int) < hl1.length) = False := by rw [eq_iff_iff, iff_false]; omega
  have hx3 : (20 < hl1.length) = False := by rw [eq_iff_iff, iff_false]; omega
  by_cases hb2 : 60 < hl2.length
  · have hbI : (60 : Int) < hl2.length := by omega
    go_wp2
    go_ret
    exact ⟨rfl, HS.out.keep⟩
  have hx4 : ((60 : Int) < hl2.length) = False := by rw [eq_iff_iff, iff_false]; omega
  have hx5 : (60 < hl2.length) = False := by rw [eq_iff_iff, iff_false]; omega
  have c0 := (HS.out.blk 0 rfl).cell 0
  simp at c0
  have c1 := (HS.out.blk 0 rfl).cell 1
  simp at c1
  have c2 := (HS.out.blk 0 rfl).cell 2
  simp at c2
  go_wp2_with fail
  refine (HFA.out _ (HM.out.keep HS.out.keep) (by omega)).mono ?_
  rintro e w3 ⟨d, t, rv, ov, rfl, hf, hb, hS⟩
  obtain ⟨OA, OC, hov⟩ := rowR_val (hS.row 1 rfl)
  obtain ⟨RA, RC, hrv⟩ := rowR_val (hS.row 2 rfl)
  rw [atsOf_length] at hov
  obtain ⟨rs, hrs⟩ : ∃ rs, rootsOf t k k.R = rs := ⟨_, rfl⟩
  rw [hrs] at hrv hS
  obtain ⟨RL, hRL⟩ : ∃ RL, (uw rs).length = RL := ⟨_, rfl⟩
  rw [hRL] at hrv
  subst hov hrv
  have hadds := HS.out.adds hS
  replace HS := Lib.hid hadds
  have HF := Lib.hid hf
  have HB := Lib.hid hb
  simp only [Kfg.cells, rbC]
  clear hS hadds hf hb hrs hRL c0 c1 c2 HFA HM
  simp only [show ((0 : Nat) : Int) = (0 : Int) from rfl]
  go_upto_region 6 with fail
  replace HS := Lib.hid ((HS.out.new 29 #[.int .i64 (k.L : Int), .int .i64 (k.R : Int), .int .i64 (k.S : Int)]).new 39 #[.int .i64 0, .int .i64 (u : Int), .slice RA RL RC])
  simp only [World.size_alloc] at HS
  generalize (w3.alloc _).alloc _ = w4 at *
  generalize w3.heap.size = gk at *
  generalize gk + 1 = gb at *
  clear hx2 hx3 hx4 hx5
  by_cases hos0 : os.length = 0
  · have hosI : ((os.length : Int) = 0) = True := by rw [eq_iff_iff, iff_true]; omega
    go_wp2
    go_ret
    exact ⟨rfl, HS.out.keep⟩
  have hosI : ((os.length : Int) = 0) = False := by rw [eq_iff_iff, iff_false]; omega
  have hosB : ((os.length : Int) == 0) = false := by rw [beq_eq_false_iff_ne]; omega
  have hap : ApartS t k os u (fun _ => none) := ⟨HF.out, HB.out.rng, fun o ho i hi => ⟨0, by decide, by decide, HB.out.body o ho i hi, rfl⟩⟩
  have HAP := Lib.hid hap
  clear hap HF HB
  have hmm := @run_makeMap Try.prog
  go_upto_region 9 with fail
  clear hmm
  replace HS : Hid (Sep w [] ([blkR gx 24 #[.int .u16 l, .int .u16 r, .int .u16 s], devR d (t), rowR 3 (.slice OA os.length OC) (atsOf os), rowR 25 (.slice RA RL RC) (uw rs), blkR gk 29 #[.int .i64 (k.L : Int), .int .i64 (k.R : Int), .int .i64 (k.S : Int)], blkR gb 39 #[.int .i64 0, .int .i64 (u : Int), .slice RA RL RC], kmapR w4.heap.size (fun _ => none)]) (w4.alloc (.map #[] 0))) := Lib.hid (HS.out.add ((Keep.refl _ _ _).alloc (Nat.le_refl _) _) (r := kmapR w4.heap.size (fun _ => none)) (KMap.new w4 kPair) (by simp [kmapR]))
  generalize w4.alloc _ = w5 at *
  generalize w4.heap.size = gm at *
  have hosl : os.length ≤ 20 := by omega
  go_wp2_with fail
  clear hosI hosB
  go_loopw [56] (fun v56 wr => ∃ (j : Nat) (t' : St) (M : Int → Option Value), j ≤ hl2.length ∧ v56 = .int .i64 (j : Int) ∧ ApartS t' k os u M ∧ Sep w [] ([blkR gx 24 #[.int .u16 l, .int .u16 r, .int .u16 s], devR d (t'), rowR 3 (.slice OA os.length OC) (atsOf os), rowR 25 (.slice RA RL RC) (uw rs), blkR gk 29 #[.int .i64 (k.L : Int), .int .i64 (k.R : Int), .int .i64 (k.S : Int)], blkR gb 39 #[.int .i64 0, .int .i64 (u : Int), .slice RA RL RC], kmapR gm (M)]) wr) (fun v56 _ => hl2.length - (intOf v56).toNat)
  case atStart => exact ⟨0, t, _, by omega, rfl, HAP.out, HS.out⟩
  case round =>
    clear HS HAP
    obtain ⟨j, t', M, hj, rfl, hap, hs⟩ := hrel
    have HS := Lib.hid hs
    have HAP := Lib.hid hap
    clear hs hap
    by_cases hjt : j < hl2.length
    · have hjI : (j : Int) < (hl2.length : Int) := by omega
      obtain ⟨x, hx⟩ : ∃ x, hl2[j]? = some x := ⟨_, List.getElem?_eq_getElem hjt⟩
      have hxo := HO2.out x (List.mem_of_getElem? hx)
      obtain ⟨A', c', hA, hcs⟩ := HM2.out.keep HS.out.keep
      injection hA with e1 e2 e3
      subst e1
      obtain ⟨g2, off, hg2, k0, k1, k2⟩ := hcs j x hx
      subst hg2
      obtain ⟨xa, xb, xc⟩ := x
      obtain ⟨a0, a1, b0, b1, c0, c1⟩ := hxo
      simp only at a0 a1 b0 b1 c0 c1 k0 k1 k2
      rw [show off + 3 * j = off + j * 3 by omega] at k0
      rw [show off + (3 * j + 1) = off + j * 3 + 1 by omega] at k1
      rw [show off + (3 * j + 2) = off + j * 3 + 2 by omega] at k2
      obtain ⟨pj, hpj⟩ : ∃ pj, xa.toNat % os.length = pj := ⟨_, rfl⟩
      have hjl : pj < os.length := by rw [← hpj]; exact Nat.mod_lt _ (by omega)
      have hjr : (xa).tmod (os.length : Int) = (pj : Int) := by
        obtain ⟨q, rfl⟩ : ∃ q : Nat, xa = (q : Int) := ⟨xa.toNat, by omega⟩
        rw [tmod_m]
        simp only [Int.toNat_natCast] at hpj
        rw [hpj]
      obtain ⟨i, hi⟩ : ∃ i, xb.toNat % 8 = i := ⟨_, rfl⟩
      have hi8 : i < 8 := by omega
      have hir : (xb).tmod 8 = (i : Int) := by
        obtain ⟨q, rfl⟩ : ∃ q : Nat, xb = (q : Int) := ⟨xb.toNat, by omega⟩
        rw [show (8 : Int) = ((8 : Nat) : Int) from rfl, tmod_m]
        simp only [Int.toNat_natCast] at hi
        rw [hi]
      have hwa : IntKind.i64.wrap xa = xa := IntWalk.i64_in _ (by omega)
      have hwc : IntKind.i64.wrap xc = xc := IntWalk.i64_in _ (by omega)
      have hwc2 : IntKind.u64.wrap xc = xc := by rw [IntKind.wrap_u64]; omega
      have hwi : IntKind.i64.wrap (i : Int) = (i : Int) := IntWalk.i64_in _ (by omega)
      clear hpj hi hx hcs e2 e3
      obtain ⟨ob, hob⟩ : ∃ ob, os[pj]? = some ob := ⟨_, List.getElem?_eq_getElem (by omega)⟩
      have hmem := List.mem_of_getElem? hob
      have hrow : wr.ownsRow 0 3 1 (.slice OA os.length OC) (atsOf os).length (atsOf os) := HS.out.row 2 rfl
      obtain ⟨g, hOA, ha0⟩ : ∃ g, OA = some ⟨g, 0, none⟩ ∧ wr.cell? ⟨g, pj, none⟩ = some (.int .i64 (ob.at_ : Int)) := by
        rcases hrow.2 with ⟨hv, h0⟩ | ⟨g, cap, cur, hv, _⟩
        · rw [atsOf_length] at h0; omega
        · injection hv with e1 e2 e3
          refine ⟨g, e1, ?_⟩
          subst e1
          have := hrow.cells (g := g) rfl pj (.int .i64 (ob.at_ : Int)) (by simp [atsOf, hob])
          rwa [show (⟨g, 0, none⟩ : Addr).add pj = ⟨g, pj, none⟩ by unfold Addr.add; split <;> simp_all] at this
      subst hOA
      clear hrow
      have hin := HAP.out.fill.in_ HK.out (by decide) hmem
      have hch := HAP.out.fill.chain.mem hmem
      have hsm := HAP.out.fill.small ob hmem
      have hhd := HAP.out.fill.heads ob hmem
      have hset := fun (i q : Nat) (x : Int) hi hq h0 h1 => HAP.out.set HK.out hmem (i := i) (q := q) (x := x) hi hq h0 h1
      obtain ⟨at_, m, b⟩ := ob
      simp only at hin hch hsm hhd ha0 hset
      have hof := fun w (hd : Dev w d t') => of_yes d t' k 0 u at_ (k.from_ 0 + u) _ (m : Int) (b : Int) (.slice RA RL RC) w hd HK.out (by decide) HAP.out.fill.le ⟨hch.1, by omega⟩ rfl hhd (hw_wd (by omega) hsm.2).1 (hw_wd (by omega) hsm.2).2 (headOf_hw ⟨by omega, by omega, by omega, by omega⟩) (by omega)
      simp only [Kfg.cells, rbC] at hof
      have HOF := Lib.hid hof
      have HSET := Lib.hid hset
      have hat : at_ ≤ 10000 := by omega
      have hin3 : at_ + (m + 1) ≤ k.words := hin.2.1
      obtain ⟨hm8, hbm⟩ := hsm
      have HOB := Lib.hid hob
      have HNL : Hid (t'.now.length = k.words ∧ t'.l < 0) := Lib.hid ⟨HAP.out.fill.use.is.now, HAP.out.fill.use.lim⟩
      clear hof hob hmem hhd hch hin hset
      have hosI : ((os.length : Int) = 0) = False := by rw [eq_iff_iff, iff_false]; omega
      go_upto_region 12 with fail
      replace HS := Lib.hid (((HS.out.new 92 #[.int .u8 xa, .int .u8 xb, .int .u8 xc])).add (Keep.refl _ _ _) (r := noR) trivial (by simp [noR]))
      generalize wr.alloc _ = w6 at *
      generalize wr.heap.size = g13 at *
      clear k0 k1 k2 ha0
      refine wp_region_st3 (W := w) (S := []) (by kernel_rfl) (by kernel_rfl) (by kernel_rfl) (fun D uu => [blkR gx 24 #[.int .u16 l, .int .u16 r, .int .u16 s], devR d (t'), rowR 3 (.slice (some ⟨g, 0, none⟩) os.length OC) (atsOf os), rowR 25 (.slice RA RL RC) (uw rs), blkR gk 29 #[.int .i64 (k.L : Int), .int .i64 (k.R : Int), .int .i64 (k.S : Int)], blkR gb 39 #[.int .i64 0, .int .i64 (u : Int), .slice RA RL RC], kmapR gm (M), blkR g13 92 #[.int .u8 xa, .int .u8 xb, .int .u8 xc], bif D 16 then ptrR (uu 16) 75 (bif D 17 then #[.int .i64 (m : Int), .int .i64 (b : Int), .int .i64 (at_ : Int)] else #[.int .i64 0, .int .i64 0, .int .i64 0]) else noR])
        (fun j v => match j with
          | 0 => v = .pointer (some ⟨d.b, 0, none⟩)
          | 1 => v = .agg #[.int .i64 (k.L : Int), .int .i64 (k.R : Int), .int .i64 (k.S : Int)]
          | 2 => v = .agg #[.int .i64 0, .int .i64 (u : Int), .slice RA RL RC]
          | 3 => v = .slice (some ⟨g, 0, none⟩) os.length OC
          | 4 => v = .pointer (some ⟨g13, 0, none⟩)
          | 5 => v = .int .u8 xa
          | 6 => v = .int .i64 xa
          | 7 => v = .slice (some ⟨g, 0, none⟩) os.length OC
          | 8 => v = .int .i64 (os.length : Int)
          | 9 => v = .int .i64 (pj : Int)
          | 10 => v = .pointer (some ⟨g, pj, none⟩)
          | 11 => v = .int .i64 (at_ : Int)
          | 12 => v = ofR (m : Int) (b : Int) (at_ : Int) 0
          | 13 => v = ofR (m : Int) (b : Int) (at_ : Int) 0
          | 14 => v = .agg #[.int .i64 (m : Int), .int .i64 (b : Int), .int .i64 (at_ : Int)]
          | 15 => v = .int .i64 0
          | 16 => ∃ h, v = .pointer (some ⟨h, 0, none⟩)
          | 18 => v = .int .i64 0
          | _ => True) ?start ?step ?fin
      case start => exact fun u => HS.out
      case step =>
        clear HS
        refine ⟨?_, ?_, ?_, ?_, ?_, ?_, ?_, ?_, ?_, ?_, ?_, ?_, ?_, ?_, ?_, ?_, ?_, ?_, ?_, trivial⟩
        · intro D uu w' K hD hF hl hS hK
          simp only [puts, Act.put, List.setIfInBounds_toArray, List.set_cons_succ, List.set_cons_zero, Nat.zero_add, Nat.reduceAdd]
          go_simp
          simp only [yUpon]
          exact hK _ _ rfl hS
        · intro D uu w' K hD hF hl hS hK
          simp only [puts, Act.put, List.setIfInBounds_toArray, List.set_cons_succ, List.set_cons_zero, Nat.zero_add, Nat.reduceAdd]
          have x0 := (hS.blk 4 rfl).cell 0
          have x1 := (hS.blk 4 rfl).cell 1
          have x2 := (hS.blk 4 rfl).cell 2
          simp at x0 x1 x2
          go_simp
          simp only [yUpon]
          exact hK _ _ rfl hS
        · intro D uu w' K hD hF hl hS hK
          simp only [puts, Act.put, List.setIfInBounds_toArray, List.set_cons_succ, List.set_cons_zero, Nat.zero_add, Nat.reduceAdd]
          have x0 := (hS.blk 5 rfl).cell 0
          have x1 := (hS.blk 5 rfl).cell 1
          have x2 := (hS.blk 5 rfl).cell 2
          simp at x0 x1 x2
          go_simp
          simp only [yUpon]
          exact hK _ _ rfl hS
        · intro D uu w' K hD hF hl hS hK
          simp only [puts, Act.put, List.setIfInBounds_toArray, List.set_cons_succ, List.set_cons_zero, Nat.zero_add, Nat.reduceAdd]
          go_simp
          simp only [yUpon]
          exact hK _ _ rfl hS
        · intro D uu w' K hD hF hl hS hK
          simp only [puts, Act.put, List.setIfInBounds_toArray, List.set_cons_succ, List.set_cons_zero, Nat.zero_add, Nat.reduceAdd]
          go_simp
          simp only [yUpon]
          exact hK _ _ rfl hS
        · intro D uu w' K hD hF hl hS hK
          have f4 := (hF 4 (by kernel_rfl)).2
          simp only at f4
          simp only [puts, Act.put, List.setIfInBounds_toArray, List.set_cons_succ, List.set_cons_zero, Nat.zero_add, Nat.reduceAdd]
          simp only [f4]
          have x0 := (hS.blk 7 rfl).cell 0
          simp at x0
          go_simp
          simp only [yUpon]
          exact hK _ _ rfl hS
        · intro D uu w' K hD hF hl hS hK
          have f5 := (hF 5 (by kernel_rfl)).2
          simp only at f5
          simp only [puts, Act.put, List.setIfInBounds_toArray, List.set_cons_succ, List.set_cons_zero, Nat.zero_add, Nat.reduceAdd]
          simp only [f5]
          go_simp
          simp only [yUpon]
          exact hK _ _ rfl hS
        · intro D uu w' K hD hF hl hS hK
          simp only [puts, Act.put, List.setIfInBounds_toArray, List.set_cons_succ, List.set_cons_zero, Nat.zero_add, Nat.reduceAdd]
          go_simp
          simp only [yUpon]
          exact hK _ _ rfl hS
        · intro D uu w' K hD hF hl hS hK
          have f7 := (hF 7 (by kernel_rfl)).2
          simp only at f7
          simp only [puts, Act.put, List.setIfInBounds_toArray, List.set_cons_succ, List.set_cons_zero, Nat.zero_add, Nat.reduceAdd]
          simp only [f7]
          go_simp
          simp only [yUpon]
          exact hK _ _ rfl hS
        · intro D uu w' K hD hF hl hS hK
          have f6 := (hF 6 (by kernel_rfl)).2
          simp only at f6
          have f8 := (hF 8 (by kernel_rfl)).2
          simp only at f8
          simp only [puts, Act.put, List.setIfInBounds_toArray, List.set_cons_succ, List.set_cons_zero, Nat.zero_add, Nat.reduceAdd]
          simp only [f6, f8]
          go_simp
          simp only [yUpon]
          exact hK _ _ rfl hS
        · intro D uu w' K hD hF hl hS hK
          have f3 := (hF 3 (by kernel_rfl)).2
          simp only at f3
          have f9 := (hF 9 (by kernel_rfl)).2
          simp only at f9
          simp only [puts, Act.put, List.setIfInBounds_toArray, List.set_cons_succ, List.set_cons_zero, Nat.zero_add, Nat.reduceAdd]
          simp only [f3, f9]
          go_simp
          simp only [yUpon]
          exact hK _ _ rfl hS
        · intro D uu w' K hD hF hl hS hK
          have f10 := (hF 10 (by kernel_rfl)).2
          simp only at f10
          simp only [puts, Act.put, List.setIfInBounds_toArray, List.set_cons_succ, List.set_cons_zero, Nat.zero_add, Nat.reduceAdd]
          simp only [f10]
          have hrow : w'.ownsRow 0 3 1 (.slice (some ⟨g, 0, none⟩) os.length OC) (atsOf os).length (atsOf os) := hS.row 2 rfl
          have x10 := hrow.cells (g := g) rfl pj (.int .i64 (at_ : Int)) (by simp [atsOf, HOB.out])
          rw [show (⟨g, 0, none⟩ : Addr).add pj = ⟨g, pj, none⟩ by unfold Addr.add; split <;> simp_all] at x10
          clear hrow
          go_simp
          simp only [yUpon]
          exact hK _ _ rfl hS
        · intro D uu w' K hD hF hl hS hK
          have f0 := (hF 0 (by kernel_rfl)).2
          simp only at f0
          have f1 := (hF 1 (by kernel_rfl)).2
          simp only at f1
          have f2 := (hF 2 (by kernel_rfl)).2
          simp only at f2
          have f11 := (hF 11 (by kernel_rfl)).2
          simp only at f11
          simp only [puts, Act.put, List.setIfInBounds_toArray, List.set_cons_succ, List.set_cons_zero, Nat.zero_add, Nat.reduceAdd]
          simp only [f0, f1, f2, f11]
          go_simp
          simp only [yUpon]
          refine (HOF.out _ (hS.dev 1 rfl)).mono ?_
          rintro e w1 ⟨rfl, hkk⟩
          exact hK _ _ rfl (hS.grow hkk)
        · intro D uu w' K hD hF hl hS hK
          have f12 := (hF 12 (by kernel_rfl)).2
          simp only at f12
          simp only [puts, Act.put, List.setIfInBounds_toArray, List.set_cons_succ, List.set_cons_zero, Nat.zero_add, Nat.reduceAdd]
          simp only [f12]
          go_simp
          simp only [yUpon]
          exact hK _ _ rfl hS
        · intro D uu w' K hD hF hl hS hK
          have f13 := (hF 13 (by kernel_rfl)).2
          simp only at f13
          simp only [puts, Act.put, List.setIfInBounds_toArray, List.set_cons_succ, List.set_cons_zero, Nat.zero_add, Nat.reduceAdd]
          simp only [f13]
          go_simp
          simp only [yUpon]
          exact hK _ _ rfl hS
        · intro D uu w' K hD hF hl hS hK
          have f13 := (hF 13 (by kernel_rfl)).2
          simp only at f13
          simp only [puts, Act.put, List.setIfInBounds_toArray, List.set_cons_succ, List.set_cons_zero, Nat.zero_add, Nat.reduceAdd]
          simp only [f13]
          go_simp
          simp only [yUpon]
          exact hK _ _ rfl hS
        · intro D uu w' K hD hF hl hS hK
          simp only [puts, Act.put, List.setIfInBounds_toArray, List.set_cons_succ, List.set_cons_zero, Nat.zero_add, Nat.reduceAdd]
          have hlate := hl 17 (by kernel_rfl)
          simp only [hD, cond_false] at hS
          have hs2 := hS.step (i := 8) (r := noR) rfl (w' := w'.alloc (.cells #[.int .i64 0, .int .i64 0, .int .i64 0] 75)) ((Keep.refl _ _ _).alloc (Nat.le_refl _) _) (r' := blkR w'.heap.size 75 #[.int .i64 0, .int .i64 0, .int .i64 0]) (Blk.new _ _ _) (by simp [blkR])
          have e1 : (fset D 16 true) 16 = true := rfl
          have e2 : (fset D 16 true) 17 = false := hlate
          go_simp
          simp only [yUpon]
          refine hK _ _ ⟨_, rfl⟩ ?_
          simp only [e1, e2, cond_true, cond_false]
          exact hs2
        · intro D uu w' K hD hF hl hS hK
          have f14 := (hF 14 (by kernel_rfl)).2
          simp only at f14
          simp only [puts, Act.put, List.setIfInBounds_toArray, List.set_cons_succ, List.set_cons_zero, Nat.zero_add, Nat.reduceAdd]
          simp only [f14]
          obtain ⟨d16, g, hg⟩ := hF 16 (by kernel_rfl)
          simp only [hD, d16, hg, ptrR, cond_false, cond_true] at hS
          have x0 := (hS.blk 8 rfl).cell 0
          have x1 := (hS.blk 8 rfl).cell 1
          have x2 := (hS.blk 8 rfl).cell 2
          simp at x0 x1 x2
          have z0 := (hS.blk 8 rfl).frozen 0
          have z1 := (hS.blk 8 rfl).frozen 1
          have z2 := (hS.blk 8 rfl).frozen 2
          have hput := (((hS.put (i := 8) rfl 0 (.int .i64 (m : Int))).put (i := 8) rfl 1 (.int .i64 (b : Int))).put (i := 8) rfl 2 (.int .i64 (at_ : Int)))
          have e1 : (fset D 17 true) 17 = true := rfl
          have e2 : (fset D 17 true) 16 = true := d16
          simp only [hg]
          go_simp
          simp only [yUpon]
          refine hK _ _ trivial ?_
          simp only [e1, e2, cond_true]
          have e4 : ∀ v, (fset uu 17 v) 16 = .pointer (some ⟨g, 0, none⟩) := fun v => hg
          simp only [e4, ptrR]
          exact hput
        · intro D uu w' K hD hF hl hS hK
          have f15 := (hF 15 (by kernel_rfl)).2
          simp only at f15
          simp only [puts, Act.put, List.setIfInBounds_toArray, List.set_cons_succ, List.set_cons_zero, Nat.zero_add, Nat.reduceAdd]
          simp only [f15]
          go_simp
          simp only [yUpon]
          exact hK _ _ rfl hS
      case fin =>
        clear HS
        intro D uu w7 hall hS
        have f16 := (hall 16 (by simp)).1
        have f17 := (hall 17 (by simp)).1
        obtain ⟨go, v16⟩ := (hall 16 (by simp)).2
        have v18 := (hall 18 (by simp)).2
        simp only at v18
        simp only [f16, f17, v16, ptrR, cond_true] at hS
        have HS := Lib.hid hS
        clear hall hS f16 f17
        simp only [puts, Act.put, List.setIfInBounds_toArray, List.set_cons_succ, List.set_cons_zero, Nat.zero_add, Nat.reduceAdd]
        simp only [v16, v18]
        clear v16 v18 HOF HOB hjr hwa
        go_upto_region 15 with fail
        by_cases him : i < m
        rotate_left
        · have c1 : ¬ i < m := him
          have o0 := (HS.out.blk 8 rfl).cell 0
          simp at o0
          have o1 := (HS.out.blk 8 rfl).cell 1
          simp at o1
          have o2 := (HS.out.blk 8 rfl).cell 2
          simp at o2
          have k1 := (HS.out.blk 7 rfl).cell 1
          simp at k1
          have k2 := (HS.out.blk 7 rfl).cell 2
          simp at k2
          go_wp2_with fail
          refine (owrite_no (m : Int) (b : Int) (at_ : Int) (i : Int) xc 1 _ _ (by unfold fieldErr; rw [if_pos (by omega)]) (by decide)).mono ?_
          rintro e w8 ⟨rfl, hkk⟩
          replace HS := Lib.hid (HS.out.grow hkk)
          clear hkk o0 o1 o2 k1 k2
          have o0 := (HS.out.blk 8 rfl).cell 0
          simp at o0
          have o1 := (HS.out.blk 8 rfl).cell 1
          simp at o1
          have o2 := (HS.out.blk 8 rfl).cell 2
          simp at o2
          have k2 := (HS.out.blk 7 rfl).cell 2
          simp at k2
          go_wp2_with fail
          refine (opoint_no (m : Int) (b : Int) (at_ : Int) (i : Int) xc 1 _ _ (by unfold fieldErr; rw [if_pos (by omega)]) (by decide)).mono ?_
          rintro e w9 ⟨rfl, hkk⟩
          replace HS := Lib.hid (HS.out.grow hkk)
          clear hkk o0 o1 o2 k2
          go_wp2
          exact ⟨⟨j + 1, t', M, by omega, by first | rfl | go_num | simp, HAP.out, HS.out.take 7⟩, by simp [intOf]; omega⟩
        obtain ⟨q, hq⟩ : ∃ q, at_ + 1 + i = q := ⟨_, rfl⟩
        by_cases hib : i < b
        · have o0 := (HS.out.blk 8 rfl).cell 0
          simp at o0
          have o1 := (HS.out.blk 8 rfl).cell 1
          simp at o1
          have o2 := (HS.out.blk 8 rfl).cell 2
          simp at o2
          have k1 := (HS.out.blk 7 rfl).cell 1
          simp at k1
          have k2 := (HS.out.blk 7 rfl).cell 2
          simp at k2
          go_wp2_with fail
          refine (owrite_no (m : Int) (b : Int) (at_ : Int) (i : Int) xc 5 _ _ (by unfold fieldErr; rw [if_neg (by omega), if_neg (by simp; omega)]) (by decide)).mono ?_
          rintro e w8 ⟨rfl, hkk⟩
          replace HS := Lib.hid (HS.out.grow hkk)
          clear hkk o0 o1 o2 k1 k2
          have o0 := (HS.out.blk 8 rfl).cell 0
          simp at o0
          have o1 := (HS.out.blk 8 rfl).cell 1
          simp at o1
          have o2 := (HS.out.blk 8 rfl).cell 2
          simp at o2
          have k2 := (HS.out.blk 7 rfl).cell 2
          simp at k2
          go_wp2_with fail
          refine (opoint_dev d t' (m : Int) (b : Int) (at_ : Int) (i : Int) xc q _ (HS.out.dev 1 rfl) HNL.out.2 (by rw [HNL.out.1]; omega) (by unfold fieldErr; rw [if_neg (by omega), if_pos (by simp; omega)]) (by omega) (by omega) (by omega) (by omega)).mono ?_
          rintro e w8 ⟨rfl, hd, hkk⟩
          replace HS := Lib.hid (HS.out.did (i := 1) rfl hd hkk)
          clear hd hkk
          clear o0 o1 o2 k2
          have o2 := (HS.out.blk 8 rfl).cell 2
          simp at o2
          have k2 := (HS.out.blk 7 rfl).cell 2
          simp at k2
          obtain ⟨w9, hup, hm9, hk9, _⟩ := update_keepK (P := Try.prog) (HS.out.all 6 _ rfl : KMap w8 gm kPair M) u_fields field_key ((at_ : Int) * 8 + (i : Int)) (.int .i64 xc)
          have hkp : kPair ((at_ : Int) * 8 + (i : Int)) = .agg #[.int .i64 (at_ : Int), .int .i64 (i : Int)] := by
            unfold kPair
            rw [show ((at_ : Int) * 8 + (i : Int)) / 8 = (at_ : Int) by omega, show ((at_ : Int) * 8 + (i : Int)) % 8 = (i : Int) by omega]
          rw [hkp] at hup
          have hs9 := HS.out.step (i := 6) rfl hk9 (r' := kmapR gm (mset M ((at_ : Int) * 8 + (i : Int)) (.int .i64 xc))) hm9 (fun _ h => .inl h)
          have HS9 := Lib.hid hs9
          have hst := HSET.out i q xc (by omega) hq (by omega) (by omega)
          have HST := Lib.hid hst
          clear hm9 hk9 hs9 hkp hst
          go_wp2
          exact ⟨⟨j + 1, t'.store q xc, _, by omega, by first | rfl | go_num | simp, HST.out, HS9.out.take 7⟩, by simp [intOf]; omega⟩
        · have o0 := (HS.out.blk 8 rfl).cell 0
          simp at o0
          have o1 := (HS.out.blk 8 rfl).cell 1
          simp at o1
          have o2 := (HS.out.blk 8 rfl).cell 2
          simp at o2
          have k1 := (HS.out.blk 7 rfl).cell 1
          simp at k1
          have k2 := (HS.out.blk 7 rfl).cell 2
          simp at k2
          go_wp2_with fail
          refine (owrite_dev d t' (m : Int) (b : Int) (at_ : Int) (i : Int) xc q _ (HS.out.dev 1 rfl) HNL.out.2 (by rw [HNL.out.1]; omega) (by unfold fieldErr; rw [if_neg (by omega), if_pos (by simp; omega)]) (by omega) (by omega) (by omega)).mono ?_
          rintro e w8 ⟨rfl, hd, hkk⟩
          replace HS := Lib.hid (HS.out.did (i := 1) rfl hd hkk)
          clear hd hkk
          clear o0 o1 o2 k2 k1
          have o2 := (HS.out.blk 8 rfl).cell 2
          simp at o2
          have k2 := (HS.out.blk 7 rfl).cell 2
          simp at k2
          obtain ⟨w9, hup, hm9, hk9, _⟩ := update_keepK (P := Try.prog) (HS.out.all 6 _ rfl : KMap w8 gm kPair M) u_fields field_key ((at_ : Int) * 8 + (i : Int)) (.int .i64 xc)
          have hkp : kPair ((at_ : Int) * 8 + (i : Int)) = .agg #[.int .i64 (at_ : Int), .int .i64 (i : Int)] := by
            unfold kPair
            rw [show ((at_ : Int) * 8 + (i : Int)) / 8 = (at_ : Int) by omega, show ((at_ : Int) * 8 + (i : Int)) % 8 = (i : Int) by omega]
          rw [hkp] at hup
          have hs9 := HS.out.step (i := 6) rfl hk9 (r' := kmapR gm (mset M ((at_ : Int) * 8 + (i : Int)) (.int .i64 xc))) hm9 (fun _ h => .inl h)
          have HS9 := Lib.hid hs9
          have hst := HSET.out i q xc (by omega) hq (by omega) (by omega)
          have HST := Lib.hid hst
          clear hm9 hk9 hs9 hkp hst
          go_wp2
          exact ⟨⟨j + 1, t'.store q xc, _, by omega, by first | rfl | go_num | simp, HST.out, HS9.out.take 7⟩, by simp [intOf]; omega⟩
    · have hjI : ¬ (j : Int) < (hl2.length : Int) := by omega
      clear hjt hj HM2 HO2
      go_wp2_with fail
      clear hjI
      go_loopw [113] (fun v113 wr => ∃ p : Nat, p ≤ os.length ∧ v113 = .int .i64 (p : Int) ∧ Sep w [] ([blkR gx 24 #[.int .u16 l, .int .u16 r, .int .u16 s], devR d (t'), rowR 3 (.slice OA os.length OC) (atsOf os), rowR 25 (.slice RA RL RC) (uw rs), blkR gk 29 #[.int .i64 (k.L : Int), .int .i64 (k.R : Int), .int .i64 (k.S : Int)], blkR gb 39 #[.int .i64 0, .int .i64 (u : Int), .slice RA RL RC], kmapR gm (M)]) wr) (fun v113 _ => os.length - (intOf v113).toNat)
      case atStart => exact ⟨0, by omega, rfl, HS.out⟩
      case round =>
        clear HS
        obtain ⟨p, hp, rfl, hs⟩ := hrel
        have HS := Lib.hid hs
        clear hs
        by_cases hpt : p < os.length
        · have hpI : (p : Int) < (os.length : Int) := by omega
          obtain ⟨ob, hob⟩ : ∃ ob, os[p]? = some ob := ⟨_, List.getElem?_eq_getElem (by omega)⟩
          have hmem := List.mem_of_getElem? hob
          have hrow : wr.ownsRow 0 3 1 (.slice OA os.length OC) (atsOf os).length (atsOf os) := HS.out.row 2 rfl
          obtain ⟨g, hOA, ha0⟩ : ∃ g, OA = some ⟨g, 0, none⟩ ∧ wr.cell? ⟨g, p, none⟩ = some (.int .i64 (ob.at_ : Int)) := by
            rcases hrow.2 with ⟨hv, h0⟩ | ⟨g, cap, cur, hv, _⟩
            · rw [atsOf_length] at h0; omega
            · injection hv with e1 e2 e3
              refine ⟨g, e1, ?_⟩
              subst e1
              have := hrow.cells (g := g) rfl p (.int .i64 (ob.at_ : Int)) (by simp [atsOf, hob])
              rwa [show (⟨g, 0, none⟩ : Addr).add p = ⟨g, p, none⟩ by unfold Addr.add; split <;> simp_all] at this
          subst hOA
          clear hrow
          have hin := HAP.out.fill.in_ HK.out (by decide) hmem
          have hch := HAP.out.fill.chain.mem hmem
          have hsm := HAP.out.fill.small ob hmem
          have hhd := HAP.out.fill.heads ob hmem
          have hvs := HAP.out.vals ob hmem
          obtain ⟨at_, m, b⟩ := ob
          simp only at hin hch hsm hhd ha0 hvs
          have hof := fun w (hd : Dev w d t') => of_yes d t' k 0 u at_ (k.from_ 0 + u) _ (m : Int) (b : Int) (.slice RA RL RC) w hd HK.out (by decide) HAP.out.fill.le ⟨hch.1, by omega⟩ rfl hhd (hw_wd (by omega) hsm.2).1 (hw_wd (by omega) hsm.2).2 (headOf_hw ⟨by omega, by omega, by omega, by omega⟩) (by omega)
          simp only [Kfg.cells, rbC] at hof
          have HOF := Lib.hid hof
          have HVS := Lib.hid hvs
          have hat : at_ ≤ 10000 := by omega
          obtain ⟨hm8, hbm⟩ := hsm
          clear hof hob hmem hhd hch hin hvs
          have c0 := (HS.out.blk 4 rfl).cell 0
          simp at c0
          have c1 := (HS.out.blk 4 rfl).cell 1
          simp at c1
          have c2 := (HS.out.blk 4 rfl).cell 2
          simp at c2
          have b0 := (HS.out.blk 5 rfl).cell 0
          simp at b0
          have b1 := (HS.out.blk 5 rfl).cell 1
          simp at b1
          have b2 := (HS.out.blk 5 rfl).cell 2
          simp at b2
          go_wp2_with fail
          refine (HOF.out _ (HS.out.dev 1 rfl)).mono ?_
          rintro e w8 ⟨rfl, hkk⟩
          replace HS := Lib.hid ((HS.out.grow hkk).new 75 #[.int .i64 (m : Int), .int .i64 (b : Int), .int .i64 (at_ : Int)])
          clear hkk c0 c1 c2 b0 b1 b2 ha0 HOF
          go_upto_region 25 with fail
          generalize w8.alloc _ = w9 at *
          generalize w8.heap.size = go at *
          have o0 := (HS.out.blk 7 rfl).cell 0
          simp at o0
          go_wp2_with fail
          clear o0
          go_loopw [130] (fun v130 wr => ∃ i : Nat, i ≤ m ∧ v130 = .int .i64 (i : Int) ∧ Sep w [] ([blkR gx 24 #[.int .u16 l, .int .u16 r, .int .u16 s], devR d (t'), rowR 3 (.slice (some ⟨g, 0, none⟩) os.length OC) (atsOf os), rowR 25 (.slice RA RL RC) (uw rs), blkR gk 29 #[.int .i64 (k.L : Int), .int .i64 (k.R : Int), .int .i64 (k.S : Int)], blkR gb 39 #[.int .i64 0, .int .i64 (u : Int), .slice RA RL RC], kmapR gm (M), blkR go 75 #[.int .i64 (m : Int), .int .i64 (b : Int), .int .i64 (at_ : Int)]]) wr) (fun v130 _ => m - (intOf v130).toNat)
          case atStart => exact ⟨0, by omega, rfl, HS.out⟩
          case round =>
            clear HS
            obtain ⟨i, hi, rfl, hs⟩ := hrel
            have HS := Lib.hid hs
            clear hs
            by_cases hit : i < m
            · have hiI : (i : Int) < (m : Int) := by omega
              obtain ⟨x, x0, x1, hx, hmx⟩ := HVS.out i hit
              obtain ⟨q, hq⟩ : ∃ q, at_ + 1 + i = q := ⟨_, rfl⟩
              rw [hq] at hx
              have hxw : IntKind.i64.wrap x = x := IntWalk.i64_in _ (by omega)
              have HX := Lib.hid hx
              have hz : ∀ w, (zeroValue 3).run Try.prog w = .ok (.int .i64 0) w := fun w => by kernel_rfl
              have hkp : kPair ((at_ : Int) * 8 + (i : Int)) = .agg #[.int .i64 (at_ : Int), .int .i64 (i : Int)] := by
                unfold kPair
                rw [show ((at_ : Int) * 8 + (i : Int)) / 8 = (at_ : Int) by omega, show ((at_ : Int) * 8 + (i : Int)) % 8 = (i : Int) by omega]
              have HMX := Lib.hid hmx
              have HKP := Lib.hid hkp
              have HZ := Lib.hid hz
              clear hx hmx hkp hz
              by_cases hib : i < b
              · have o0 := (HS.out.blk 7 rfl).cell 0
                simp at o0
                have o1 := (HS.out.blk 7 rfl).cell 1
                simp at o1
                have o2 := (HS.out.blk 7 rfl).cell 2
                simp at o2
                go_wp2_with fail
                refine (oread_no (m : Int) (b : Int) (at_ : Int) (i : Int) 5 _ _ (by unfold fieldErr; rw [if_neg (by omega), if_neg (by simp; omega)]) (by decide)).mono ?_
                rintro e wa ⟨rfl, hkk⟩
                replace HS := Lib.hid (HS.out.grow hkk)
                clear hkk o0 o1 o2
                have o0 := (HS.out.blk 7 rfl).cell 0
                simp at o0
                have o1 := (HS.out.blk 7 rfl).cell 1
                simp at o1
                have o2 := (HS.out.blk 7 rfl).cell 2
                simp at o2
                go_wp2_with fail
                refine (oref_ok d t' (m : Int) (b : Int) (at_ : Int) (i : Int) x q _ (HS.out.dev 1 rfl) (by unfold fieldErr; rw [if_neg (by omega), if_pos (by simp; omega)]) (by omega) (by omega) (by omega) HX.out (by omega) x0).mono ?_
                rintro e wb ⟨rfl, hkk⟩
                replace HS := Lib.hid (HS.out.grow hkk)
                clear hkk o0 o1 o2
                have lk := lookup_anyK (P := Try.prog) (HS.out.all 6 _ rfl : KMap wb gm kPair M) u_fields field_key ((at_ : Int) * 8 + (i : Int)) (HZ.out wb)
                rw [HKP.out, HMX.out] at lk
                go_wp2
                exact ⟨⟨i + 1, by omega, by first | rfl | go_num | simp, HS.out⟩, by simp [intOf]; omega⟩
              · have o0 := (HS.out.blk 7 rfl).cell 0
                simp at o0
                have o1 := (HS.out.blk 7 rfl).cell 1
                simp at o1
                have o2 := (HS.out.blk 7 rfl).cell 2
                simp at o2
                go_wp2_with fail
                refine (oread_ok d t' (m : Int) (b : Int) (at_ : Int) (i : Int) x q _ (HS.out.dev 1 rfl) (by unfold fieldErr; rw [if_neg (by omega), if_pos (by simp; omega)]) (by omega) (by omega) (by omega) HX.out).mono ?_
                rintro e wa ⟨rfl, hkk⟩
                replace HS := Lib.hid (HS.out.grow hkk)
                clear hkk o0 o1 o2
                have o0 := (HS.out.blk 7 rfl).cell 0
                simp at o0
                have o1 := (HS.out.blk 7 rfl).cell 1
                simp at o1
                have o2 := (HS.out.blk 7 rfl).cell 2
                simp at o2
                go_wp2_with fail
                refine (oref_no (m : Int) (b : Int) (at_ : Int) (i : Int) 5 _ _ (by unfold fieldErr; rw [if_neg (by omega), if_neg (by simp; omega)]) (by decide)).mono ?_
                rintro e wb ⟨rfl, hkk⟩
                replace HS := Lib.hid (HS.out.grow hkk)
                clear hkk o0 o1 o2
                have lk := lookup_anyK (P := Try.prog) (HS.out.all 6 _ rfl : KMap wb gm kPair M) u_fields field_key ((at_ : Int) * 8 + (i : Int)) (HZ.out wb)
                rw [HKP.out, HMX.out] at lk
                go_wp2
                exact ⟨⟨i + 1, by omega, by first | rfl | go_num | simp, HS.out⟩, by simp [intOf]; omega⟩
            · have hiI : ¬ (i : Int) < (m : Int) := by omega
              go_wp2
              exact ⟨⟨p + 1, by omega, by first | rfl | go_num | simp, HS.out.take 7⟩, by simp [intOf]; omega⟩
        · have hpI : ¬ (p : Int) < (os.length : Int) := by omega
          go_wp2
          go_ret
          exact ⟨rfl, HS.out.keep⟩

theorem ObjectApart.walk {v1 v2 : Value} {w : World} (l r s : Int) (h : (lowest .u16 ≤ l ∧ l ≤ greatest .u16) ∧ (lowest .u16 ≤ r ∧ r ≤ greatest .u16) ∧ (lowest .u16 ≤ s ∧ s ≤ greatest .u16)) (hl1 : List HV) (hm1 : RdH w v1 hl1) (ho1 : ∀ x ∈ hl1, x.Ok) (hn1 : hl1.length ≤ maxLen) (hl2 : List TV) (hm2 : RdT w v2 hl2) (ho2 : ∀ x ∈ hl2, x.Ok) (hn2 : hl2.length ≤ maxLen) :
    Calls Try.prog 13 #[.agg #[.int .u16 l, .int .u16 r, .int .u16 s], v1, v2] w fun e w' => e = .returned (.bool true) ∧ Below w.heap.size w w' := by
  obtain ⟨⟨l0, l1⟩, ⟨r0, r1⟩, s0, s1⟩ := h
  simp [lowest, greatest] at l0 l1 r0 r1 s0 s1
  exact (ObjectApart.core l r s v1 hl1 v2 hl2 w l0 l1 r0 r1 s0 s1 hm1 ho1 hn1 hm2 ho2 hn2).mono fun e w' ⟨he, hk⟩ => ⟨he, hk.below⟩
end Go.Proofs.Ytaophnicdbmojaa
