/-
  ObjectFields: the walk.
-/
import Derived.Deep.CutRange
import Derived.Test.YtaophnicdbmojaaAwk10
import Derived.Test.YtaophnicdbmojaaRng
import Derived.Test.YtaophnicdbmojaaWords7
import Derived.Test.YtaophnicdbmojaaObjR
set_option linter.unusedSimpArgs false
set_option linter.unusedVariables false
set_option maxRecDepth 100000
namespace Go.Proofs.Ytaophnicdbmojaa
open Go.RowKit Go.Shelf

theorem tmod_m (a n : Nat) : ((a : Int)).tmod (n : Int) = ((a % n : Nat) : Int) := by
  rw [Int.tmod_eq_emod_of_nonneg (by omega)]; simp
theorem uw_set2 (xs : List Int) (ex : List Value) (q : Nat) (v : Int) (hq : q < xs.length) : (uw xs ++ ex).toArray.setIfInBounds q (.int .u64 v) = (uw (xs.set q v) ++ ex).toArray := by
  simp [uw, List.set_append, hq, List.map_set]
theorem uw_get2 (xs : List Int) (ex : List Value) (q : Nat) (hq : q < xs.length) : (uw xs ++ ex).toArray[q]? = some (.int .u64 (xs.getD q 0)) := by
  simp [uw, List.getElem?_append, hq]
set_option maxHeartbeats 4000000 in
theorem full_any (i v : Int) (w : World) : Calls Try.prog 49 #[.int .i64 i, .int .u64 v] w fun e w' => e = .returned (.int .i64 3) ∧ w' = w := by
  go_enter Try.func49, Try.ntmps49
  go_wp2
  go_ret
  exact ⟨rfl, rfl⟩
/-- How words are stored: on the device, or never. -/
def storeV (d : DevI) (full : Bool) : Value := bif full then .func (.func 49) #[] #[] else .func (.func 19) #[.pointer (some ⟨d.b, 0, none⟩)] #[]
/-- What the law asks of a field. -/
structure FldS (d : DevI) (t tW tP : St) (m b at_ i v tv : Int) (full : Bool) (ew eN eP eW eQ x2 p2 : Int) : Prop where
  errs : (ew = 1 ∧ eN = 1 ∧ eP = 1 ∧ (i < 0 ∨ m ≤ i) ∧ tP = t) ∨ (ew = 0 ∧ 0 ≤ i ∧ i < m ∧ i < b ∧ eN = 5 ∧ eP = 0) ∨ (ew = 0 ∧ 0 ≤ i ∧ i < m ∧ b ≤ i ∧ eN = 0 ∧ eP = 5)
  wN : eW = if full = true ∧ eN = 0 then 3 else eN
  wP : eQ = if full = true ∧ eP = 0 then 3 else eP
  vals : full = false → (eN = 0 → x2 = v) ∧ (eP = 0 → p2 = tv)
  same : full = true → tP = t
  name : full = false → eP = 0 → ∃ q : Nat, at_ + 1 + i = q ∧ tP.now = t.now.set q tv
  num : full = false → eN = 0 → ∃ q : Nat, at_ + 1 + i = q ∧ tP.now = t.now.set q v
  len : tP.now.length = t.now.length
  read : ∀ w, Dev w d t → Calls Try.prog 47 #[obV m b at_, .pointer (some ⟨d.b, 0, none⟩), .int .i64 i] w fun e w' => e = .returned (.tuple #[.int .u64 0, .int .i64 eN]) ∧ Keep w.heap.size [] w w'
  ref : ∀ w, Dev w d t → Calls Try.prog 48 #[obV m b at_, .pointer (some ⟨d.b, 0, none⟩), .int .i64 i] w fun e w' => e = .returned (.tuple #[.int .i64 0, .int .i64 eP]) ∧ Keep w.heap.size [] w w'
  write : ∀ w, Dev w d t → Calls Try.prog 46 #[obV m b at_, .int .i64 i, .int .u64 v, storeV d full] w fun e w' => e = .returned (.int .i64 eW) ∧ Dev w' d tW ∧ Keep w.heap.size d.blocks w w'
  point : ∀ w, Dev w d tW → Calls Try.prog 44 #[obV m b at_, .int .i64 i, .int .i64 tv, storeV d full] w fun e w' => e = .returned (.int .i64 eQ) ∧ Dev w' d tP ∧ Keep w.heap.size d.blocks w w'
  read2 : ∀ w, Dev w d tP → Calls Try.prog 47 #[obV m b at_, .pointer (some ⟨d.b, 0, none⟩), .int .i64 i] w fun e w' => e = .returned (.tuple #[.int .u64 x2, .int .i64 eN]) ∧ Keep w.heap.size [] w w'
  ref2 : ∀ w, Dev w d tP → Calls Try.prog 48 #[obV m b at_, .pointer (some ⟨d.b, 0, none⟩), .int .i64 i] w fun e w' => e = .returned (.tuple #[.int .i64 p2, .int .i64 eP]) ∧ Keep w.heap.size [] w w'
set_option maxHeartbeats 4000000 in
theorem fld_ok (d : DevI) (t : St) (n : Nat) (m b at_ : Nat) (i v tv : Int) (full : Bool) (hI : t.Is n) (hl : t.l < 0) (hm : m ≤ 8) (hb : b ≤ m) (hat : at_ + (m + 1) ≤ n) (hn : n ≤ 10000) (hz : ∀ j, j < m → t.nw (at_ + 1 + j) = 0) (hv : 0 ≤ v) (h0 : 0 ≤ tv) (h1 : tv ≤ 65535) :
    ∃ tW tP ew eN eP eW eQ x2 p2, FldS d t tW tP (m : Int) (b : Int) (at_ : Int) i v tv full ew eN eP eW eQ x2 p2 := by
  by_cases hi : i < 0 ∨ (m : Int) ≤ i
  · have e1 : fieldErr (m : Int) (b : Int) i false = 1 := by unfold fieldErr; rw [if_pos hi]
    have e2 : fieldErr (m : Int) (b : Int) i true = 1 := by unfold fieldErr; rw [if_pos hi]
    refine ⟨t, t, 1, 1, 1, 1, 1, 0, 0, .inl ⟨rfl, rfl, rfl, hi, rfl⟩, (by simp), (by simp), fun _ => ⟨fun h => absurd h (by decide), fun h => absurd h (by decide)⟩, fun _ => rfl, fun _ h => absurd h (by decide), fun _ h => absurd h (by decide), rfl,
      fun w _ => oread_no _ _ _ i 1 _ w e1 (by decide), fun w _ => oref_no _ _ _ i 1 _ w e2 (by decide), fun w hd => ?_, fun w hd => ?_, fun w _ => oread_no _ _ _ i 1 _ w e1 (by decide), fun w _ => oref_no _ _ _ i 1 _ w e2 (by decide)⟩
    · exact (owrite_no _ _ _ i v 1 _ w e1 (by decide)).mono fun e w' ⟨h, hk⟩ => ⟨h, hd.of_new hk, hk.sub (by simp)⟩
    · exact (opoint_no _ _ _ i tv 1 _ w e2 (by decide)).mono fun e w' ⟨h, hk⟩ => ⟨h, hd.of_new hk, hk.sub (by simp)⟩
  · obtain ⟨j, rfl⟩ : ∃ j : Nat, i = (j : Int) := ⟨i.toNat, by omega⟩
    have hj : j < m := by omega
    obtain ⟨q, hq⟩ : ∃ q, at_ + 1 + j = q := ⟨_, rfl⟩
    have hqI : (at_ : Int) + 1 + (j : Int) = (q : Int) := by omega
    have hqn : q < t.now.length := by rw [hI.now]; omega
    have hz0 := hz j hj
    rw [hq] at hz0
    have ha : (0 : Int) ≤ (at_ : Int) ∧ (at_ : Int) ≤ 1000000 := by omega
    have hm2 : (m : Int) ≤ 1000 := by omega
    by_cases hjb : j < b
    · have e1 : fieldErr (m : Int) (b : Int) (j : Int) false = 5 := by unfold fieldErr; rw [if_neg hi, if_neg (by simp; omega)]
      have e2 : fieldErr (m : Int) (b : Int) (j : Int) true = 0 := by unfold fieldErr; rw [if_neg hi, if_pos (by simp; omega)]
      cases full with
      | true =>
        refine ⟨t, t, 0, 5, 0, 5, 3, 0, 0, .inr (.inl ⟨rfl, by omega, by omega, by omega, rfl, rfl⟩), by rw [if_neg (by decide)], by rw [if_pos ⟨rfl, rfl⟩], fun h => (by cases h), fun _ => rfl, fun h => (by cases h), fun h => (by cases h), rfl,
          fun w _ => oread_no _ _ _ _ 5 _ w e1 (by decide), fun w hd => oref_ok d t _ _ _ _ 0 q w hd e2 hqI ha hm2 hz0 (by decide) (by decide), fun w hd => ?_, fun w hd => ?_, fun w _ => oread_no _ _ _ _ 5 _ w e1 (by decide), fun w hd => oref_ok d t _ _ _ _ 0 q w hd e2 hqI ha hm2 hz0 (by decide) (by decide)⟩
        · exact (owrite_no _ _ _ _ v 5 _ w e1 (by decide)).mono fun e w' ⟨h, hk⟩ => ⟨h, hd.of_new hk, hk.sub (by simp)⟩
        · exact (opoint_gen 49 #[] #[] _ _ _ _ tv (q : Int) 3 (fun w1 w' => w' = w1) w (enters_of Try.func49 (by kernel_rfl) rfl) e2 hqI ha hm2 (by omega) (fun x => by simpa using full_any _ _ _)).mono fun e w' ⟨h, x, hx⟩ => by subst hx; exact ⟨h, hd.of_new x.keep, x.keep.sub (by simp)⟩
      | false =>
        have hx2 : (t.store q tv).nw q = tv := by rw [St.nw_store hI (by rw [← hI.now]; exact hqn) tv, if_pos rfl]
        refine ⟨t, t.store q tv, 0, 5, 0, 5, 0, 0, tv, .inr (.inl ⟨rfl, by omega, by omega, by omega, rfl, rfl⟩), by rw [if_neg (by decide)], by rw [if_neg (by simp)], fun _ => ⟨fun h => absurd h (by decide), fun _ => rfl⟩, fun h => (by cases h), fun _ _ => ⟨q, hqI, rfl⟩, fun _ h => absurd h (by decide), by show (t.now.set q tv).length = _; simp,
          fun w _ => oread_no _ _ _ _ 5 _ w e1 (by decide), fun w hd => oref_ok d t _ _ _ _ 0 q w hd e2 hqI ha hm2 hz0 (by decide) (by decide), fun w hd => ?_, fun w hd => ?_, fun w _ => oread_no _ _ _ _ 5 _ w e1 (by decide), fun w hd => oref_ok d _ _ _ _ _ tv q w hd e2 hqI ha hm2 hx2 (by omega) h0⟩
        · exact (owrite_no _ _ _ _ v 5 _ w e1 (by decide)).mono fun e w' ⟨h, hk⟩ => ⟨h, hd.of_new hk, hk.sub (by simp)⟩
        · exact opoint_dev d t _ _ _ _ tv q w hd hl hqn e2 hqI ha hm2 (by omega)
    · have e1 : fieldErr (m : Int) (b : Int) (j : Int) false = 0 := by unfold fieldErr; rw [if_neg hi, if_pos (by simp; omega)]
      have e2 : fieldErr (m : Int) (b : Int) (j : Int) true = 5 := by unfold fieldErr; rw [if_neg hi, if_neg (by simp; omega)]
      cases full with
      | true =>
        refine ⟨t, t, 0, 0, 5, 3, 5, 0, 0, .inr (.inr ⟨rfl, by omega, by omega, by omega, rfl, rfl⟩), by rw [if_pos ⟨rfl, rfl⟩], by rw [if_neg (by decide)], fun h => (by cases h), fun _ => rfl, fun h => (by cases h), fun h => (by cases h), rfl,
          fun w hd => oread_ok d t _ _ _ _ 0 q w hd e1 hqI ha hm2 hz0, fun w _ => oref_no _ _ _ _ 5 _ w e2 (by decide), fun w hd => ?_, fun w hd => ?_, fun w hd => oread_ok d t _ _ _ _ 0 q w hd e1 hqI ha hm2 hz0, fun w _ => oref_no _ _ _ _ 5 _ w e2 (by decide)⟩
        · exact (owrite_gen 49 #[] #[] _ _ _ _ v (q : Int) 3 (fun w1 w' => w' = w1) w (enters_of Try.func49 (by kernel_rfl) rfl) e1 hqI ha hm2 (fun x => by simpa using full_any _ _ _)).mono fun e w' ⟨h, x, hx⟩ => by subst hx; exact ⟨h, hd.of_new x.keep, x.keep.sub (by simp)⟩
        · exact (opoint_no _ _ _ _ tv 5 _ w e2 (by decide)).mono fun e w' ⟨h, hk⟩ => ⟨h, hd.of_new hk, hk.sub (by simp)⟩
      | false =>
        have hx2 : (t.store q v).nw q = v := by rw [St.nw_store hI (by rw [← hI.now]; exact hqn) v, if_pos rfl]
        refine ⟨t.store q v, t.store q v, 0, 0, 5, 0, 5, v, 0, .inr (.inr ⟨rfl, by omega, by omega, by omega, rfl, rfl⟩), by rw [if_neg (by simp)], by rw [if_neg (by decide)], fun _ => ⟨fun _ => rfl, fun h => absurd h (by decide)⟩, fun h => (by cases h), fun _ h => absurd h (by decide), fun _ _ => ⟨q, hqI, rfl⟩, by show (t.now.set q v).length = _; simp,
          fun w hd => oread_ok d t _ _ _ _ 0 q w hd e1 hqI ha hm2 hz0, fun w _ => oref_no _ _ _ _ 5 _ w e2 (by decide), fun w hd => ?_, fun w hd => ?_, fun w hd => oread_ok d _ _ _ _ _ v q w hd e1 hqI ha hm2 hx2, fun w _ => oref_no _ _ _ _ 5 _ w e2 (by decide)⟩
        · exact owrite_dev d t _ _ _ _ v q w hd hl hqn e1 hqI ha hm2
        · exact (opoint_no _ _ _ _ tv 5 _ w e2 (by decide)).mono fun e w' ⟨h, hk⟩ => ⟨h, hd.of_new hk, hk.sub (by simp)⟩

set_option maxRecDepth 100000 in
set_option maxHeartbeats 8000000 in
theorem ObjectFields.core (l r s : Int) (v1 : Value) (hl1 : List HV) (a2 : Int) (a3 : Int) (a4 : Bool) (a5 : Int) (a6 : Int) (a7 : Bool) (w : World) (l0 : 0 ≤ l) (l1 : l ≤ 65535) (r0 : 0 ≤ r) (r1 : r ≤ 65535) (s0 : 0 ≤ s) (s1 : s ≤ 65535) (hm1 : RdH w v1 hl1) (ho1 : ∀ x ∈ hl1, x.Ok) (hn1 : hl1.length ≤ maxLen) (a20 : 0 ≤ a2) (a21 : a2 ≤ 255) (a30 : -9223372036854775808 ≤ a3) (a31 : a3 ≤ 9223372036854775807) (a50 : 0 ≤ a5) (a51 : a5 ≤ 18446744073709551615) (a60 : 0 ≤ a6) (a61 : a6 ≤ 65535) :
    Calls Try.prog 14 #[.agg #[.int .u16 l, .int .u16 r, .int .u16 s], v1, .int .u8 a2, .int .i64 a3, .bool a4, .int .u64 a5, .int .u16 a6, .bool a7] w fun e w' => e = .returned (.bool true) ∧ Keep w.heap.size [] w w' := by
  simp only [maxLen] at hn1
  obtain ⟨q2, rfl⟩ : ∃ q2 : Nat, a2 = (q2 : Int) := ⟨a2.toNat, by omega⟩
  have HS := Lib.hid ((Sep.start w []).new 24 #[.int .u16 l, .int .u16 r, .int .u16 s])
  obtain ⟨hk, hkL, hkR, hkS⟩ := kOf_ok (l := l) (r := r) (s := s) l0 r0 s0
  have hfa := fun w hm hml => filled_any l r s v1 hl1 w l0 l1 r0 r1 s0 s1 hm ho1 hml
  have hpl := placed_length ((kOf l r s).from_ 0) (kOf l r s).S hl1 0
  generalize kOf l r s = k at *
  obtain ⟨os, hos⟩ : ∃ os, placed (k.from_ 0) k.S hl1 0 = os := ⟨_, rfl⟩
  obtain ⟨u, hu⟩ : ∃ u, usedOf k.S hl1 0 = u := ⟨_, rfl⟩
  simp only [hos, hu] at hfa hpl
  have HFA := Lib.hid hfa
  have HK := Lib.hid hk
  have HM := Lib.hid hm1
  have hS8 : 8 ≤ k.S := hk.s0
  have hw2 : k.words ≤ 10000 := (Kfg.words_le hk).2
  have hw1 : k.act + 2 + k.R ≤ k.words := (Kfg.words_le hk).1
  clear hfa hk hos hu
  obtain ⟨HA, HC, hv1, hvv⟩ := hm1
  subst hv1
  clear hvv
  go_enter Try.func14, Try.ntmps14
  go_wp2_with fail
  generalize w.alloc _ = w2 at *
  generalize w.heap.size = gx at *
  refine (awake10_any _).mono ?_
  rintro e w1 ⟨rfl, hk⟩
  replace HS := Lib.hid (HS.out.grow hk)
  clear hk
  by_cases hb1 : 20 < hl1.length
  · have hbI : (20 : Int) < hl1.length := by omega
    go_wp2
    go_ret
    exact ⟨rfl, HS.out.keep⟩
  have hx2 : ((20 : Int) < hl1.length) = False := by rw [eq_iff_iff, iff_false]; omega
  have hx3 : (20 < hl1.length) = False := by rw [eq_iff_iff, iff_false]; omega
  by_cases hb0 : hl1.length = 0
  · have hbI : ((hl1.length : Int) = 0) = True := by rw [eq_iff_iff, iff_true]; omega
    go_wp2
    go_ret
    exact ⟨rfl, HS.out.keep⟩
  have hb0I : ((hl1.length : Int) = 0) = False := by rw [eq_iff_iff, iff_false]; omega
  have c0 := (HS.out.blk 0 rfl).cell 0
  simp at c0
  have c1 := (HS.out.blk 0 rfl).cell 1
  simp at c1
  have c2 := (HS.out.blk 0 rfl).cell 2
  simp at c2
  go_wp2_with fail
  refine (HFA.out _ (HM.out.keep HS.out.keep) (by omega)).mono ?_
  rintro e w3 ⟨d, t, rv, ov, rfl, hf, hb, hS⟩
  obtain ⟨OA, OC, hov⟩ := rowR_val (hS.row 1 rfl)
  obtain ⟨RA, RC, hrv⟩ := rowR_val (hS.row 2 rfl)
  rw [atsOf_length] at hov
  obtain ⟨rs, hrs⟩ : ∃ rs, rootsOf t k k.R = rs := ⟨_, rfl⟩
  rw [hrs] at hrv hS
  obtain ⟨RL, hRL⟩ : ∃ RL, (uw rs).length = RL := ⟨_, rfl⟩
  rw [hRL] at hrv
  subst hov hrv
  have hadds := HS.out.adds hS
  replace HS := Lib.hid hadds
  have HF := Lib.hid hf
  have HB := Lib.hid hb
  simp only [Kfg.cells, rbC]
  clear hS hadds hf hb hrs hRL c0 c1 c2 HFA HM
  go_upto_region 6 with fail
  replace HS := Lib.hid ((HS.out.new 29 #[.int .i64 (k.L : Int), .int .i64 (k.R : Int), .int .i64 (k.S : Int)]).new 39 #[.int .i64 0, .int .i64 (u : Int), .slice RA RL RC])
  simp only [World.size_alloc] at HS
  generalize (w3.alloc _).alloc _ = w4 at *
  generalize w3.heap.size = gk at *
  generalize gk + 1 = gb at *
  clear hx2 hx3
  by_cases hos0 : os.length = 0
  · have hosI : ((os.length : Int) = 0) = True := by rw [eq_iff_iff, iff_true]; omega
    go_wp2
    go_ret
    exact ⟨rfl, HS.out.keep⟩
  have hosI : ((os.length : Int) = 0) = False := by rw [eq_iff_iff, iff_false]; omega
  obtain ⟨pj, hj⟩ : ∃ pj, q2 % os.length = pj := ⟨_, rfl⟩
  have hjl : pj < os.length := by rw [← hj]; exact Nat.mod_lt _ (by omega)
  have hjr : ((q2 : Int)).tmod (os.length : Int) = (pj : Int) := by rw [tmod_m, hj]
  have hqw : IntKind.i64.wrap (q2 : Int) = (q2 : Int) := IntWalk.i64_in _ (by omega)
  go_upto_region 8 with fail
  clear hj
  obtain ⟨ob, hob⟩ : ∃ ob, os[pj]? = some ob := ⟨_, List.getElem?_eq_getElem (by omega)⟩
  have hmem := List.mem_of_getElem? hob
  have hrow : w4.ownsRow 0 3 1 (.slice OA os.length OC) (atsOf os).length (atsOf os) := HS.out.row 2 rfl
  obtain ⟨g, hOA, ha0⟩ : ∃ g, OA = some ⟨g, 0, none⟩ ∧ w4.cell? ⟨g, pj, none⟩ = some (.int .i64 (ob.at_ : Int)) := by
    rcases hrow.2 with ⟨hv, h0⟩ | ⟨g, cap, cur, hv, _⟩
    · rw [atsOf_length] at h0; omega
    · injection hv with e1 e2 e3
      refine ⟨g, e1, ?_⟩
      subst e1
      have := hrow.cells (g := g) rfl pj (.int .i64 (ob.at_ : Int)) (by simp [atsOf, hob])
      rwa [show (⟨g, 0, none⟩ : Addr).add pj = ⟨g, pj, none⟩ by unfold Addr.add; split <;> simp_all] at this
  subst hOA
  clear hrow
  have hin := HF.out.in_ HK.out (by decide) hmem
  have hch := HF.out.chain.mem hmem
  have hsm := HF.out.small ob hmem
  have hhd := HF.out.heads ob hmem
  have hbl := HB.out.body ob hmem
  obtain ⟨at_, m, b⟩ := ob
  simp only at hin hch hsm hhd ha0 hbl
  have hof := fun w (hd : Dev w d t) => of_yes d t k 0 u at_ (k.from_ 0 + u) _ (m : Int) (b : Int) (.slice RA RL RC) w hd HK.out (by decide) HF.out.le ⟨hch.1, by omega⟩ rfl hhd (hw_wd (by omega) hsm.2).1 (hw_wd (by omega) hsm.2).2 (headOf_hw ⟨by omega, by omega, by omega, by omega⟩) (by omega)
  simp only [Kfg.cells, rbC] at hof
  have HOF := Lib.hid hof
  have hfl := fun i => fld_ok d t k.words m b at_ i a5 a6 a7 HF.out.use.is HF.out.use.lim hsm.1 hsm.2 (by omega) (by omega) hbl a50 a60 a61
  have HFL := Lib.hid hfl
  have HNL : Hid (t.now.length = k.words) := Lib.hid HF.out.use.is.now
  have hat : at_ ≤ 10000 := by omega
  have hin2 : k.act + 2 ≤ at_ := by omega
  have hin3 : at_ + (m + 1) ≤ k.words := hin.2.1
  obtain ⟨hm8, hbm⟩ := hsm
  have hosl : os.length ≤ 20 := by omega
  have HCL : Hid (w4.cell? ⟨g, pj, none⟩ = some (.int .i64 (at_ : Int))) := Lib.hid ha0
  have HOB := Lib.hid hob
  clear hof hob hmem hhd hch hin hbl hfl ha0
  replace HS := Lib.hid (HS.out.add (Keep.refl _ _ _) (r := noR) trivial (by simp [noR]))
  refine wp_region_st3 (W := w) (S := []) (by kernel_rfl) (by kernel_rfl) (by kernel_rfl) (fun D uu => [blkR gx 24 #[.int .u16 l, .int .u16 r, .int .u16 s], devR d (t), rowR 3 (.slice (some ⟨g, 0, none⟩) os.length OC) (atsOf os), rowR 25 (.slice RA RL RC) (uw rs), blkR gk 29 #[.int .i64 (k.L : Int), .int .i64 (k.R : Int), .int .i64 (k.S : Int)], blkR gb 39 #[.int .i64 0, .int .i64 (u : Int), .slice RA RL RC], bif D 15 then ptrR (uu 15) 75 (bif D 16 then #[.int .i64 (m : Int), .int .i64 (b : Int), .int .i64 (at_ : Int)] else #[.int .i64 0, .int .i64 0, .int .i64 0]) else noR])
    (fun j v => match j with
      | 0 => v = .pointer (some ⟨d.b, 0, none⟩)
      | 1 => v = .agg #[.int .i64 (k.L : Int), .int .i64 (k.R : Int), .int .i64 (k.S : Int)]
      | 2 => v = .agg #[.int .i64 0, .int .i64 (u : Int), .slice RA RL RC]
      | 3 => v = .slice (some ⟨g, 0, none⟩) os.length OC
      | 4 => v = .int .u8 (q2 : Int)
      | 5 => v = .int .i64 (q2 : Int)
      | 6 => v = .slice (some ⟨g, 0, none⟩) os.length OC
      | 7 => v = .int .i64 (os.length : Int)
      | 8 => v = .int .i64 (pj : Int)
      | 9 => v = .pointer (some ⟨g, pj, none⟩)
      | 10 => v = .int .i64 (at_ : Int)
      | 11 => v = ofR (m : Int) (b : Int) (at_ : Int) 0
      | 12 => v = ofR (m : Int) (b : Int) (at_ : Int) 0
      | 13 => v = .agg #[.int .i64 (m : Int), .int .i64 (b : Int), .int .i64 (at_ : Int)]
      | 14 => v = .int .i64 0
      | 15 => ∃ h, v = .pointer (some ⟨h, 0, none⟩)
      | 17 => v = .int .i64 0
      | _ => True) ?start ?step ?fin
  case start => exact fun u => HS.out
  case step =>
    clear HS
    refine ⟨?_, ?_, ?_, ?_, ?_, ?_, ?_, ?_, ?_, ?_, ?_, ?_, ?_, ?_, ?_, ?_, ?_, ?_, trivial⟩
    · intro D uu w' K hD hF hl hS hK
      simp only [puts, Act.put, List.setIfInBounds_toArray, List.set_cons_succ, List.set_cons_zero, Nat.zero_add, Nat.reduceAdd]
      go_simp
      simp only [yUpon]
      exact hK _ _ rfl hS
    · intro D uu w' K hD hF hl hS hK
      simp only [puts, Act.put, List.setIfInBounds_toArray, List.set_cons_succ, List.set_cons_zero, Nat.zero_add, Nat.reduceAdd]
      have x0 := (hS.blk 4 rfl).cell 0
      have x1 := (hS.blk 4 rfl).cell 1
      have x2 := (hS.blk 4 rfl).cell 2
      simp at x0 x1 x2
      go_simp
      simp only [yUpon]
      exact hK _ _ rfl hS
    · intro D uu w' K hD hF hl hS hK
      simp only [puts, Act.put, List.setIfInBounds_toArray, List.set_cons_succ, List.set_cons_zero, Nat.zero_add, Nat.reduceAdd]
      have x0 := (hS.blk 5 rfl).cell 0
      have x1 := (hS.blk 5 rfl).cell 1
      have x2 := (hS.blk 5 rfl).cell 2
      simp at x0 x1 x2
      go_simp
      simp only [yUpon]
      exact hK _ _ rfl hS
    · intro D uu w' K hD hF hl hS hK
      simp only [puts, Act.put, List.setIfInBounds_toArray, List.set_cons_succ, List.set_cons_zero, Nat.zero_add, Nat.reduceAdd]
      go_simp
      simp only [yUpon]
      exact hK _ _ rfl hS
    · intro D uu w' K hD hF hl hS hK
      simp only [puts, Act.put, List.setIfInBounds_toArray, List.set_cons_succ, List.set_cons_zero, Nat.zero_add, Nat.reduceAdd]
      go_simp
      simp only [yUpon]
      exact hK _ _ rfl hS
    · intro D uu w' K hD hF hl hS hK
      have f4 := (hF 4 (by kernel_rfl)).2
      simp only at f4
      simp only [puts, Act.put, List.setIfInBounds_toArray, List.set_cons_succ, List.set_cons_zero, Nat.zero_add, Nat.reduceAdd]
      simp only [f4]
      go_simp
      simp only [yUpon]
      exact hK _ _ rfl hS
    · intro D uu w' K hD hF hl hS hK
      simp only [puts, Act.put, List.setIfInBounds_toArray, List.set_cons_succ, List.set_cons_zero, Nat.zero_add, Nat.reduceAdd]
      go_simp
      simp only [yUpon]
      exact hK _ _ rfl hS
    · intro D uu w' K hD hF hl hS hK
      have f6 := (hF 6 (by kernel_rfl)).2
      simp only at f6
      simp only [puts, Act.put, List.setIfInBounds_toArray, List.set_cons_succ, List.set_cons_zero, Nat.zero_add, Nat.reduceAdd]
      simp only [f6]
      go_simp
      simp only [yUpon]
      exact hK _ _ rfl hS
    · intro D uu w' K hD hF hl hS hK
      have f5 := (hF 5 (by kernel_rfl)).2
      simp only at f5
      have f7 := (hF 7 (by kernel_rfl)).2
      simp only at f7
      simp only [puts, Act.put, List.setIfInBounds_toArray, List.set_cons_succ, List.set_cons_zero, Nat.zero_add, Nat.reduceAdd]
      simp only [f5, f7]
      go_simp
      simp only [yUpon]
      exact hK _ _ rfl hS
    · intro D uu w' K hD hF hl hS hK
      have f3 := (hF 3 (by kernel_rfl)).2
      simp only at f3
      have f8 := (hF 8 (by kernel_rfl)).2
      simp only at f8
      simp only [puts, Act.put, List.setIfInBounds_toArray, List.set_cons_succ, List.set_cons_zero, Nat.zero_add, Nat.reduceAdd]
      simp only [f3, f8]
      go_simp
      simp only [yUpon]
      exact hK _ _ rfl hS
    · intro D uu w' K hD hF hl hS hK
      have f9 := (hF 9 (by kernel_rfl)).2
      simp only at f9
      simp only [puts, Act.put, List.setIfInBounds_toArray, List.set_cons_succ, List.set_cons_zero, Nat.zero_add, Nat.reduceAdd]
      simp only [f9]
      have hrow : w'.ownsRow 0 3 1 (.slice (some ⟨g, 0, none⟩) os.length OC) (atsOf os).length (atsOf os) := hS.row 2 rfl
      have x10 := hrow.cells (g := g) rfl pj (.int .i64 (at_ : Int)) (by simp [atsOf, HOB.out])
      rw [show (⟨g, 0, none⟩ : Addr).add pj = ⟨g, pj, none⟩ by unfold Addr.add; split <;> simp_all] at x10
      clear hrow
      go_simp
      simp only [yUpon]
      exact hK _ _ rfl hS
    · intro D uu w' K hD hF hl hS hK
      have f0 := (hF 0 (by kernel_rfl)).2
      simp only at f0
      have f1 := (hF 1 (by kernel_rfl)).2
      simp only at f1
      have f2 := (hF 2 (by kernel_rfl)).2
      simp only at f2
      have f10 := (hF 10 (by kernel_rfl)).2
      simp only at f10
      simp only [puts, Act.put, List.setIfInBounds_toArray, List.set_cons_succ, List.set_cons_zero, Nat.zero_add, Nat.reduceAdd]
      simp only [f0, f1, f2, f10]
      go_simp
      simp only [yUpon]
      refine (HOF.out _ (hS.dev 1 rfl)).mono ?_
      rintro e w1 ⟨rfl, hkk⟩
      exact hK _ _ rfl (hS.grow hkk)
    · intro D uu w' K hD hF hl hS hK
      have f11 := (hF 11 (by kernel_rfl)).2
      simp only at f11
      simp only [puts, Act.put, List.setIfInBounds_toArray, List.set_cons_succ, List.set_cons_zero, Nat.zero_add, Nat.reduceAdd]
      simp only [f11]
      go_simp
      simp only [yUpon]
      exact hK _ _ rfl hS
    · intro D uu w' K hD hF hl hS hK
      have f12 := (hF 12 (by kernel_rfl)).2
      simp only at f12
      simp only [puts, Act.put, List.setIfInBounds_toArray, List.set_cons_succ, List.set_cons_zero, Nat.zero_add, Nat.reduceAdd]
      simp only [f12]
      go_simp
      simp only [yUpon]
      exact hK _ _ rfl hS
    · intro D uu w' K hD hF hl hS hK
      have f12 := (hF 12 (by kernel_rfl)).2
      simp only at f12
      simp only [puts, Act.put, List.setIfInBounds_toArray, List.set_cons_succ, List.set_cons_zero, Nat.zero_add, Nat.reduceAdd]
      simp only [f12]
      go_simp
      simp only [yUpon]
      exact hK _ _ rfl hS
    · intro D uu w' K hD hF hl hS hK
      simp only [puts, Act.put, List.setIfInBounds_toArray, List.set_cons_succ, List.set_cons_zero, Nat.zero_add, Nat.reduceAdd]
      have hlate := hl 16 (by kernel_rfl)
      simp only [hD, cond_false] at hS
      have hs2 := hS.step (i := 6) (r := noR) rfl (w' := w'.alloc (.cells #[.int .i64 0, .int .i64 0, .int .i64 0] 75)) ((Keep.refl _ _ _).alloc (Nat.le_refl _) _) (r' := blkR w'.heap.size 75 #[.int .i64 0, .int .i64 0, .int .i64 0]) (Blk.new _ _ _) (by simp [blkR])
      have e1 : (fset D 15 true) 15 = true := rfl
      have e2 : (fset D 15 true) 16 = false := hlate
      go_simp
      simp only [yUpon]
      refine hK _ _ ⟨_, rfl⟩ ?_
      simp only [e1, e2, cond_true, cond_false]
      exact hs2
    · intro D uu w' K hD hF hl hS hK
      have f13 := (hF 13 (by kernel_rfl)).2
      simp only at f13
      simp only [puts, Act.put, List.setIfInBounds_toArray, List.set_cons_succ, List.set_cons_zero, Nat.zero_add, Nat.reduceAdd]
      simp only [f13]
      obtain ⟨d15, g, hg⟩ := hF 15 (by kernel_rfl)
      simp only [hD, d15, hg, ptrR, cond_false, cond_true] at hS
      have x0 := (hS.blk 6 rfl).cell 0
      have x1 := (hS.blk 6 rfl).cell 1
      have x2 := (hS.blk 6 rfl).cell 2
      simp at x0 x1 x2
      have z0 := (hS.blk 6 rfl).frozen 0
      have z1 := (hS.blk 6 rfl).frozen 1
      have z2 := (hS.blk 6 rfl).frozen 2
      have hput := (((hS.put (i := 6) rfl 0 (.int .i64 (m : Int))).put (i := 6) rfl 1 (.int .i64 (b : Int))).put (i := 6) rfl 2 (.int .i64 (at_ : Int)))
      have e1 : (fset D 16 true) 16 = true := rfl
      have e2 : (fset D 16 true) 15 = true := d15
      simp only [hg]
      go_simp
      simp only [yUpon]
      refine hK _ _ trivial ?_
      simp only [e1, e2, cond_true]
      have e4 : ∀ v, (fset uu 16 v) 15 = .pointer (some ⟨g, 0, none⟩) := fun v => hg
      simp only [e4, ptrR]
      exact hput
    · intro D uu w' K hD hF hl hS hK
      have f14 := (hF 14 (by kernel_rfl)).2
      simp only at f14
      simp only [puts, Act.put, List.setIfInBounds_toArray, List.set_cons_succ, List.set_cons_zero, Nat.zero_add, Nat.reduceAdd]
      simp only [f14]
      go_simp
      simp only [yUpon]
      exact hK _ _ rfl hS
  case fin =>
    clear HS
    intro D uu w5 hall hS
    have f15 := (hall 15 (by simp)).1
    have f16 := (hall 16 (by simp)).1
    obtain ⟨go, v15⟩ := (hall 15 (by simp)).2
    have v17 := (hall 17 (by simp)).2
    simp only at v17
    simp only [f15, f16, v15, ptrR, cond_true] at hS
    have HS := Lib.hid hS
    clear hall hS f15 f16
    simp only [puts, Act.put, List.setIfInBounds_toArray, List.set_cons_succ, List.set_cons_zero, Nat.zero_add, Nat.reduceAdd]
    simp only [v15, v17]
    clear v15 v17 HOF HCL HOB hosI hjr hqw hb0I
    go_upto_if 80 with fail
    go_cut [3] from 80 to 82 (fun v3 wx => wx = w5 ∧ ∃ i : Int, -9223372036854775808 ≤ i ∧ i ≤ 9223372036854775807 ∧ v3 = .int .i64 i)
    case first =>
      cases a4
      · go_wp2
        go_meet
        exact ⟨rfl, a3, a30, a31, rfl⟩
      · go_wp2
        go_meet
        exact ⟨rfl, a3.tmod 12, by have := Int.lt_tmod_of_pos a3 (show (0 : Int) < 12 by decide); omega, by have := Int.tmod_lt_of_pos a3 (show (0 : Int) < 12 by decide); omega, rfl⟩
    case rest =>
      obtain ⟨rfl, i, hi0, hi1, rfl⟩ := hcut
      obtain ⟨tW, tP, ew, eN, eP, eW, eQ, x2, p2, hfs⟩ := HFL.out i
      have HFS := Lib.hid hfs
      obtain ⟨na, hna⟩ : ∃ na, k.act = na := ⟨_, rfl⟩
      obtain ⟨nw, hnw⟩ : ∃ nw, k.words = nw := ⟨_, rfl⟩
      have hkaI := fun w => kactive k w HK.out
      rw [hna] at hkaI hin2
      rw [hnw] at hin3 hw2 HNL
      have HKA := Lib.hid hkaI
      have HNA := Lib.hid hna
      have HNW := Lib.hid hnw
      have hw6 : IntKind.i64.wrap a6 = a6 := IntWalk.i64_in _ (by omega)
      have hw7 : IntKind.u64.wrap a6 = a6 := by rw [IntKind.wrap_u64]; omega
      have hmI : (m : Int) ≤ 8 := by omega
      have hbI2 : (b : Int) ≤ 8 := by omega
      clear hfs HFL a30 a31 hna hnw hkaI
      simp only [Kfg.cells] at HKA
      by_cases hcl : i < 0
      · rcases HFS.out.errs with ⟨rfl, rfl, rfl, hc, htP⟩ | ⟨_, hc0, _⟩ | ⟨_, hc0, _⟩
        rotate_left
        · omega
        · omega
        clear hc
        cases a7 with
        | true => as_aux_lemma =>
          have t1 : i < 0 := hcl
          have hne : ¬ ((0 : Int) ≤ i) := by omega
          obtain rfl : eW = 1 := by have h := HFS.out.wN; simpa using h
          obtain rfl : eQ = 1 := by have h := HFS.out.wP; simpa using h
          have htQ := htP.symm
          clear htP
          subst htQ
          have hlen0 := HFS.out.len.trans HNL.out
          have HLENP := Lib.hid hlen0
          clear hlen0
          have o0 := (HS.out.blk 6 rfl).cell 0
          simp at o0
          have o1 := (HS.out.blk 6 rfl).cell 1
          simp at o1
          have o2 := (HS.out.blk 6 rfl).cell 2
          simp at o2
          go_upto_region 24 with fail
          clear o0 o1 o2
          have c0 := (HS.out.blk 4 rfl).cell 0
          simp at c0
          have c1 := (HS.out.blk 4 rfl).cell 1
          simp at c1
          have c2 := (HS.out.blk 4 rfl).cell 2
          simp at c2
          go_wp2_with fail
          refine (words7_any d (t) k _ (HS.out.dev 1 rfl) HK.out (HNL.out.trans HNW.out.symm)).mono ?_
          rintro e wx ⟨gw, ex, cw, rfl, hbw, hgw, hkk⟩
          have hdl : ((t).now.drop k.act).length = nw - na := by rw [List.length_drop, HNL.out, HNA.out]
          rw [hdl, HNA.out]
          replace HS := Lib.hid (HS.out.add hkk (r := blkR gw 25 (uw (t).now ++ ex).toArray) hbw (by intro y hy; simp [blkR] at hy; subst hy; exact hgw))
          clear hbw hgw hkk hdl c0 c1 c2
          have o0 := (HS.out.blk 6 rfl).cell 0
          simp at o0
          have o1 := (HS.out.blk 6 rfl).cell 1
          simp at o1
          have o2 := (HS.out.blk 6 rfl).cell 2
          simp at o2
          go_wp2_with fail
          refine (HFS.out.read _ (HS.out.dev 1 rfl)).mono ?_
          rintro e wx ⟨rfl, hkk⟩
          replace HS := Lib.hid (HS.out.grow hkk)
          clear hkk o0 o1 o2
          have o0 := (HS.out.blk 6 rfl).cell 0
          simp at o0
          have o1 := (HS.out.blk 6 rfl).cell 1
          simp at o1
          have o2 := (HS.out.blk 6 rfl).cell 2
          simp at o2
          go_wp2_with fail
          refine (HFS.out.ref _ (HS.out.dev 1 rfl)).mono ?_
          rintro e wx ⟨rfl, hkk⟩
          replace HS := Lib.hid (HS.out.grow hkk)
          clear hkk o0 o1 o2
          go_upto_region 29 with fail
          refine wp_region_st3 (W := w) (S := []) (by kernel_rfl) (by kernel_rfl) (by kernel_rfl) (fun D uu => [blkR gx 24 #[.int .u16 l, .int .u16 r, .int .u16 s], devR d (bif D 10 then t else bif D 4 then tW else t), rowR 3 (.slice (some ⟨g, 0, none⟩) os.length OC) (atsOf os), rowR 25 (.slice RA RL RC) (uw rs), blkR gk 29 #[.int .i64 (k.L : Int), .int .i64 (k.R : Int), .int .i64 (k.S : Int)], blkR gb 39 #[.int .i64 0, .int .i64 (u : Int), .slice RA RL RC], blkR go 75 #[.int .i64 (m : Int), .int .i64 (b : Int), .int .i64 (at_ : Int)], blkR gw 25 ((uw t.now ++ ex).toArray)])
            (fun j v => match j with
              | 0 => v = .agg #[.int .i64 (m : Int), .int .i64 (b : Int), .int .i64 (at_ : Int)]
              | 1 => v = .int .i64 i
              | 2 => v = .int .u64 a5
              | 3 => v = .func (.func 49) #[] #[]
              | 4 => v = .int .i64 1
              | 5 => v = .agg #[.int .i64 (m : Int), .int .i64 (b : Int), .int .i64 (at_ : Int)]
              | 6 => v = .int .i64 i
              | 7 => v = .int .u16 a6
              | 8 => v = .int .i64 a6
              | 9 => v = .func (.func 49) #[] #[]
              | 10 => v = .int .i64 1
              | 11 => v = .int .i64 1
              | 12 => v = .int .i64 1
              | _ => True) ?start ?step ?fin
          case start => exact fun u => HS.out
          case step =>
            clear HS
            refine ⟨?_, ?_, ?_, ?_, ?_, ?_, ?_, ?_, ?_, ?_, ?_, ?_, ?_, trivial⟩
            · intro D uu w' K hD hF hl hS hK
              simp only [puts, Act.put, List.setIfInBounds_toArray, List.set_cons_succ, List.set_cons_zero, Nat.zero_add, Nat.reduceAdd]
              have x0 := (hS.blk 6 rfl).cell 0
              have x1 := (hS.blk 6 rfl).cell 1
              have x2 := (hS.blk 6 rfl).cell 2
              simp at x0 x1 x2
              go_simp
              simp only [yUpon]
              exact hK _ _ rfl hS
            · intro D uu w' K hD hF hl hS hK
              simp only [puts, Act.put, List.setIfInBounds_toArray, List.set_cons_succ, List.set_cons_zero, Nat.zero_add, Nat.reduceAdd]
              go_simp
              simp only [yUpon]
              exact hK _ _ rfl hS
            · intro D uu w' K hD hF hl hS hK
              simp only [puts, Act.put, List.setIfInBounds_toArray, List.set_cons_succ, List.set_cons_zero, Nat.zero_add, Nat.reduceAdd]
              go_simp
              simp only [yUpon]
              exact hK _ _ rfl hS
            · intro D uu w' K hD hF hl hS hK
              simp only [puts, Act.put, List.setIfInBounds_toArray, List.set_cons_succ, List.set_cons_zero, Nat.zero_add, Nat.reduceAdd]
              go_simp
              simp only [yUpon]
              exact hK _ _ rfl hS
            · intro D uu w' K hD hF hl hS hK
              have f0 := (hF 0 (by kernel_rfl)).2
              simp only at f0
              have f1 := (hF 1 (by kernel_rfl)).2
              simp only at f1
              have f2 := (hF 2 (by kernel_rfl)).2
              simp only at f2
              have f3 := (hF 3 (by kernel_rfl)).2
              simp only at f3
              simp only [puts, Act.put, List.setIfInBounds_toArray, List.set_cons_succ, List.set_cons_zero, Nat.zero_add, Nat.reduceAdd]
              simp only [f0, f1, f2, f3]
              have h10 := hl 10 (by kernel_rfl)
              simp only [hD, h10, cond_false] at hS
              have e1 : (fset D 4 true) 4 = true := rfl
              have e2 : (fset D 4 true) 10 = false := h10
              go_simp
              simp only [yUpon]
              refine (HFS.out.write _ (hS.dev 1 rfl)).mono ?_
              rintro e w1 ⟨rfl, hd, hkk⟩
              refine hK _ _ rfl ?_
              simp only [e1, e2, cond_true, cond_false]
              exact hS.did (i := 1) rfl hd hkk
            · intro D uu w' K hD hF hl hS hK
              simp only [puts, Act.put, List.setIfInBounds_toArray, List.set_cons_succ, List.set_cons_zero, Nat.zero_add, Nat.reduceAdd]
              have x0 := (hS.blk 6 rfl).cell 0
              have x1 := (hS.blk 6 rfl).cell 1
              have x2 := (hS.blk 6 rfl).cell 2
              simp at x0 x1 x2
              go_simp
              simp only [yUpon]
              exact hK _ _ rfl hS
            · intro D uu w' K hD hF hl hS hK
              simp only [puts, Act.put, List.setIfInBounds_toArray, List.set_cons_succ, List.set_cons_zero, Nat.zero_add, Nat.reduceAdd]
              go_simp
              simp only [yUpon]
              exact hK _ _ rfl hS
            · intro D uu w' K hD hF hl hS hK
              simp only [puts, Act.put, List.setIfInBounds_toArray, List.set_cons_succ, List.set_cons_zero, Nat.zero_add, Nat.reduceAdd]
              go_simp
              simp only [yUpon]
              exact hK _ _ rfl hS
            · intro D uu w' K hD hF hl hS hK
              have f7 := (hF 7 (by kernel_rfl)).2
              simp only at f7
              simp only [puts, Act.put, List.setIfInBounds_toArray, List.set_cons_succ, List.set_cons_zero, Nat.zero_add, Nat.reduceAdd]
              simp only [f7]
              go_simp
              simp only [yUpon]
              exact hK _ _ rfl hS
            · intro D uu w' K hD hF hl hS hK
              simp only [puts, Act.put, List.setIfInBounds_toArray, List.set_cons_succ, List.set_cons_zero, Nat.zero_add, Nat.reduceAdd]
              go_simp
              simp only [yUpon]
              exact hK _ _ rfl hS
            · intro D uu w' K hD hF hl hS hK
              have f5 := (hF 5 (by kernel_rfl)).2
              simp only at f5
              have f6 := (hF 6 (by kernel_rfl)).2
              simp only at f6
              have f8 := (hF 8 (by kernel_rfl)).2
              simp only at f8
              have f9 := (hF 9 (by kernel_rfl)).2
              simp only at f9
              simp only [puts, Act.put, List.setIfInBounds_toArray, List.set_cons_succ, List.set_cons_zero, Nat.zero_add, Nat.reduceAdd]
              simp only [f5, f6, f8, f9]
              have d4 := (hF 4 (by kernel_rfl)).1
              simp only [hD, d4, cond_true, cond_false] at hS
              have e1 : (fset D 10 true) 10 = true := rfl
              go_simp
              simp only [yUpon]
              refine (HFS.out.point _ (hS.dev 1 rfl)).mono ?_
              rintro e w1 ⟨rfl, hd, hkk⟩
              refine hK _ _ rfl ?_
              simp only [e1, cond_true]
              exact hS.did (i := 1) rfl hd hkk
            · intro D uu w' K hD hF hl hS hK
              have f4 := (hF 4 (by kernel_rfl)).2
              simp only at f4
              simp only [puts, Act.put, List.setIfInBounds_toArray, List.set_cons_succ, List.set_cons_zero, Nat.zero_add, Nat.reduceAdd]
              simp only [f4]
              go_simp
              simp only [yUpon]
              exact hK _ _ rfl hS
            · intro D uu w' K hD hF hl hS hK
              have f10 := (hF 10 (by kernel_rfl)).2
              simp only at f10
              simp only [puts, Act.put, List.setIfInBounds_toArray, List.set_cons_succ, List.set_cons_zero, Nat.zero_add, Nat.reduceAdd]
              simp only [f10]
              go_simp
              simp only [yUpon]
              exact hK _ _ rfl hS
          case fin =>
            clear HS
            intro D uu wf hall hS
            have f10 := (hall 10 (by simp)).1
            have v11 := (hall 11 (by simp)).2
            have v12 := (hall 12 (by simp)).2
            simp only at v11 v12
            simp only [f10, cond_true] at hS
            have HS := Lib.hid hS
            clear hall hS f10
            simp only [puts, Act.put, List.setIfInBounds_toArray, List.set_cons_succ, List.set_cons_zero, Nat.zero_add, Nat.reduceAdd]
            simp only [v11, v12]
            clear v11 v12
            have o0 := (HS.out.blk 6 rfl).cell 0
            simp at o0
            have o1 := (HS.out.blk 6 rfl).cell 1
            simp at o1
            have o2 := (HS.out.blk 6 rfl).cell 2
            simp at o2
            go_wp2_with fail
            refine (HFS.out.read2 _ (HS.out.dev 1 rfl)).mono ?_
            rintro e wx ⟨rfl, hkk⟩
            replace HS := Lib.hid (HS.out.grow hkk)
            clear hkk o0 o1 o2
            have o0 := (HS.out.blk 6 rfl).cell 0
            simp at o0
            have o1 := (HS.out.blk 6 rfl).cell 1
            simp at o1
            have o2 := (HS.out.blk 6 rfl).cell 2
            simp at o2
            go_wp2_with fail
            refine (HFS.out.ref2 _ (HS.out.dev 1 rfl)).mono ?_
            rintro e wx ⟨rfl, hkk⟩
            replace HS := Lib.hid (HS.out.grow hkk)
            clear hkk o0 o1 o2
            have c0 := (HS.out.blk 4 rfl).cell 0
            simp at c0
            have c1 := (HS.out.blk 4 rfl).cell 1
            simp at c1
            have c2 := (HS.out.blk 4 rfl).cell 2
            simp at c2
            go_wp2_with fail
            refine (words7_any d (t) k _ (HS.out.dev 1 rfl) HK.out (HLENP.out.trans HNW.out.symm)).mono ?_
            rintro e wx ⟨g2, ex2, cw2, rfl, hbw, hgw, hkk⟩
            have hdl : ((t).now.drop k.act).length = nw - na := by rw [List.length_drop, HLENP.out, HNA.out]
            rw [hdl, HNA.out]
            replace HS := Lib.hid (HS.out.add hkk (r := blkR g2 25 (uw (t).now ++ ex2).toArray) hbw (by intro y hy; simp [blkR] at hy; subst hy; exact hgw))
            clear hbw hgw hkk hdl c0 c1 c2
            have hws : (t.now) = t.now := by rfl
            have h1 : Rd wx (.slice (some ⟨g2, na, none⟩) (nw - na) cw2) (uw (t.now.drop na)) := Rd.behind7 (HS.out.blk 8 rfl) (by rw [List.length_drop, HLENP.out])
            have h2 : Rd wx (.slice (some ⟨gw, na, none⟩) (nw - na) cw) (uw ((t.now).drop na)) := Rd.behind7 (HS.out.blk 7 rfl) (by (try simp only [List.length_drop, List.length_set]); rw [HNL.out])
            have heq := equal_any _ _ (t.now.drop na) ((t.now).drop na) wx h1 h2 (by rw [List.length_drop, HLENP.out]; omega)
            rw [decide_eq_true (by rw [hws])] at heq
            have HEQ := Lib.hid heq
            clear hws h1 h2 heq
            go_wp2_with fail
            refine HEQ.out.mono ?_
            rintro e wh ⟨rfl, hkk⟩
            replace HS := Lib.hid (HS.out.grow hkk)
            clear hkk
            go_wp2
            go_ret
            exact ⟨rfl, HS.out.keep⟩
        | false => as_aux_lemma =>
          have t1 : i < 0 := hcl
          have hne : ¬ ((0 : Int) ≤ i) := by omega
          obtain rfl : eW = 1 := by have h := HFS.out.wN; simpa using h
          obtain rfl : eQ = 1 := by have h := HFS.out.wP; simpa using h
          have htQ := htP.symm
          clear htP
          subst htQ
          have hlen0 := HFS.out.len.trans HNL.out
          have HLENP := Lib.hid hlen0
          clear hlen0
          have o0 := (HS.out.blk 6 rfl).cell 0
          simp at o0
          have o1 := (HS.out.blk 6 rfl).cell 1
          simp at o1
          have o2 := (HS.out.blk 6 rfl).cell 2
          simp at o2
          go_upto_region 24 with fail
          clear o0 o1 o2
          have c0 := (HS.out.blk 4 rfl).cell 0
          simp at c0
          have c1 := (HS.out.blk 4 rfl).cell 1
          simp at c1
          have c2 := (HS.out.blk 4 rfl).cell 2
          simp at c2
          go_wp2_with fail
          refine (words7_any d (t) k _ (HS.out.dev 1 rfl) HK.out (HNL.out.trans HNW.out.symm)).mono ?_
          rintro e wx ⟨gw, ex, cw, rfl, hbw, hgw, hkk⟩
          have hdl : ((t).now.drop k.act).length = nw - na := by rw [List.length_drop, HNL.out, HNA.out]
          rw [hdl, HNA.out]
          replace HS := Lib.hid (HS.out.add hkk (r := blkR gw 25 (uw (t).now ++ ex).toArray) hbw (by intro y hy; simp [blkR] at hy; subst hy; exact hgw))
          clear hbw hgw hkk hdl c0 c1 c2
          have o0 := (HS.out.blk 6 rfl).cell 0
          simp at o0
          have o1 := (HS.out.blk 6 rfl).cell 1
          simp at o1
          have o2 := (HS.out.blk 6 rfl).cell 2
          simp at o2
          go_wp2_with fail
          refine (HFS.out.read _ (HS.out.dev 1 rfl)).mono ?_
          rintro e wx ⟨rfl, hkk⟩
          replace HS := Lib.hid (HS.out.grow hkk)
          clear hkk o0 o1 o2
          have o0 := (HS.out.blk 6 rfl).cell 0
          simp at o0
          have o1 := (HS.out.blk 6 rfl).cell 1
          simp at o1
          have o2 := (HS.out.blk 6 rfl).cell 2
          simp at o2
          go_wp2_with fail
          refine (HFS.out.ref _ (HS.out.dev 1 rfl)).mono ?_
          rintro e wx ⟨rfl, hkk⟩
          replace HS := Lib.hid (HS.out.grow hkk)
          clear hkk o0 o1 o2
          go_upto_region 29 with fail
          refine wp_region_st3 (W := w) (S := []) (by kernel_rfl) (by kernel_rfl) (by kernel_rfl) (fun D uu => [blkR gx 24 #[.int .u16 l, .int .u16 r, .int .u16 s], devR d (bif D 10 then t else bif D 4 then tW else t), rowR 3 (.slice (some ⟨g, 0, none⟩) os.length OC) (atsOf os), rowR 25 (.slice RA RL RC) (uw rs), blkR gk 29 #[.int .i64 (k.L : Int), .int .i64 (k.R : Int), .int .i64 (k.S : Int)], blkR gb 39 #[.int .i64 0, .int .i64 (u : Int), .slice RA RL RC], blkR go 75 #[.int .i64 (m : Int), .int .i64 (b : Int), .int .i64 (at_ : Int)], blkR gw 25 ((uw t.now ++ ex).toArray)])
            (fun j v => match j with
              | 0 => v = .agg #[.int .i64 (m : Int), .int .i64 (b : Int), .int .i64 (at_ : Int)]
              | 1 => v = .int .i64 i
              | 2 => v = .int .u64 a5
              | 3 => v = .func (.func 19) #[.pointer (some ⟨d.b, 0, none⟩)] #[]
              | 4 => v = .int .i64 1
              | 5 => v = .agg #[.int .i64 (m : Int), .int .i64 (b : Int), .int .i64 (at_ : Int)]
              | 6 => v = .int .i64 i
              | 7 => v = .int .u16 a6
              | 8 => v = .int .i64 a6
              | 9 => v = .func (.func 19) #[.pointer (some ⟨d.b, 0, none⟩)] #[]
              | 10 => v = .int .i64 1
              | 11 => v = .int .i64 1
              | 12 => v = .int .i64 1
              | _ => True) ?start ?step ?fin
          case start => exact fun u => HS.out
          case step =>
            clear HS
            refine ⟨?_, ?_, ?_, ?_, ?_, ?_, ?_, ?_, ?_, ?_, ?_, ?_, ?_, trivial⟩
            · intro D uu w' K hD hF hl hS hK
              simp only [puts, Act.put, List.setIfInBounds_toArray, List.set_cons_succ, List.set_cons_zero, Nat.zero_add, Nat.reduceAdd]
              have x0 := (hS.blk 6 rfl).cell 0
              have x1 := (hS.blk 6 rfl).cell 1
              have x2 := (hS.blk 6 rfl).cell 2
              simp at x0 x1 x2
              go_simp
              simp only [yUpon]
              exact hK _ _ rfl hS
            · intro D uu w' K hD hF hl hS hK
              simp only [puts, Act.put, List.setIfInBounds_toArray, List.set_cons_succ, List.set_cons_zero, Nat.zero_add, Nat.reduceAdd]
              go_simp
              simp only [yUpon]
              exact hK _ _ rfl hS
            · intro D uu w' K hD hF hl hS hK
              simp only [puts, Act.put, List.setIfInBounds_toArray, List.set_cons_succ, List.set_cons_zero, Nat.zero_add, Nat.reduceAdd]
              go_simp
              simp only [yUpon]
              exact hK _ _ rfl hS
            · intro D uu w' K hD hF hl hS hK
              simp only [puts, Act.put, List.setIfInBounds_toArray, List.set_cons_succ, List.set_cons_zero, Nat.zero_add, Nat.reduceAdd]
              go_simp
              simp only [yUpon]
              exact hK _ _ rfl hS
            · intro D uu w' K hD hF hl hS hK
              have f0 := (hF 0 (by kernel_rfl)).2
              simp only at f0
              have f1 := (hF 1 (by kernel_rfl)).2
              simp only at f1
              have f2 := (hF 2 (by kernel_rfl)).2
              simp only at f2
              have f3 := (hF 3 (by kernel_rfl)).2
              simp only at f3
              simp only [puts, Act.put, List.setIfInBounds_toArray, List.set_cons_succ, List.set_cons_zero, Nat.zero_add, Nat.reduceAdd]
              simp only [f0, f1, f2, f3]
              have h10 := hl 10 (by kernel_rfl)
              simp only [hD, h10, cond_false] at hS
              have e1 : (fset D 4 true) 4 = true := rfl
              have e2 : (fset D 4 true) 10 = false := h10
              go_simp
              simp only [yUpon]
              refine (HFS.out.write _ (hS.dev 1 rfl)).mono ?_
              rintro e w1 ⟨rfl, hd, hkk⟩
              refine hK _ _ rfl ?_
              simp only [e1, e2, cond_true, cond_false]
              exact hS.did (i := 1) rfl hd hkk
            · intro D uu w' K hD hF hl hS hK
              simp only [puts, Act.put, List.setIfInBounds_toArray, List.set_cons_succ, List.set_cons_zero, Nat.zero_add, Nat.reduceAdd]
              have x0 := (hS.blk 6 rfl).cell 0
              have x1 := (hS.blk 6 rfl).cell 1
              have x2 := (hS.blk 6 rfl).cell 2
              simp at x0 x1 x2
              go_simp
              simp only [yUpon]
              exact hK _ _ rfl hS
            · intro D uu w' K hD hF hl hS hK
              simp only [puts, Act.put, List.setIfInBounds_toArray, List.set_cons_succ, List.set_cons_zero, Nat.zero_add, Nat.reduceAdd]
              go_simp
              simp only [yUpon]
              exact hK _ _ rfl hS
            · intro D uu w' K hD hF hl hS hK
              simp only [puts, Act.put, List.setIfInBounds_toArray, List.set_cons_succ, List.set_cons_zero, Nat.zero_add, Nat.reduceAdd]
              go_simp
              simp only [yUpon]
              exact hK _ _ rfl hS
            · intro D uu w' K hD hF hl hS hK
              have f7 := (hF 7 (by kernel_rfl)).2
              simp only at f7
              simp only [puts, Act.put, List.setIfInBounds_toArray, List.set_cons_succ, List.set_cons_zero, Nat.zero_add, Nat.reduceAdd]
              simp only [f7]
              go_simp
              simp only [yUpon]
              exact hK _ _ rfl hS
            · intro D uu w' K hD hF hl hS hK
              simp only [puts, Act.put, List.setIfInBounds_toArray, List.set_cons_succ, List.set_cons_zero, Nat.zero_add, Nat.reduceAdd]
              go_simp
              simp only [yUpon]
              exact hK _ _ rfl hS
            · intro D uu w' K hD hF hl hS hK
              have f5 := (hF 5 (by kernel_rfl)).2
              simp only at f5
              have f6 := (hF 6 (by kernel_rfl)).2
              simp only at f6
              have f8 := (hF 8 (by kernel_rfl)).2
              simp only at f8
              have f9 := (hF 9 (by kernel_rfl)).2
              simp only at f9
              simp only [puts, Act.put, List.setIfInBounds_toArray, List.set_cons_succ, List.set_cons_zero, Nat.zero_add, Nat.reduceAdd]
              simp only [f5, f6, f8, f9]
              have d4 := (hF 4 (by kernel_rfl)).1
              simp only [hD, d4, cond_true, cond_false] at hS
              have e1 : (fset D 10 true) 10 = true := rfl
              go_simp
              simp only [yUpon]
              refine (HFS.out.point _ (hS.dev 1 rfl)).mono ?_
              rintro e w1 ⟨rfl, hd, hkk⟩
              refine hK _ _ rfl ?_
              simp only [e1, cond_true]
              exact hS.did (i := 1) rfl hd hkk
            · intro D uu w' K hD hF hl hS hK
              have f4 := (hF 4 (by kernel_rfl)).2
              simp only at f4
              simp only [puts, Act.put, List.setIfInBounds_toArray, List.set_cons_succ, List.set_cons_zero, Nat.zero_add, Nat.reduceAdd]
              simp only [f4]
              go_simp
              simp only [yUpon]
              exact hK _ _ rfl hS
            · intro D uu w' K hD hF hl hS hK
              have f10 := (hF 10 (by kernel_rfl)).2
              simp only at f10
              simp only [puts, Act.put, List.setIfInBounds_toArray, List.set_cons_succ, List.set_cons_zero, Nat.zero_add, Nat.reduceAdd]
              simp only [f10]
              go_simp
              simp only [yUpon]
              exact hK _ _ rfl hS
          case fin =>
            clear HS
            intro D uu wf hall hS
            have f10 := (hall 10 (by simp)).1
            have v11 := (hall 11 (by simp)).2
            have v12 := (hall 12 (by simp)).2
            simp only at v11 v12
            simp only [f10, cond_true] at hS
            have HS := Lib.hid hS
            clear hall hS f10
            simp only [puts, Act.put, List.setIfInBounds_toArray, List.set_cons_succ, List.set_cons_zero, Nat.zero_add, Nat.reduceAdd]
            simp only [v11, v12]
            clear v11 v12
            have o0 := (HS.out.blk 6 rfl).cell 0
            simp at o0
            have o1 := (HS.out.blk 6 rfl).cell 1
            simp at o1
            have o2 := (HS.out.blk 6 rfl).cell 2
            simp at o2
            go_wp2_with fail
            refine (HFS.out.read2 _ (HS.out.dev 1 rfl)).mono ?_
            rintro e wx ⟨rfl, hkk⟩
            replace HS := Lib.hid (HS.out.grow hkk)
            clear hkk o0 o1 o2
            have o0 := (HS.out.blk 6 rfl).cell 0
            simp at o0
            have o1 := (HS.out.blk 6 rfl).cell 1
            simp at o1
            have o2 := (HS.out.blk 6 rfl).cell 2
            simp at o2
            go_wp2_with fail
            refine (HFS.out.ref2 _ (HS.out.dev 1 rfl)).mono ?_
            rintro e wx ⟨rfl, hkk⟩
            replace HS := Lib.hid (HS.out.grow hkk)
            clear hkk o0 o1 o2
            have c0 := (HS.out.blk 4 rfl).cell 0
            simp at c0
            have c1 := (HS.out.blk 4 rfl).cell 1
            simp at c1
            have c2 := (HS.out.blk 4 rfl).cell 2
            simp at c2
            go_wp2_with fail
            refine (words7_any d (t) k _ (HS.out.dev 1 rfl) HK.out (HLENP.out.trans HNW.out.symm)).mono ?_
            rintro e wx ⟨g2, ex2, cw2, rfl, hbw, hgw, hkk⟩
            have hdl : ((t).now.drop k.act).length = nw - na := by rw [List.length_drop, HLENP.out, HNA.out]
            rw [hdl, HNA.out]
            replace HS := Lib.hid (HS.out.add hkk (r := blkR g2 25 (uw (t).now ++ ex2).toArray) hbw (by intro y hy; simp [blkR] at hy; subst hy; exact hgw))
            clear hbw hgw hkk hdl c0 c1 c2
            have hws : (t.now) = t.now := by rfl
            have h1 : Rd wx (.slice (some ⟨g2, na, none⟩) (nw - na) cw2) (uw (t.now.drop na)) := Rd.behind7 (HS.out.blk 8 rfl) (by rw [List.length_drop, HLENP.out])
            have h2 : Rd wx (.slice (some ⟨gw, na, none⟩) (nw - na) cw) (uw ((t.now).drop na)) := Rd.behind7 (HS.out.blk 7 rfl) (by (try simp only [List.length_drop, List.length_set]); rw [HNL.out])
            have heq := equal_any _ _ (t.now.drop na) ((t.now).drop na) wx h1 h2 (by rw [List.length_drop, HLENP.out]; omega)
            rw [decide_eq_true (by rw [hws])] at heq
            have HEQ := Lib.hid heq
            clear hws h1 h2 heq
            go_wp2_with fail
            refine HEQ.out.mono ?_
            rintro e wh ⟨rfl, hkk⟩
            replace HS := Lib.hid (HS.out.grow hkk)
            clear hkk
            go_wp2
            go_ret
            exact ⟨rfl, HS.out.keep⟩
      by_cases hcl : (m : Int) ≤ i
      · rcases HFS.out.errs with ⟨rfl, rfl, rfl, hc, htP⟩ | ⟨_, _, hc0, _⟩ | ⟨_, _, hc0, _⟩
        rotate_left
        · omega
        · omega
        clear hc
        cases a7 with
        | true => as_aux_lemma =>
          have t1 : ¬ i < 0 := by omega
          have t2 : (m : Int) ≤ i := hcl
          obtain rfl : eW = 1 := by have h := HFS.out.wN; simpa using h
          obtain rfl : eQ = 1 := by have h := HFS.out.wP; simpa using h
          have htQ := htP.symm
          clear htP
          subst htQ
          have hlen0 := HFS.out.len.trans HNL.out
          have HLENP := Lib.hid hlen0
          clear hlen0
          have o0 := (HS.out.blk 6 rfl).cell 0
          simp at o0
          have o1 := (HS.out.blk 6 rfl).cell 1
          simp at o1
          have o2 := (HS.out.blk 6 rfl).cell 2
          simp at o2
          go_upto_region 24 with fail
          clear o0 o1 o2
          have c0 := (HS.out.blk 4 rfl).cell 0
          simp at c0
          have c1 := (HS.out.blk 4 rfl).cell 1
          simp at c1
          have c2 := (HS.out.blk 4 rfl).cell 2
          simp at c2
          go_wp2_with fail
          refine (words7_any d (t) k _ (HS.out.dev 1 rfl) HK.out (HNL.out.trans HNW.out.symm)).mono ?_
          rintro e wx ⟨gw, ex, cw, rfl, hbw, hgw, hkk⟩
          have hdl : ((t).now.drop k.act).length = nw - na := by rw [List.length_drop, HNL.out, HNA.out]
          rw [hdl, HNA.out]
          replace HS := Lib.hid (HS.out.add hkk (r := blkR gw 25 (uw (t).now ++ ex).toArray) hbw (by intro y hy; simp [blkR] at hy; subst hy; exact hgw))
          clear hbw hgw hkk hdl c0 c1 c2
          have o0 := (HS.out.blk 6 rfl).cell 0
          simp at o0
          have o1 := (HS.out.blk 6 rfl).cell 1
          simp at o1
          have o2 := (HS.out.blk 6 rfl).cell 2
          simp at o2
          go_wp2_with fail
          refine (HFS.out.read _ (HS.out.dev 1 rfl)).mono ?_
          rintro e wx ⟨rfl, hkk⟩
          replace HS := Lib.hid (HS.out.grow hkk)
          clear hkk o0 o1 o2
          have o0 := (HS.out.blk 6 rfl).cell 0
          simp at o0
          have o1 := (HS.out.blk 6 rfl).cell 1
          simp at o1
          have o2 := (HS.out.blk 6 rfl).cell 2
          simp at o2
          go_wp2_with fail
          refine (HFS.out.ref _ (HS.out.dev 1 rfl)).mono ?_
          rintro e wx ⟨rfl, hkk⟩
          replace HS := Lib.hid (HS.out.grow hkk)
          clear hkk o0 o1 o2
          go_upto_region 29 with fail
          refine wp_region_st3 (W := w) (S := []) (by kernel_rfl) (by kernel_rfl) (by kernel_rfl) (fun D uu => [blkR gx 24 #[.int .u16 l, .int .u16 r, .int .u16 s], devR d (bif D 10 then t else bif D 4 then tW else t), rowR 3 (.slice (some ⟨g, 0, none⟩) os.length OC) (atsOf os), rowR 25 (.slice RA RL RC) (uw rs), blkR gk 29 #[.int .i64 (k.L : Int), .int .i64 (k.R : Int), .int .i64 (k.S : Int)], blkR gb 39 #[.int .i64 0, .int .i64 (u : Int), .slice RA RL RC], blkR go 75 #[.int .i64 (m : Int), .int .i64 (b : Int), .int .i64 (at_ : Int)], blkR gw 25 ((uw t.now ++ ex).toArray)])
            (fun j v => match j with
              | 0 => v = .agg #[.int .i64 (m : Int), .int .i64 (b : Int), .int .i64 (at_ : Int)]
              | 1 => v = .int .i64 i
              | 2 => v = .int .u64 a5
              | 3 => v = .func (.func 49) #[] #[]
              | 4 => v = .int .i64 1
              | 5 => v = .agg #[.int .i64 (m : Int), .int .i64 (b : Int), .int .i64 (at_ : Int)]
              | 6 => v = .int .i64 i
              | 7 => v = .int .u16 a6
              | 8 => v = .int .i64 a6
              | 9 => v = .func (.func 49) #[] #[]
              | 10 => v = .int .i64 1
              | 11 => v = .int .i64 1
              | 12 => v = .int .i64 1
              | _ => True) ?start ?step ?fin
          case start => exact fun u => HS.out
          case step =>
            clear HS
            refine ⟨?_, ?_, ?_, ?_, ?_, ?_, ?_, ?_, ?_, ?_, ?_, ?_, ?_, trivial⟩
            · intro D uu w' K hD hF hl hS hK
              simp only [puts, Act.put, List.setIfInBounds_toArray, List.set_cons_succ, List.set_cons_zero, Nat.zero_add, Nat.reduceAdd]
              have x0 := (hS.blk 6 rfl).cell 0
              have x1 := (hS.blk 6 rfl).cell 1
              have x2 := (hS.blk 6 rfl).cell 2
              simp at x0 x1 x2
              go_simp
              simp only [yUpon]
              exact hK _ _ rfl hS
            · intro D uu w' K hD hF hl hS hK
              simp only [puts, Act.put, List.setIfInBounds_toArray, List.set_cons_succ, List.set_cons_zero, Nat.zero_add, Nat.reduceAdd]
              go_simp
              simp only [yUpon]
              exact hK _ _ rfl hS
            · intro D uu w' K hD hF hl hS hK
              simp only [puts, Act.put, List.setIfInBounds_toArray, List.set_cons_succ, List.set_cons_zero, Nat.zero_add, Nat.reduceAdd]
              go_simp
              simp only [yUpon]
              exact hK _ _ rfl hS
            · intro D uu w' K hD hF hl hS hK
              simp only [puts, Act.put, List.setIfInBounds_toArray, List.set_cons_succ, List.set_cons_zero, Nat.zero_add, Nat.reduceAdd]
              go_simp
              simp only [yUpon]
              exact hK _ _ rfl hS
            · intro D uu w' K hD hF hl hS hK
              have f0 := (hF 0 (by kernel_rfl)).2
              simp only at f0
              have f1 := (hF 1 (by kernel_rfl)).2
              simp only at f1
              have f2 := (hF 2 (by kernel_rfl)).2
              simp only at f2
              have f3 := (hF 3 (by kernel_rfl)).2
              simp only at f3
              simp only [puts, Act.put, List.setIfInBounds_toArray, List.set_cons_succ, List.set_cons_zero, Nat.zero_add, Nat.reduceAdd]
              simp only [f0, f1, f2, f3]
              have h10 := hl 10 (by kernel_rfl)
              simp only [hD, h10, cond_false] at hS
              have e1 : (fset D 4 true) 4 = true := rfl
              have e2 : (fset D 4 true) 10 = false := h10
              go_simp
              simp only [yUpon]
              refine (HFS.out.write _ (hS.dev 1 rfl)).mono ?_
              rintro e w1 ⟨rfl, hd, hkk⟩
              refine hK _ _ rfl ?_
              simp only [e1, e2, cond_true, cond_false]
              exact hS.did (i := 1) rfl hd hkk
            · intro D uu w' K hD hF hl hS hK
              simp only [puts, Act.put, List.setIfInBounds_toArray, List.set_cons_succ, List.set_cons_zero, Nat.zero_add, Nat.reduceAdd]
              have x0 := (hS.blk 6 rfl).cell 0
              have x1 := (hS.blk 6 rfl).cell 1
              have x2 := (hS.blk 6 rfl).cell 2
              simp at x0 x1 x2
              go_simp
              simp only [yUpon]
              exact hK _ _ rfl hS
            · intro D uu w' K hD hF hl hS hK
              simp only [puts, Act.put, List.setIfInBounds_toArray, List.set_cons_succ, List.set_cons_zero, Nat.zero_add, Nat.reduceAdd]
              go_simp
              simp only [yUpon]
              exact hK _ _ rfl hS
            · intro D uu w' K hD hF hl hS hK
              simp only [puts, Act.put, List.setIfInBounds_toArray, List.set_cons_succ, List.set_cons_zero, Nat.zero_add, Nat.reduceAdd]
              go_simp
              simp only [yUpon]
              exact hK _ _ rfl hS
            · intro D uu w' K hD hF hl hS hK
              have f7 := (hF 7 (by kernel_rfl)).2
              simp only at f7
              simp only [puts, Act.put, List.setIfInBounds_toArray, List.set_cons_succ, List.set_cons_zero, Nat.zero_add, Nat.reduceAdd]
              simp only [f7]
              go_simp
              simp only [yUpon]
              exact hK _ _ rfl hS
            · intro D uu w' K hD hF hl hS hK
              simp only [puts, Act.put, List.setIfInBounds_toArray, List.set_cons_succ, List.set_cons_zero, Nat.zero_add, Nat.reduceAdd]
              go_simp
              simp only [yUpon]
              exact hK _ _ rfl hS
            · intro D uu w' K hD hF hl hS hK
              have f5 := (hF 5 (by kernel_rfl)).2
              simp only at f5
              have f6 := (hF 6 (by kernel_rfl)).2
              simp only at f6
              have f8 := (hF 8 (by kernel_rfl)).2
              simp only at f8
              have f9 := (hF 9 (by kernel_rfl)).2
              simp only at f9
              simp only [puts, Act.put, List.setIfInBounds_toArray, List.set_cons_succ, List.set_cons_zero, Nat.zero_add, Nat.reduceAdd]
              simp only [f5, f6, f8, f9]
              have d4 := (hF 4 (by kernel_rfl)).1
              simp only [hD, d4, cond_true, cond_false] at hS
              have e1 : (fset D 10 true) 10 = true := rfl
              go_simp
              simp only [yUpon]
              refine (HFS.out.point _ (hS.dev 1 rfl)).mono ?_
              rintro e w1 ⟨rfl, hd, hkk⟩
              refine hK _ _ rfl ?_
              simp only [e1, cond_true]
              exact hS.did (i := 1) rfl hd hkk
            · intro D uu w' K hD hF hl hS hK
              have f4 := (hF 4 (by kernel_rfl)).2
              simp only at f4
              simp only [puts, Act.put, List.setIfInBounds_toArray, List.set_cons_succ, List.set_cons_zero, Nat.zero_add, Nat.reduceAdd]
              simp only [f4]
              go_simp
              simp only [yUpon]
              exact hK _ _ rfl hS
            · intro D uu w' K hD hF hl hS hK
              have f10 := (hF 10 (by kernel_rfl)).2
              simp only at f10
              simp only [puts, Act.put, List.setIfInBounds_toArray, List.set_cons_succ, List.set_cons_zero, Nat.zero_add, Nat.reduceAdd]
              simp only [f10]
              go_simp
              simp only [yUpon]
              exact hK _ _ rfl hS
          case fin =>
            clear HS
            intro D uu wf hall hS
            have f10 := (hall 10 (by simp)).1
            have v11 := (hall 11 (by simp)).2
            have v12 := (hall 12 (by simp)).2
            simp only at v11 v12
            simp only [f10, cond_true] at hS
            have HS := Lib.hid hS
            clear hall hS f10
            simp only [puts, Act.put, List.setIfInBounds_toArray, List.set_cons_succ, List.set_cons_zero, Nat.zero_add, Nat.reduceAdd]
            simp only [v11, v12]
            clear v11 v12
            have o0 := (HS.out.blk 6 rfl).cell 0
            simp at o0
            have o1 := (HS.out.blk 6 rfl).cell 1
            simp at o1
            have o2 := (HS.out.blk 6 rfl).cell 2
            simp at o2
            go_wp2_with fail
            refine (HFS.out.read2 _ (HS.out.dev 1 rfl)).mono ?_
            rintro e wx ⟨rfl, hkk⟩
            replace HS := Lib.hid (HS.out.grow hkk)
            clear hkk o0 o1 o2
            have o0 := (HS.out.blk 6 rfl).cell 0
            simp at o0
            have o1 := (HS.out.blk 6 rfl).cell 1
            simp at o1
            have o2 := (HS.out.blk 6 rfl).cell 2
            simp at o2
            go_wp2_with fail
            refine (HFS.out.ref2 _ (HS.out.dev 1 rfl)).mono ?_
            rintro e wx ⟨rfl, hkk⟩
            replace HS := Lib.hid (HS.out.grow hkk)
            clear hkk o0 o1 o2
            have c0 := (HS.out.blk 4 rfl).cell 0
            simp at c0
            have c1 := (HS.out.blk 4 rfl).cell 1
            simp at c1
            have c2 := (HS.out.blk 4 rfl).cell 2
            simp at c2
            go_wp2_with fail
            refine (words7_any d (t) k _ (HS.out.dev 1 rfl) HK.out (HLENP.out.trans HNW.out.symm)).mono ?_
            rintro e wx ⟨g2, ex2, cw2, rfl, hbw, hgw, hkk⟩
            have hdl : ((t).now.drop k.act).length = nw - na := by rw [List.length_drop, HLENP.out, HNA.out]
            rw [hdl, HNA.out]
            replace HS := Lib.hid (HS.out.add hkk (r := blkR g2 25 (uw (t).now ++ ex2).toArray) hbw (by intro y hy; simp [blkR] at hy; subst hy; exact hgw))
            clear hbw hgw hkk hdl c0 c1 c2
            have hws : (t.now) = t.now := by rfl
            have h1 : Rd wx (.slice (some ⟨g2, na, none⟩) (nw - na) cw2) (uw (t.now.drop na)) := Rd.behind7 (HS.out.blk 8 rfl) (by rw [List.length_drop, HLENP.out])
            have h2 : Rd wx (.slice (some ⟨gw, na, none⟩) (nw - na) cw) (uw ((t.now).drop na)) := Rd.behind7 (HS.out.blk 7 rfl) (by (try simp only [List.length_drop, List.length_set]); rw [HNL.out])
            have heq := equal_any _ _ (t.now.drop na) ((t.now).drop na) wx h1 h2 (by rw [List.length_drop, HLENP.out]; omega)
            rw [decide_eq_true (by rw [hws])] at heq
            have HEQ := Lib.hid heq
            clear hws h1 h2 heq
            go_wp2_with fail
            refine HEQ.out.mono ?_
            rintro e wh ⟨rfl, hkk⟩
            replace HS := Lib.hid (HS.out.grow hkk)
            clear hkk
            go_wp2
            go_ret
            exact ⟨rfl, HS.out.keep⟩
        | false => as_aux_lemma =>
          have t1 : ¬ i < 0 := by omega
          have t2 : (m : Int) ≤ i := hcl
          obtain rfl : eW = 1 := by have h := HFS.out.wN; simpa using h
          obtain rfl : eQ = 1 := by have h := HFS.out.wP; simpa using h
          have htQ := htP.symm
          clear htP
          subst htQ
          have hlen0 := HFS.out.len.trans HNL.out
          have HLENP := Lib.hid hlen0
          clear hlen0
          have o0 := (HS.out.blk 6 rfl).cell 0
          simp at o0
          have o1 := (HS.out.blk 6 rfl).cell 1
          simp at o1
          have o2 := (HS.out.blk 6 rfl).cell 2
          simp at o2
          go_upto_region 24 with fail
          clear o0 o1 o2
          have c0 := (HS.out.blk 4 rfl).cell 0
          simp at c0
          have c1 := (HS.out.blk 4 rfl).cell 1
          simp at c1
          have c2 := (HS.out.blk 4 rfl).cell 2
          simp at c2
          go_wp2_with fail
          refine (words7_any d (t) k _ (HS.out.dev 1 rfl) HK.out (HNL.out.trans HNW.out.symm)).mono ?_
          rintro e wx ⟨gw, ex, cw, rfl, hbw, hgw, hkk⟩
          have hdl : ((t).now.drop k.act).length = nw - na := by rw [List.length_drop, HNL.out, HNA.out]
          rw [hdl, HNA.out]
          replace HS := Lib.hid (HS.out.add hkk (r := blkR gw 25 (uw (t).now ++ ex).toArray) hbw (by intro y hy; simp [blkR] at hy; subst hy; exact hgw))
          clear hbw hgw hkk hdl c0 c1 c2
          have o0 := (HS.out.blk 6 rfl).cell 0
          simp at o0
          have o1 := (HS.out.blk 6 rfl).cell 1
          simp at o1
          have o2 := (HS.out.blk 6 rfl).cell 2
          simp at o2
          go_wp2_with fail
          refine (HFS.out.read _ (HS.out.dev 1 rfl)).mono ?_
          rintro e wx ⟨rfl, hkk⟩
          replace HS := Lib.hid (HS.out.grow hkk)
          clear hkk o0 o1 o2
          have o0 := (HS.out.blk 6 rfl).cell 0
          simp at o0
          have o1 := (HS.out.blk 6 rfl).cell 1
          simp at o1
          have o2 := (HS.out.blk 6 rfl).cell 2
          simp at o2
          go_wp2_with fail
          refine (HFS.out.ref _ (HS.out.dev 1 rfl)).mono ?_
          rintro e wx ⟨rfl, hkk⟩
          replace HS := Lib.hid (HS.out.grow hkk)
          clear hkk o0 o1 o2
          go_upto_region 29 with fail
          refine wp_region_st3 (W := w) (S := []) (by kernel_rfl) (by kernel_rfl) (by kernel_rfl) (fun D uu => [blkR gx 24 #[.int .u16 l, .int .u16 r, .int .u16 s], devR d (bif D 10 then t else bif D 4 then tW else t), rowR 3 (.slice (some ⟨g, 0, none⟩) os.length OC) (atsOf os), rowR 25 (.slice RA RL RC) (uw rs), blkR gk 29 #[.int .i64 (k.L : Int), .int .i64 (k.R : Int), .int .i64 (k.S : Int)], blkR gb 39 #[.int .i64 0, .int .i64 (u : Int), .slice RA RL RC], blkR go 75 #[.int .i64 (m : Int), .int .i64 (b : Int), .int .i64 (at_ : Int)], blkR gw 25 ((uw t.now ++ ex).toArray)])
            (fun j v => match j with
              | 0 => v = .agg #[.int .i64 (m : Int), .int .i64 (b : Int), .int .i64 (at_ : Int)]
              | 1 => v = .int .i64 i
              | 2 => v = .int .u64 a5
              | 3 => v = .func (.func 19) #[.pointer (some ⟨d.b, 0, none⟩)] #[]
              | 4 => v = .int .i64 1
              | 5 => v = .agg #[.int .i64 (m : Int), .int .i64 (b : Int), .int .i64 (at_ : Int)]
              | 6 => v = .int .i64 i
              | 7 => v = .int .u16 a6
              | 8 => v = .int .i64 a6
              | 9 => v = .func (.func 19) #[.pointer (some ⟨d.b, 0, none⟩)] #[]
              | 10 => v = .int .i64 1
              | 11 => v = .int .i64 1
              | 12 => v = .int .i64 1
              | _ => True) ?start ?step ?fin
          case start => exact fun u => HS.out
          case step =>
            clear HS
            refine ⟨?_, ?_, ?_, ?_, ?_, ?_, ?_, ?_, ?_, ?_, ?_, ?_, ?_, trivial⟩
            · intro D uu w' K hD hF hl hS hK
              simp only [puts, Act.put, List.setIfInBounds_toArray, List.set_cons_succ, List.set_cons_zero, Nat.zero_add, Nat.reduceAdd]
              have x0 := (hS.blk 6 rfl).cell 0
              have x1 := (hS.blk 6 rfl).cell 1
              have x2 := (hS.blk 6 rfl).cell 2
              simp at x0 x1 x2
              go_simp
              simp only [yUpon]
              exact hK _ _ rfl hS
            · intro D uu w' K hD hF hl hS hK
              simp only [puts, Act.put, List.setIfInBounds_toArray, List.set_cons_succ, List.set_cons_zero, Nat.zero_add, Nat.reduceAdd]
              go_simp
              simp only [yUpon]
              exact hK _ _ rfl hS
            · intro D uu w' K hD hF hl hS hK
              simp only [puts, Act.put, List.setIfInBounds_toArray, List.set_cons_succ, List.set_cons_zero, Nat.zero_add, Nat.reduceAdd]
              go_simp
              simp only [yUpon]
              exact hK _ _ rfl hS
            · intro D uu w' K hD hF hl hS hK
              simp only [puts, Act.put, List.setIfInBounds_toArray, List.set_cons_succ, List.set_cons_zero, Nat.zero_add, Nat.reduceAdd]
              go_simp
              simp only [yUpon]
              exact hK _ _ rfl hS
            · intro D uu w' K hD hF hl hS hK
              have f0 := (hF 0 (by kernel_rfl)).2
              simp only at f0
              have f1 := (hF 1 (by kernel_rfl)).2
              simp only at f1
              have f2 := (hF 2 (by kernel_rfl)).2
              simp only at f2
              have f3 := (hF 3 (by kernel_rfl)).2
              simp only at f3
              simp only [puts, Act.put, List.setIfInBounds_toArray, List.set_cons_succ, List.set_cons_zero, Nat.zero_add, Nat.reduceAdd]
              simp only [f0, f1, f2, f3]
              have h10 := hl 10 (by kernel_rfl)
              simp only [hD, h10, cond_false] at hS
              have e1 : (fset D 4 true) 4 = true := rfl
              have e2 : (fset D 4 true) 10 = false := h10
              go_simp
              simp only [yUpon]
              refine (HFS.out.write _ (hS.dev 1 rfl)).mono ?_
              rintro e w1 ⟨rfl, hd, hkk⟩
              refine hK _ _ rfl ?_
              simp only [e1, e2, cond_true, cond_false]
              exact hS.did (i := 1) rfl hd hkk
            · intro D uu w' K hD hF hl hS hK
              simp only [puts, Act.put, List.setIfInBounds_toArray, List.set_cons_succ, List.set_cons_zero, Nat.zero_add, Nat.reduceAdd]
              have x0 := (hS.blk 6 rfl).cell 0
              have x1 := (hS.blk 6 rfl).cell 1
              have x2 := (hS.blk 6 rfl).cell 2
              simp at x0 x1 x2
              go_simp
              simp only [yUpon]
              exact hK _ _ rfl hS
            · intro D uu w' K hD hF hl hS hK
              simp only [puts, Act.put, List.setIfInBounds_toArray, List.set_cons_succ, List.set_cons_zero, Nat.zero_add, Nat.reduceAdd]
              go_simp
              simp only [yUpon]
              exact hK _ _ rfl hS
            · intro D uu w' K hD hF hl hS hK
              simp only [puts, Act.put, List.setIfInBounds_toArray, List.set_cons_succ, List.set_cons_zero, Nat.zero_add, Nat.reduceAdd]
              go_simp
              simp only [yUpon]
              exact hK _ _ rfl hS
            · intro D uu w' K hD hF hl hS hK
              have f7 := (hF 7 (by kernel_rfl)).2
              simp only at f7
              simp only [puts, Act.put, List.setIfInBounds_toArray, List.set_cons_succ, List.set_cons_zero, Nat.zero_add, Nat.reduceAdd]
              simp only [f7]
              go_simp
              simp only [yUpon]
              exact hK _ _ rfl hS
            · intro D uu w' K hD hF hl hS hK
              simp only [puts, Act.put, List.setIfInBounds_toArray, List.set_cons_succ, List.set_cons_zero, Nat.zero_add, Nat.reduceAdd]
              go_simp
              simp only [yUpon]
              exact hK _ _ rfl hS
            · intro D uu w' K hD hF hl hS hK
              have f5 := (hF 5 (by kernel_rfl)).2
              simp only at f5
              have f6 := (hF 6 (by kernel_rfl)).2
              simp only at f6
              have f8 := (hF 8 (by kernel_rfl)).2
              simp only at f8
              have f9 := (hF 9 (by kernel_rfl)).2
              simp only at f9
              simp only [puts, Act.put, List.setIfInBounds_toArray, List.set_cons_succ, List.set_cons_zero, Nat.zero_add, Nat.reduceAdd]
              simp only [f5, f6, f8, f9]
              have d4 := (hF 4 (by kernel_rfl)).1
              simp only [hD, d4, cond_true, cond_false] at hS
              have e1 : (fset D 10 true) 10 = true := rfl
              go_simp
              simp only [yUpon]
              refine (HFS.out.point _ (hS.dev 1 rfl)).mono ?_
              rintro e w1 ⟨rfl, hd, hkk⟩
              refine hK _ _ rfl ?_
              simp only [e1, cond_true]
              exact hS.did (i := 1) rfl hd hkk
            · intro D uu w' K hD hF hl hS hK
              have f4 := (hF 4 (by kernel_rfl)).2
              simp only at f4
              simp only [puts, Act.put, List.setIfInBounds_toArray, List.set_cons_succ, List.set_cons_zero, Nat.zero_add, Nat.reduceAdd]
              simp only [f4]
              go_simp
              simp only [yUpon]
              exact hK _ _ rfl hS
            · intro D uu w' K hD hF hl hS hK
              have f10 := (hF 10 (by kernel_rfl)).2
              simp only at f10
              simp only [puts, Act.put, List.setIfInBounds_toArray, List.set_cons_succ, List.set_cons_zero, Nat.zero_add, Nat.reduceAdd]
              simp only [f10]
              go_simp
              simp only [yUpon]
              exact hK _ _ rfl hS
          case fin =>
            clear HS
            intro D uu wf hall hS
            have f10 := (hall 10 (by simp)).1
            have v11 := (hall 11 (by simp)).2
            have v12 := (hall 12 (by simp)).2
            simp only at v11 v12
            simp only [f10, cond_true] at hS
            have HS := Lib.hid hS
            clear hall hS f10
            simp only [puts, Act.put, List.setIfInBounds_toArray, List.set_cons_succ, List.set_cons_zero, Nat.zero_add, Nat.reduceAdd]
            simp only [v11, v12]
            clear v11 v12
            have o0 := (HS.out.blk 6 rfl).cell 0
            simp at o0
            have o1 := (HS.out.blk 6 rfl).cell 1
            simp at o1
            have o2 := (HS.out.blk 6 rfl).cell 2
            simp at o2
            go_wp2_with fail
            refine (HFS.out.read2 _ (HS.out.dev 1 rfl)).mono ?_
            rintro e wx ⟨rfl, hkk⟩
            replace HS := Lib.hid (HS.out.grow hkk)
            clear hkk o0 o1 o2
            have o0 := (HS.out.blk 6 rfl).cell 0
            simp at o0
            have o1 := (HS.out.blk 6 rfl).cell 1
            simp at o1
            have o2 := (HS.out.blk 6 rfl).cell 2
            simp at o2
            go_wp2_with fail
            refine (HFS.out.ref2 _ (HS.out.dev 1 rfl)).mono ?_
            rintro e wx ⟨rfl, hkk⟩
            replace HS := Lib.hid (HS.out.grow hkk)
            clear hkk o0 o1 o2
            have c0 := (HS.out.blk 4 rfl).cell 0
            simp at c0
            have c1 := (HS.out.blk 4 rfl).cell 1
            simp at c1
            have c2 := (HS.out.blk 4 rfl).cell 2
            simp at c2
            go_wp2_with fail
            refine (words7_any d (t) k _ (HS.out.dev 1 rfl) HK.out (HLENP.out.trans HNW.out.symm)).mono ?_
            rintro e wx ⟨g2, ex2, cw2, rfl, hbw, hgw, hkk⟩
            have hdl : ((t).now.drop k.act).length = nw - na := by rw [List.length_drop, HLENP.out, HNA.out]
            rw [hdl, HNA.out]
            replace HS := Lib.hid (HS.out.add hkk (r := blkR g2 25 (uw (t).now ++ ex2).toArray) hbw (by intro y hy; simp [blkR] at hy; subst hy; exact hgw))
            clear hbw hgw hkk hdl c0 c1 c2
            have hws : (t.now) = t.now := by rfl
            have h1 : Rd wx (.slice (some ⟨g2, na, none⟩) (nw - na) cw2) (uw (t.now.drop na)) := Rd.behind7 (HS.out.blk 8 rfl) (by rw [List.length_drop, HLENP.out])
            have h2 : Rd wx (.slice (some ⟨gw, na, none⟩) (nw - na) cw) (uw ((t.now).drop na)) := Rd.behind7 (HS.out.blk 7 rfl) (by (try simp only [List.length_drop, List.length_set]); rw [HNL.out])
            have heq := equal_any _ _ (t.now.drop na) ((t.now).drop na) wx h1 h2 (by rw [List.length_drop, HLENP.out]; omega)
            rw [decide_eq_true (by rw [hws])] at heq
            have HEQ := Lib.hid heq
            clear hws h1 h2 heq
            go_wp2_with fail
            refine HEQ.out.mono ?_
            rintro e wh ⟨rfl, hkk⟩
            replace HS := Lib.hid (HS.out.grow hkk)
            clear hkk
            go_wp2
            go_ret
            exact ⟨rfl, HS.out.keep⟩
      rcases HFS.out.errs with ⟨_, _, _, hc, _⟩ | ⟨rfl, hc0, hc1, hc2, rfl, rfl⟩ | ⟨rfl, hc0, hc1, hc2, rfl, rfl⟩
      · exfalso; omega
      · cases a7 with
        | true => as_aux_lemma =>
          have t1 : ¬ i < 0 := by omega
          have t2 : ¬ (m : Int) ≤ i := by omega
          have t3 : i < (b : Int) := by omega
          obtain rfl : eW = 5 := by have h := HFS.out.wN; simpa using h
          obtain rfl : eQ = 3 := by have h := HFS.out.wP; simpa using h
          have htP := HFS.out.same rfl
          have htQ := htP.symm
          clear htP
          subst htQ
          have hlen0 := HFS.out.len.trans HNL.out
          have HLENP := Lib.hid hlen0
          clear hlen0
          have o0 := (HS.out.blk 6 rfl).cell 0
          simp at o0
          have o1 := (HS.out.blk 6 rfl).cell 1
          simp at o1
          have o2 := (HS.out.blk 6 rfl).cell 2
          simp at o2
          go_upto_region 24 with fail
          clear o0 o1 o2
          have c0 := (HS.out.blk 4 rfl).cell 0
          simp at c0
          have c1 := (HS.out.blk 4 rfl).cell 1
          simp at c1
          have c2 := (HS.out.blk 4 rfl).cell 2
          simp at c2
          go_wp2_with fail
          refine (words7_any d (t) k _ (HS.out.dev 1 rfl) HK.out (HNL.out.trans HNW.out.symm)).mono ?_
          rintro e wx ⟨gw, ex, cw, rfl, hbw, hgw, hkk⟩
          have hdl : ((t).now.drop k.act).length = nw - na := by rw [List.length_drop, HNL.out, HNA.out]
          rw [hdl, HNA.out]
          replace HS := Lib.hid (HS.out.add hkk (r := blkR gw 25 (uw (t).now ++ ex).toArray) hbw (by intro y hy; simp [blkR] at hy; subst hy; exact hgw))
          clear hbw hgw hkk hdl c0 c1 c2
          have o0 := (HS.out.blk 6 rfl).cell 0
          simp at o0
          have o1 := (HS.out.blk 6 rfl).cell 1
          simp at o1
          have o2 := (HS.out.blk 6 rfl).cell 2
          simp at o2
          go_wp2_with fail
          refine (HFS.out.read _ (HS.out.dev 1 rfl)).mono ?_
          rintro e wx ⟨rfl, hkk⟩
          replace HS := Lib.hid (HS.out.grow hkk)
          clear hkk o0 o1 o2
          have o0 := (HS.out.blk 6 rfl).cell 0
          simp at o0
          have o1 := (HS.out.blk 6 rfl).cell 1
          simp at o1
          have o2 := (HS.out.blk 6 rfl).cell 2
          simp at o2
          go_wp2_with fail
          refine (HFS.out.ref _ (HS.out.dev 1 rfl)).mono ?_
          rintro e wx ⟨rfl, hkk⟩
          replace HS := Lib.hid (HS.out.grow hkk)
          clear hkk o0 o1 o2
          go_upto_region 29 with fail
          refine wp_region_st3 (W := w) (S := []) (by kernel_rfl) (by kernel_rfl) (by kernel_rfl) (fun D uu => [blkR gx 24 #[.int .u16 l, .int .u16 r, .int .u16 s], devR d (bif D 10 then t else bif D 4 then tW else t), rowR 3 (.slice (some ⟨g, 0, none⟩) os.length OC) (atsOf os), rowR 25 (.slice RA RL RC) (uw rs), blkR gk 29 #[.int .i64 (k.L : Int), .int .i64 (k.R : Int), .int .i64 (k.S : Int)], blkR gb 39 #[.int .i64 0, .int .i64 (u : Int), .slice RA RL RC], blkR go 75 #[.int .i64 (m : Int), .int .i64 (b : Int), .int .i64 (at_ : Int)], blkR gw 25 ((uw t.now ++ ex).toArray)])
            (fun j v => match j with
              | 0 => v = .agg #[.int .i64 (m : Int), .int .i64 (b : Int), .int .i64 (at_ : Int)]
              | 1 => v = .int .i64 i
              | 2 => v = .int .u64 a5
              | 3 => v = .func (.func 49) #[] #[]
              | 4 => v = .int .i64 5
              | 5 => v = .agg #[.int .i64 (m : Int), .int .i64 (b : Int), .int .i64 (at_ : Int)]
              | 6 => v = .int .i64 i
              | 7 => v = .int .u16 a6
              | 8 => v = .int .i64 a6
              | 9 => v = .func (.func 49) #[] #[]
              | 10 => v = .int .i64 3
              | 11 => v = .int .i64 5
              | 12 => v = .int .i64 3
              | _ => True) ?start ?step ?fin
          case start => exact fun u => HS.out
          case step =>
            clear HS
            refine ⟨?_, ?_, ?_, ?_, ?_, ?_, ?_, ?_, ?_, ?_, ?_, ?_, ?_, trivial⟩
            · intro D uu w' K hD hF hl hS hK
              simp only [puts, Act.put, List.setIfInBounds_toArray, List.set_cons_succ, List.set_cons_zero, Nat.zero_add, Nat.reduceAdd]
              have x0 := (hS.blk 6 rfl).cell 0
              have x1 := (hS.blk 6 rfl).cell 1
              have x2 := (hS.blk 6 rfl).cell 2
              simp at x0 x1 x2
              go_simp
              simp only [yUpon]
              exact hK _ _ rfl hS
            · intro D uu w' K hD hF hl hS hK
              simp only [puts, Act.put, List.setIfInBounds_toArray, List.set_cons_succ, List.set_cons_zero, Nat.zero_add, Nat.reduceAdd]
              go_simp
              simp only [yUpon]
              exact hK _ _ rfl hS
            · intro D uu w' K hD hF hl hS hK
              simp only [puts, Act.put, List.setIfInBounds_toArray, List.set_cons_succ, List.set_cons_zero, Nat.zero_add, Nat.reduceAdd]
              go_simp
              simp only [yUpon]
              exact hK _ _ rfl hS
            · intro D uu w' K hD hF hl hS hK
              simp only [puts, Act.put, List.setIfInBounds_toArray, List.set_cons_succ, List.set_cons_zero, Nat.zero_add, Nat.reduceAdd]
              go_simp
              simp only [yUpon]
              exact hK _ _ rfl hS
            · intro D uu w' K hD hF hl hS hK
              have f0 := (hF 0 (by kernel_rfl)).2
              simp only at f0
              have f1 := (hF 1 (by kernel_rfl)).2
              simp only at f1
              have f2 := (hF 2 (by kernel_rfl)).2
              simp only at f2
              have f3 := (hF 3 (by kernel_rfl)).2
              simp only at f3
              simp only [puts, Act.put, List.setIfInBounds_toArray, List.set_cons_succ, List.set_cons_zero, Nat.zero_add, Nat.reduceAdd]
              simp only [f0, f1, f2, f3]
              have h10 := hl 10 (by kernel_rfl)
              simp only [hD, h10, cond_false] at hS
              have e1 : (fset D 4 true) 4 = true := rfl
              have e2 : (fset D 4 true) 10 = false := h10
              go_simp
              simp only [yUpon]
              refine (HFS.out.write _ (hS.dev 1 rfl)).mono ?_
              rintro e w1 ⟨rfl, hd, hkk⟩
              refine hK _ _ rfl ?_
              simp only [e1, e2, cond_true, cond_false]
              exact hS.did (i := 1) rfl hd hkk
            · intro D uu w' K hD hF hl hS hK
              simp only [puts, Act.put, List.setIfInBounds_toArray, List.set_cons_succ, List.set_cons_zero, Nat.zero_add, Nat.reduceAdd]
              have x0 := (hS.blk 6 rfl).cell 0
              have x1 := (hS.blk 6 rfl).cell 1
              have x2 := (hS.blk 6 rfl).cell 2
              simp at x0 x1 x2
              go_simp
              simp only [yUpon]
              exact hK _ _ rfl hS
            · intro D uu w' K hD hF hl hS hK
              simp only [puts, Act.put, List.setIfInBounds_toArray, List.set_cons_succ, List.set_cons_zero, Nat.zero_add, Nat.reduceAdd]
              go_simp
              simp only [yUpon]
              exact hK _ _ rfl hS
            · intro D uu w' K hD hF hl hS hK
              simp only [puts, Act.put, List.setIfInBounds_toArray, List.set_cons_succ, List.set_cons_zero, Nat.zero_add, Nat.reduceAdd]
              go_simp
              simp only [yUpon]
              exact hK _ _ rfl hS
            · intro D uu w' K hD hF hl hS hK
              have f7 := (hF 7 (by kernel_rfl)).2
              simp only at f7
              simp only [puts, Act.put, List.setIfInBounds_toArray, List.set_cons_succ, List.set_cons_zero, Nat.zero_add, Nat.reduceAdd]
              simp only [f7]
              go_simp
              simp only [yUpon]
              exact hK _ _ rfl hS
            · intro D uu w' K hD hF hl hS hK
              simp only [puts, Act.put, List.setIfInBounds_toArray, List.set_cons_succ, List.set_cons_zero, Nat.zero_add, Nat.reduceAdd]
              go_simp
              simp only [yUpon]
              exact hK _ _ rfl hS
            · intro D uu w' K hD hF hl hS hK
              have f5 := (hF 5 (by kernel_rfl)).2
              simp only at f5
              have f6 := (hF 6 (by kernel_rfl)).2
              simp only at f6
              have f8 := (hF 8 (by kernel_rfl)).2
              simp only at f8
              have f9 := (hF 9 (by kernel_rfl)).2
              simp only at f9
              simp only [puts, Act.put, List.setIfInBounds_toArray, List.set_cons_succ, List.set_cons_zero, Nat.zero_add, Nat.reduceAdd]
              simp only [f5, f6, f8, f9]
              have d4 := (hF 4 (by kernel_rfl)).1
              simp only [hD, d4, cond_true, cond_false] at hS
              have e1 : (fset D 10 true) 10 = true := rfl
              go_simp
              simp only [yUpon]
              refine (HFS.out.point _ (hS.dev 1 rfl)).mono ?_
              rintro e w1 ⟨rfl, hd, hkk⟩
              refine hK _ _ rfl ?_
              simp only [e1, cond_true]
              exact hS.did (i := 1) rfl hd hkk
            · intro D uu w' K hD hF hl hS hK
              have f4 := (hF 4 (by kernel_rfl)).2
              simp only at f4
              simp only [puts, Act.put, List.setIfInBounds_toArray, List.set_cons_succ, List.set_cons_zero, Nat.zero_add, Nat.reduceAdd]
              simp only [f4]
              go_simp
              simp only [yUpon]
              exact hK _ _ rfl hS
            · intro D uu w' K hD hF hl hS hK
              have f10 := (hF 10 (by kernel_rfl)).2
              simp only at f10
              simp only [puts, Act.put, List.setIfInBounds_toArray, List.set_cons_succ, List.set_cons_zero, Nat.zero_add, Nat.reduceAdd]
              simp only [f10]
              go_simp
              simp only [yUpon]
              exact hK _ _ rfl hS
          case fin =>
            clear HS
            intro D uu wf hall hS
            have f10 := (hall 10 (by simp)).1
            have v11 := (hall 11 (by simp)).2
            have v12 := (hall 12 (by simp)).2
            simp only at v11 v12
            simp only [f10, cond_true] at hS
            have HS := Lib.hid hS
            clear hall hS f10
            simp only [puts, Act.put, List.setIfInBounds_toArray, List.set_cons_succ, List.set_cons_zero, Nat.zero_add, Nat.reduceAdd]
            simp only [v11, v12]
            clear v11 v12
            have o0 := (HS.out.blk 6 rfl).cell 0
            simp at o0
            have o1 := (HS.out.blk 6 rfl).cell 1
            simp at o1
            have o2 := (HS.out.blk 6 rfl).cell 2
            simp at o2
            go_wp2_with fail
            refine (HFS.out.read2 _ (HS.out.dev 1 rfl)).mono ?_
            rintro e wx ⟨rfl, hkk⟩
            replace HS := Lib.hid (HS.out.grow hkk)
            clear hkk o0 o1 o2
            have o0 := (HS.out.blk 6 rfl).cell 0
            simp at o0
            have o1 := (HS.out.blk 6 rfl).cell 1
            simp at o1
            have o2 := (HS.out.blk 6 rfl).cell 2
            simp at o2
            go_wp2_with fail
            refine (HFS.out.ref2 _ (HS.out.dev 1 rfl)).mono ?_
            rintro e wx ⟨rfl, hkk⟩
            replace HS := Lib.hid (HS.out.grow hkk)
            clear hkk o0 o1 o2
            have c0 := (HS.out.blk 4 rfl).cell 0
            simp at c0
            have c1 := (HS.out.blk 4 rfl).cell 1
            simp at c1
            have c2 := (HS.out.blk 4 rfl).cell 2
            simp at c2
            go_wp2_with fail
            refine (words7_any d (t) k _ (HS.out.dev 1 rfl) HK.out (HLENP.out.trans HNW.out.symm)).mono ?_
            rintro e wx ⟨g2, ex2, cw2, rfl, hbw, hgw, hkk⟩
            have hdl : ((t).now.drop k.act).length = nw - na := by rw [List.length_drop, HLENP.out, HNA.out]
            rw [hdl, HNA.out]
            replace HS := Lib.hid (HS.out.add hkk (r := blkR g2 25 (uw (t).now ++ ex2).toArray) hbw (by intro y hy; simp [blkR] at hy; subst hy; exact hgw))
            clear hbw hgw hkk hdl c0 c1 c2
            have hws : (t.now) = t.now := by rfl
            have h1 : Rd wx (.slice (some ⟨g2, na, none⟩) (nw - na) cw2) (uw (t.now.drop na)) := Rd.behind7 (HS.out.blk 8 rfl) (by rw [List.length_drop, HLENP.out])
            have h2 : Rd wx (.slice (some ⟨gw, na, none⟩) (nw - na) cw) (uw ((t.now).drop na)) := Rd.behind7 (HS.out.blk 7 rfl) (by (try simp only [List.length_drop, List.length_set]); rw [HNL.out])
            have heq := equal_any _ _ (t.now.drop na) ((t.now).drop na) wx h1 h2 (by rw [List.length_drop, HLENP.out]; omega)
            rw [decide_eq_true (by rw [hws])] at heq
            have HEQ := Lib.hid heq
            clear hws h1 h2 heq
            go_wp2_with fail
            refine HEQ.out.mono ?_
            rintro e wh ⟨rfl, hkk⟩
            replace HS := Lib.hid (HS.out.grow hkk)
            clear hkk
            go_wp2
            go_ret
            exact ⟨rfl, HS.out.keep⟩
        | false => as_aux_lemma =>
          have t1 : ¬ i < 0 := by omega
          have t2 : ¬ (m : Int) ≤ i := by omega
          have t3 : i < (b : Int) := by omega
          obtain rfl : eW = 5 := by have h := HFS.out.wN; simpa using h
          obtain rfl : eQ = 0 := by have h := HFS.out.wP; simpa using h
          obtain ⟨qd, hqd, htP⟩ := HFS.out.name rfl rfl
          obtain ⟨n, rfl⟩ : ∃ n : Nat, i = (n : Int) := ⟨i.toNat, by omega⟩
          obtain ⟨rr, hrr⟩ : ∃ rr, na + rr = qd := ⟨qd - na, by omega⟩
          have hs1 : IntKind.i64.wrap ((at_ : Int) + 1) = (at_ : Int) + 1 := IntWalk.i64_in _ (by omega)
          have hs2 : IntKind.i64.wrap ((at_ : Int) + 1 + (n : Int)) = (qd : Int) := by rw [IntWalk.i64_in _ (by omega)]; omega
          have hs3 : IntKind.i64.wrap ((qd : Int) - (na : Int)) = (rr : Int) := by rw [IntWalk.i64_in _ (by omega)]; omega
          have hrl : rr < nw - na := by omega
          have hrlI : (rr : Int) < ((nw - na : Nat) : Int) := by omega
          have HQD := Lib.hid hqd
          have HRR := Lib.hid hrr
          have hval := ((HFS.out.vals rfl).2 rfl).symm
          subst hval
          have hlen0 := HFS.out.len.trans HNL.out
          have HLENP := Lib.hid hlen0
          clear hlen0
          have HTP := Lib.hid htP
          clear htP hqd hrr
          have o0 := (HS.out.blk 6 rfl).cell 0
          simp at o0
          have o1 := (HS.out.blk 6 rfl).cell 1
          simp at o1
          have o2 := (HS.out.blk 6 rfl).cell 2
          simp at o2
          go_upto_region 24 with fail
          clear o0 o1 o2
          have c0 := (HS.out.blk 4 rfl).cell 0
          simp at c0
          have c1 := (HS.out.blk 4 rfl).cell 1
          simp at c1
          have c2 := (HS.out.blk 4 rfl).cell 2
          simp at c2
          go_wp2_with fail
          refine (words7_any d (t) k _ (HS.out.dev 1 rfl) HK.out (HNL.out.trans HNW.out.symm)).mono ?_
          rintro e wx ⟨gw, ex, cw, rfl, hbw, hgw, hkk⟩
          have hdl : ((t).now.drop k.act).length = nw - na := by rw [List.length_drop, HNL.out, HNA.out]
          rw [hdl, HNA.out]
          replace HS := Lib.hid (HS.out.add hkk (r := blkR gw 25 (uw (t).now ++ ex).toArray) hbw (by intro y hy; simp [blkR] at hy; subst hy; exact hgw))
          clear hbw hgw hkk hdl c0 c1 c2
          have o0 := (HS.out.blk 6 rfl).cell 0
          simp at o0
          have o1 := (HS.out.blk 6 rfl).cell 1
          simp at o1
          have o2 := (HS.out.blk 6 rfl).cell 2
          simp at o2
          go_wp2_with fail
          refine (HFS.out.read _ (HS.out.dev 1 rfl)).mono ?_
          rintro e wx ⟨rfl, hkk⟩
          replace HS := Lib.hid (HS.out.grow hkk)
          clear hkk o0 o1 o2
          have o0 := (HS.out.blk 6 rfl).cell 0
          simp at o0
          have o1 := (HS.out.blk 6 rfl).cell 1
          simp at o1
          have o2 := (HS.out.blk 6 rfl).cell 2
          simp at o2
          go_wp2_with fail
          refine (HFS.out.ref _ (HS.out.dev 1 rfl)).mono ?_
          rintro e wx ⟨rfl, hkk⟩
          replace HS := Lib.hid (HS.out.grow hkk)
          clear hkk o0 o1 o2
          go_upto_region 29 with fail
          refine wp_region_st3 (W := w) (S := []) (by kernel_rfl) (by kernel_rfl) (by kernel_rfl) (fun D uu => [blkR gx 24 #[.int .u16 l, .int .u16 r, .int .u16 s], devR d (bif D 10 then tP else bif D 4 then tW else t), rowR 3 (.slice (some ⟨g, 0, none⟩) os.length OC) (atsOf os), rowR 25 (.slice RA RL RC) (uw rs), blkR gk 29 #[.int .i64 (k.L : Int), .int .i64 (k.R : Int), .int .i64 (k.S : Int)], blkR gb 39 #[.int .i64 0, .int .i64 (u : Int), .slice RA RL RC], blkR go 75 #[.int .i64 (m : Int), .int .i64 (b : Int), .int .i64 (at_ : Int)], blkR gw 25 ((uw t.now ++ ex).toArray)])
            (fun j v => match j with
              | 0 => v = .agg #[.int .i64 (m : Int), .int .i64 (b : Int), .int .i64 (at_ : Int)]
              | 1 => v = .int .i64 (n : Int)
              | 2 => v = .int .u64 a5
              | 3 => v = .func (.func 19) #[.pointer (some ⟨d.b, 0, none⟩)] #[]
              | 4 => v = .int .i64 5
              | 5 => v = .agg #[.int .i64 (m : Int), .int .i64 (b : Int), .int .i64 (at_ : Int)]
              | 6 => v = .int .i64 (n : Int)
              | 7 => v = .int .u16 a6
              | 8 => v = .int .i64 a6
              | 9 => v = .func (.func 19) #[.pointer (some ⟨d.b, 0, none⟩)] #[]
              | 10 => v = .int .i64 0
              | 11 => v = .int .i64 5
              | 12 => v = .int .i64 0
              | _ => True) ?start ?step ?fin
          case start => exact fun u => HS.out
          case step =>
            clear HS
            refine ⟨?_, ?_, ?_, ?_, ?_, ?_, ?_, ?_, ?_, ?_, ?_, ?_, ?_, trivial⟩
            · intro D uu w' K hD hF hl hS hK
              simp only [puts, Act.put, List.setIfInBounds_toArray, List.set_cons_succ, List.set_cons_zero, Nat.zero_add, Nat.reduceAdd]
              have x0 := (hS.blk 6 rfl).cell 0
              have x1 := (hS.blk 6 rfl).cell 1
              have x2 := (hS.blk 6 rfl).cell 2
              simp at x0 x1 x2
              go_simp
              simp only [yUpon]
              exact hK _ _ rfl hS
            · intro D uu w' K hD hF hl hS hK
              simp only [puts, Act.put, List.setIfInBounds_toArray, List.set_cons_succ, List.set_cons_zero, Nat.zero_add, Nat.reduceAdd]
              go_simp
              simp only [yUpon]
              exact hK _ _ rfl hS
            · intro D uu w' K hD hF hl hS hK
              simp only [puts, Act.put, List.setIfInBounds_toArray, List.set_cons_succ, List.set_cons_zero, Nat.zero_add, Nat.reduceAdd]
              go_simp
              simp only [yUpon]
              exact hK _ _ rfl hS
            · intro D uu w' K hD hF hl hS hK
              simp only [puts, Act.put, List.setIfInBounds_toArray, List.set_cons_succ, List.set_cons_zero, Nat.zero_add, Nat.reduceAdd]
              go_simp
              simp only [yUpon]
              exact hK _ _ rfl hS
            · intro D uu w' K hD hF hl hS hK
              have f0 := (hF 0 (by kernel_rfl)).2
              simp only at f0
              have f1 := (hF 1 (by kernel_rfl)).2
              simp only at f1
              have f2 := (hF 2 (by kernel_rfl)).2
              simp only at f2
              have f3 := (hF 3 (by kernel_rfl)).2
              simp only at f3
              simp only [puts, Act.put, List.setIfInBounds_toArray, List.set_cons_succ, List.set_cons_zero, Nat.zero_add, Nat.reduceAdd]
              simp only [f0, f1, f2, f3]
              have h10 := hl 10 (by kernel_rfl)
              simp only [hD, h10, cond_false] at hS
              have e1 : (fset D 4 true) 4 = true := rfl
              have e2 : (fset D 4 true) 10 = false := h10
              go_simp
              simp only [yUpon]
              refine (HFS.out.write _ (hS.dev 1 rfl)).mono ?_
              rintro e w1 ⟨rfl, hd, hkk⟩
              refine hK _ _ rfl ?_
              simp only [e1, e2, cond_true, cond_false]
              exact hS.did (i := 1) rfl hd hkk
            · intro D uu w' K hD hF hl hS hK
              simp only [puts, Act.put, List.setIfInBounds_toArray, List.set_cons_succ, List.set_cons_zero, Nat.zero_add, Nat.reduceAdd]
              have x0 := (hS.blk 6 rfl).cell 0
              have x1 := (hS.blk 6 rfl).cell 1
              have x2 := (hS.blk 6 rfl).cell 2
              simp at x0 x1 x2
              go_simp
              simp only [yUpon]
              exact hK _ _ rfl hS
            · intro D uu w' K hD hF hl hS hK
              simp only [puts, Act.put, List.setIfInBounds_toArray, List.set_cons_succ, List.set_cons_zero, Nat.zero_add, Nat.reduceAdd]
              go_simp
              simp only [yUpon]
              exact hK _ _ rfl hS
            · intro D uu w' K hD hF hl hS hK
              simp only [puts, Act.put, List.setIfInBounds_toArray, List.set_cons_succ, List.set_cons_zero, Nat.zero_add, Nat.reduceAdd]
              go_simp
              simp only [yUpon]
              exact hK _ _ rfl hS
            · intro D uu w' K hD hF hl hS hK
              have f7 := (hF 7 (by kernel_rfl)).2
              simp only at f7
              simp only [puts, Act.put, List.setIfInBounds_toArray, List.set_cons_succ, List.set_cons_zero, Nat.zero_add, Nat.reduceAdd]
              simp only [f7]
              go_simp
              simp only [yUpon]
              exact hK _ _ rfl hS
            · intro D uu w' K hD hF hl hS hK
              simp only [puts, Act.put, List.setIfInBounds_toArray, List.set_cons_succ, List.set_cons_zero, Nat.zero_add, Nat.reduceAdd]
              go_simp
              simp only [yUpon]
              exact hK _ _ rfl hS
            · intro D uu w' K hD hF hl hS hK
              have f5 := (hF 5 (by kernel_rfl)).2
              simp only at f5
              have f6 := (hF 6 (by kernel_rfl)).2
              simp only at f6
              have f8 := (hF 8 (by kernel_rfl)).2
              simp only at f8
              have f9 := (hF 9 (by kernel_rfl)).2
              simp only at f9
              simp only [puts, Act.put, List.setIfInBounds_toArray, List.set_cons_succ, List.set_cons_zero, Nat.zero_add, Nat.reduceAdd]
              simp only [f5, f6, f8, f9]
              have d4 := (hF 4 (by kernel_rfl)).1
              simp only [hD, d4, cond_true, cond_false] at hS
              have e1 : (fset D 10 true) 10 = true := rfl
              go_simp
              simp only [yUpon]
              refine (HFS.out.point _ (hS.dev 1 rfl)).mono ?_
              rintro e w1 ⟨rfl, hd, hkk⟩
              refine hK _ _ rfl ?_
              simp only [e1, cond_true]
              exact hS.did (i := 1) rfl hd hkk
            · intro D uu w' K hD hF hl hS hK
              have f4 := (hF 4 (by kernel_rfl)).2
              simp only at f4
              simp only [puts, Act.put, List.setIfInBounds_toArray, List.set_cons_succ, List.set_cons_zero, Nat.zero_add, Nat.reduceAdd]
              simp only [f4]
              go_simp
              simp only [yUpon]
              exact hK _ _ rfl hS
            · intro D uu w' K hD hF hl hS hK
              have f10 := (hF 10 (by kernel_rfl)).2
              simp only at f10
              simp only [puts, Act.put, List.setIfInBounds_toArray, List.set_cons_succ, List.set_cons_zero, Nat.zero_add, Nat.reduceAdd]
              simp only [f10]
              go_simp
              simp only [yUpon]
              exact hK _ _ rfl hS
          case fin =>
            clear HS
            intro D uu wf hall hS
            have f10 := (hall 10 (by simp)).1
            have v11 := (hall 11 (by simp)).2
            have v12 := (hall 12 (by simp)).2
            simp only at v11 v12
            simp only [f10, cond_true] at hS
            have HS := Lib.hid hS
            clear hall hS f10
            simp only [puts, Act.put, List.setIfInBounds_toArray, List.set_cons_succ, List.set_cons_zero, Nat.zero_add, Nat.reduceAdd]
            simp only [v11, v12]
            clear v11 v12
            have o0 := (HS.out.blk 6 rfl).cell 0
            simp at o0
            have o1 := (HS.out.blk 6 rfl).cell 1
            simp at o1
            have o2 := (HS.out.blk 6 rfl).cell 2
            simp at o2
            go_upto_region 37 with fail
            clear o0 o1 o2
            refine wp_region_st3 (W := w) (S := []) (by kernel_rfl) (by kernel_rfl) (by kernel_rfl) (fun D uu => [blkR gx 24 #[.int .u16 l, .int .u16 r, .int .u16 s], devR d (tP), rowR 3 (.slice (some ⟨g, 0, none⟩) os.length OC) (atsOf os), rowR 25 (.slice RA RL RC) (uw rs), blkR gk 29 #[.int .i64 (k.L : Int), .int .i64 (k.R : Int), .int .i64 (k.S : Int)], blkR gb 39 #[.int .i64 0, .int .i64 (u : Int), .slice RA RL RC], blkR go 75 #[.int .i64 (m : Int), .int .i64 (b : Int), .int .i64 (at_ : Int)], blkR gw 25 (bif D 11 then (uw (t.now.set (na + rr) a5) ++ ex).toArray else (uw (t.now) ++ ex).toArray)])
              (fun j v => match j with
                | 0 => v = .slice (some ⟨gw, na, none⟩) (nw - na) cw
                | 1 => v = .pointer (some ⟨go, 2, none⟩)
                | 2 => v = .int .i64 (at_ : Int)
                | 3 => v = .int .i64 ((at_ : Int) + 1)
                | 4 => v = .int .i64 (n : Int)
                | 5 => v = .int .i64 (qd : Int)
                | 6 => v = .agg #[.int .i64 (k.L : Int), .int .i64 (k.R : Int), .int .i64 (k.S : Int)]
                | 7 => v = .int .i64 (na : Int)
                | 8 => v = .int .i64 (rr : Int)
                | 9 => v = .int .u64 a5
                | 10 => v = .pointer (some ⟨gw, na + rr, none⟩)
                | _ => True) ?start ?step ?fin
            case start => exact fun u => HS.out
            case step =>
              clear HS
              refine ⟨?_, ?_, ?_, ?_, ?_, ?_, ?_, ?_, ?_, ?_, ?_, ?_, trivial⟩
              · intro D uu w' K hD hF hl hS hK
                simp only [puts, Act.put, List.setIfInBounds_toArray, List.set_cons_succ, List.set_cons_zero, Nat.zero_add, Nat.reduceAdd]
                go_simp
                simp only [yUpon]
                exact hK _ _ rfl hS
              · intro D uu w' K hD hF hl hS hK
                simp only [puts, Act.put, List.setIfInBounds_toArray, List.set_cons_succ, List.set_cons_zero, Nat.zero_add, Nat.reduceAdd]
                go_simp
                simp only [yUpon]
                exact hK _ _ rfl hS
              · intro D uu w' K hD hF hl hS hK
                have f1 := (hF 1 (by kernel_rfl)).2
                simp only at f1
                simp only [puts, Act.put, List.setIfInBounds_toArray, List.set_cons_succ, List.set_cons_zero, Nat.zero_add, Nat.reduceAdd]
                simp only [f1]
                have x2 := (hS.blk 6 rfl).cell 2
                simp at x2
                go_simp
                simp only [yUpon]
                exact hK _ _ rfl hS
              · intro D uu w' K hD hF hl hS hK
                have f2 := (hF 2 (by kernel_rfl)).2
                simp only at f2
                simp only [puts, Act.put, List.setIfInBounds_toArray, List.set_cons_succ, List.set_cons_zero, Nat.zero_add, Nat.reduceAdd]
                simp only [f2]
                go_simp
                simp only [yUpon]
                exact hK _ _ rfl hS
              · intro D uu w' K hD hF hl hS hK
                simp only [puts, Act.put, List.setIfInBounds_toArray, List.set_cons_succ, List.set_cons_zero, Nat.zero_add, Nat.reduceAdd]
                go_simp
                simp only [yUpon]
                exact hK _ _ rfl hS
              · intro D uu w' K hD hF hl hS hK
                have f3 := (hF 3 (by kernel_rfl)).2
                simp only at f3
                have f4 := (hF 4 (by kernel_rfl)).2
                simp only at f4
                simp only [puts, Act.put, List.setIfInBounds_toArray, List.set_cons_succ, List.set_cons_zero, Nat.zero_add, Nat.reduceAdd]
                simp only [f3, f4]
                go_simp
                simp only [yUpon]
                exact hK _ _ rfl hS
              · intro D uu w' K hD hF hl hS hK
                simp only [puts, Act.put, List.setIfInBounds_toArray, List.set_cons_succ, List.set_cons_zero, Nat.zero_add, Nat.reduceAdd]
                have x0 := (hS.blk 4 rfl).cell 0
                have x1 := (hS.blk 4 rfl).cell 1
                have x2 := (hS.blk 4 rfl).cell 2
                simp at x0 x1 x2
                go_simp
                simp only [yUpon]
                exact hK _ _ rfl hS
              · intro D uu w' K hD hF hl hS hK
                have f6 := (hF 6 (by kernel_rfl)).2
                simp only at f6
                simp only [puts, Act.put, List.setIfInBounds_toArray, List.set_cons_succ, List.set_cons_zero, Nat.zero_add, Nat.reduceAdd]
                simp only [f6]
                go_simp
                simp only [yUpon]
                refine (HKA.out _).mono ?_
                rintro e w1 ⟨rfl, hkk⟩
                exact hK _ _ rfl (hS.grow hkk)
              · intro D uu w' K hD hF hl hS hK
                have f5 := (hF 5 (by kernel_rfl)).2
                simp only at f5
                have f7 := (hF 7 (by kernel_rfl)).2
                simp only at f7
                simp only [puts, Act.put, List.setIfInBounds_toArray, List.set_cons_succ, List.set_cons_zero, Nat.zero_add, Nat.reduceAdd]
                simp only [f5, f7]
                go_simp
                simp only [yUpon]
                exact hK _ _ rfl hS
              · intro D uu w' K hD hF hl hS hK
                simp only [puts, Act.put, List.setIfInBounds_toArray, List.set_cons_succ, List.set_cons_zero, Nat.zero_add, Nat.reduceAdd]
                go_simp
                simp only [yUpon]
                exact hK _ _ rfl hS
              · intro D uu w' K hD hF hl hS hK
                have f0 := (hF 0 (by kernel_rfl)).2
                simp only at f0
                have f8 := (hF 8 (by kernel_rfl)).2
                simp only at f8
                simp only [puts, Act.put, List.setIfInBounds_toArray, List.set_cons_succ, List.set_cons_zero, Nat.zero_add, Nat.reduceAdd]
                simp only [f0, f8]
                go_simp
                simp only [yUpon]
                exact hK _ _ rfl hS
              · intro D uu w' K hD hF hl hS hK
                have f9 := (hF 9 (by kernel_rfl)).2
                simp only at f9
                have f10 := (hF 10 (by kernel_rfl)).2
                simp only at f10
                simp only [puts, Act.put, List.setIfInBounds_toArray, List.set_cons_succ, List.set_cons_zero, Nat.zero_add, Nat.reduceAdd]
                simp only [f9, f10]
                simp only [hD, cond_false] at hS
                have x0 := (hS.blk 7 rfl).cell (na + rr)
                rw [show (uw (t.now) ++ ex).toArray[na + rr]? = some (.int .u64 ((t.now).getD (na + rr) 0)) from uw_get2 (t.now) ex (na + rr) (by (try simp only [List.length_set]); rw [HNL.out]; omega)] at x0
                have z0 := (hS.blk 7 rfl).frozen (na + rr)
                have hput := hS.put (i := 7) rfl (na + rr) (.int .u64 a5)
                have e1 : (fset D 11 true) 11 = true := rfl
                go_simp
                simp only [yUpon]
                refine hK _ _ trivial ?_
                simp only [e1, cond_true]
                rw [← uw_set2 (t.now) ex (na + rr) (a5) (by (try simp only [List.length_set]); rw [HNL.out]; omega)]
                exact hput
            case fin =>
              clear HS
              intro D uu wg hall hS
              have f11 := (hall 11 (by simp)).1
              simp only [f11, cond_true] at hS
              have HS := Lib.hid hS
              clear hall hS f11
              simp only [puts, Act.put, List.setIfInBounds_toArray, List.set_cons_succ, List.set_cons_zero, Nat.zero_add, Nat.reduceAdd]
              have o0 := (HS.out.blk 6 rfl).cell 0
              simp at o0
              have o1 := (HS.out.blk 6 rfl).cell 1
              simp at o1
              have o2 := (HS.out.blk 6 rfl).cell 2
              simp at o2
              go_upto_region 39 with fail
              clear o0 o1 o2
              refine wp_region_st3 (W := w) (S := []) (by kernel_rfl) (by kernel_rfl) (by kernel_rfl) (fun D uu => [blkR gx 24 #[.int .u16 l, .int .u16 r, .int .u16 s], devR d (tP), rowR 3 (.slice (some ⟨g, 0, none⟩) os.length OC) (atsOf os), rowR 25 (.slice RA RL RC) (uw rs), blkR gk 29 #[.int .i64 (k.L : Int), .int .i64 (k.R : Int), .int .i64 (k.S : Int)], blkR gb 39 #[.int .i64 0, .int .i64 (u : Int), .slice RA RL RC], blkR go 75 #[.int .i64 (m : Int), .int .i64 (b : Int), .int .i64 (at_ : Int)], blkR gw 25 (bif D 12 then (uw ((t.now.set (na + rr) a5).set (na + rr) a6) ++ ex).toArray else (uw ((t.now.set (na + rr) a5)) ++ ex).toArray)])
                (fun j v => match j with
                  | 0 => v = .slice (some ⟨gw, na, none⟩) (nw - na) cw
                  | 1 => v = .pointer (some ⟨go, 2, none⟩)
                  | 2 => v = .int .i64 (at_ : Int)
                  | 3 => v = .int .i64 ((at_ : Int) + 1)
                  | 4 => v = .int .i64 (n : Int)
                  | 5 => v = .int .i64 (qd : Int)
                  | 6 => v = .agg #[.int .i64 (k.L : Int), .int .i64 (k.R : Int), .int .i64 (k.S : Int)]
                  | 7 => v = .int .i64 (na : Int)
                  | 8 => v = .int .i64 (rr : Int)
                  | 9 => v = .int .u16 a6
                  | 10 => v = .int .u64 a6
                  | 11 => v = .pointer (some ⟨gw, na + rr, none⟩)
                  | _ => True) ?start ?step ?fin
              case start => exact fun u => HS.out
              case step =>
                clear HS
                refine ⟨?_, ?_, ?_, ?_, ?_, ?_, ?_, ?_, ?_, ?_, ?_, ?_, ?_, trivial⟩
                · intro D uu w' K hD hF hl hS hK
                  simp only [puts, Act.put, List.setIfInBounds_toArray, List.set_cons_succ, List.set_cons_zero, Nat.zero_add, Nat.reduceAdd]
                  go_simp
                  simp only [yUpon]
                  exact hK _ _ rfl hS
                · intro D uu w' K hD hF hl hS hK
                  simp only [puts, Act.put, List.setIfInBounds_toArray, List.set_cons_succ, List.set_cons_zero, Nat.zero_add, Nat.reduceAdd]
                  go_simp
                  simp only [yUpon]
                  exact hK _ _ rfl hS
                · intro D uu w' K hD hF hl hS hK
                  have f1 := (hF 1 (by kernel_rfl)).2
                  simp only at f1
                  simp only [puts, Act.put, List.setIfInBounds_toArray, List.set_cons_succ, List.set_cons_zero, Nat.zero_add, Nat.reduceAdd]
                  simp only [f1]
                  have x2 := (hS.blk 6 rfl).cell 2
                  simp at x2
                  go_simp
                  simp only [yUpon]
                  exact hK _ _ rfl hS
                · intro D uu w' K hD hF hl hS hK
                  have f2 := (hF 2 (by kernel_rfl)).2
                  simp only at f2
                  simp only [puts, Act.put, List.setIfInBounds_toArray, List.set_cons_succ, List.set_cons_zero, Nat.zero_add, Nat.reduceAdd]
                  simp only [f2]
                  go_simp
                  simp only [yUpon]
                  exact hK _ _ rfl hS
                · intro D uu w' K hD hF hl hS hK
                  simp only [puts, Act.put, List.setIfInBounds_toArray, List.set_cons_succ, List.set_cons_zero, Nat.zero_add, Nat.reduceAdd]
                  go_simp
                  simp only [yUpon]
                  exact hK _ _ rfl hS
                · intro D uu w' K hD hF hl hS hK
                  have f3 := (hF 3 (by kernel_rfl)).2
                  simp only at f3
                  have f4 := (hF 4 (by kernel_rfl)).2
                  simp only at f4
                  simp only [puts, Act.put, List.setIfInBounds_toArray, List.set_cons_succ, List.set_cons_zero, Nat.zero_add, Nat.reduceAdd]
                  simp only [f3, f4]
                  go_simp
                  simp only [yUpon]
                  exact hK _ _ rfl hS
                · intro D uu w' K hD hF hl hS hK
                  simp only [puts, Act.put, List.setIfInBounds_toArray, List.set_cons_succ, List.set_cons_zero, Nat.zero_add, Nat.reduceAdd]
                  have x0 := (hS.blk 4 rfl).cell 0
                  have x1 := (hS.blk 4 rfl).cell 1
                  have x2 := (hS.blk 4 rfl).cell 2
                  simp at x0 x1 x2
                  go_simp
                  simp only [yUpon]
                  exact hK _ _ rfl hS
                · intro D uu w' K hD hF hl hS hK
                  have f6 := (hF 6 (by kernel_rfl)).2
                  simp only at f6
                  simp only [puts, Act.put, List.setIfInBounds_toArray, List.set_cons_succ, List.set_cons_zero, Nat.zero_add, Nat.reduceAdd]
                  simp only [f6]
                  go_simp
                  simp only [yUpon]
                  refine (HKA.out _).mono ?_
                  rintro e w1 ⟨rfl, hkk⟩
                  exact hK _ _ rfl (hS.grow hkk)
                · intro D uu w' K hD hF hl hS hK
                  have f5 := (hF 5 (by kernel_rfl)).2
                  simp only at f5
                  have f7 := (hF 7 (by kernel_rfl)).2
                  simp only at f7
                  simp only [puts, Act.put, List.setIfInBounds_toArray, List.set_cons_succ, List.set_cons_zero, Nat.zero_add, Nat.reduceAdd]
                  simp only [f5, f7]
                  go_simp
                  simp only [yUpon]
                  exact hK _ _ rfl hS
                · intro D uu w' K hD hF hl hS hK
                  simp only [puts, Act.put, List.setIfInBounds_toArray, List.set_cons_succ, List.set_cons_zero, Nat.zero_add, Nat.reduceAdd]
                  go_simp
                  simp only [yUpon]
                  exact hK _ _ rfl hS
                · intro D uu w' K hD hF hl hS hK
                  have f9 := (hF 9 (by kernel_rfl)).2
                  simp only at f9
                  simp only [puts, Act.put, List.setIfInBounds_toArray, List.set_cons_succ, List.set_cons_zero, Nat.zero_add, Nat.reduceAdd]
                  simp only [f9]
                  go_simp
                  simp only [yUpon]
                  exact hK _ _ rfl hS
                · intro D uu w' K hD hF hl hS hK
                  have f0 := (hF 0 (by kernel_rfl)).2
                  simp only at f0
                  have f8 := (hF 8 (by kernel_rfl)).2
                  simp only at f8
                  simp only [puts, Act.put, List.setIfInBounds_toArray, List.set_cons_succ, List.set_cons_zero, Nat.zero_add, Nat.reduceAdd]
                  simp only [f0, f8]
                  go_simp
                  simp only [yUpon]
                  exact hK _ _ rfl hS
                · intro D uu w' K hD hF hl hS hK
                  have f10 := (hF 10 (by kernel_rfl)).2
                  simp only at f10
                  have f11 := (hF 11 (by kernel_rfl)).2
                  simp only at f11
                  simp only [puts, Act.put, List.setIfInBounds_toArray, List.set_cons_succ, List.set_cons_zero, Nat.zero_add, Nat.reduceAdd]
                  simp only [f10, f11]
                  simp only [hD, cond_false] at hS
                  have x0 := (hS.blk 7 rfl).cell (na + rr)
                  rw [show (uw ((t.now.set (na + rr) a5)) ++ ex).toArray[na + rr]? = some (.int .u64 (((t.now.set (na + rr) a5)).getD (na + rr) 0)) from uw_get2 ((t.now.set (na + rr) a5)) ex (na + rr) (by (try simp only [List.length_set]); rw [HNL.out]; omega)] at x0
                  have z0 := (hS.blk 7 rfl).frozen (na + rr)
                  have hput := hS.put (i := 7) rfl (na + rr) (.int .u64 a6)
                  have e1 : (fset D 12 true) 12 = true := rfl
                  go_simp
                  simp only [yUpon]
                  refine hK _ _ trivial ?_
                  simp only [e1, cond_true]
                  rw [← uw_set2 ((t.now.set (na + rr) a5)) ex (na + rr) (a6) (by (try simp only [List.length_set]); rw [HNL.out]; omega)]
                  exact hput
              case fin =>
                clear HS
                intro D uu wg hall hS
                have f12 := (hall 12 (by simp)).1
                simp only [f12, cond_true] at hS
                have HS := Lib.hid hS
                clear hall hS f12
                simp only [puts, Act.put, List.setIfInBounds_toArray, List.set_cons_succ, List.set_cons_zero, Nat.zero_add, Nat.reduceAdd]
                have o0 := (HS.out.blk 6 rfl).cell 0
                simp at o0
                have o1 := (HS.out.blk 6 rfl).cell 1
                simp at o1
                have o2 := (HS.out.blk 6 rfl).cell 2
                simp at o2
                go_wp2_with fail
                refine (HFS.out.read2 _ (HS.out.dev 1 rfl)).mono ?_
                rintro e wx ⟨rfl, hkk⟩
                replace HS := Lib.hid (HS.out.grow hkk)
                clear hkk o0 o1 o2
                have o0 := (HS.out.blk 6 rfl).cell 0
                simp at o0
                have o1 := (HS.out.blk 6 rfl).cell 1
                simp at o1
                have o2 := (HS.out.blk 6 rfl).cell 2
                simp at o2
                go_wp2_with fail
                refine (HFS.out.ref2 _ (HS.out.dev 1 rfl)).mono ?_
                rintro e wx ⟨rfl, hkk⟩
                replace HS := Lib.hid (HS.out.grow hkk)
                clear hkk o0 o1 o2
                have c0 := (HS.out.blk 4 rfl).cell 0
                simp at c0
                have c1 := (HS.out.blk 4 rfl).cell 1
                simp at c1
                have c2 := (HS.out.blk 4 rfl).cell 2
                simp at c2
                go_wp2_with fail
                refine (words7_any d (tP) k _ (HS.out.dev 1 rfl) HK.out (HLENP.out.trans HNW.out.symm)).mono ?_
                rintro e wx ⟨g2, ex2, cw2, rfl, hbw, hgw, hkk⟩
                have hdl : ((tP).now.drop k.act).length = nw - na := by rw [List.length_drop, HLENP.out, HNA.out]
                rw [hdl, HNA.out]
                replace HS := Lib.hid (HS.out.add hkk (r := blkR g2 25 (uw (tP).now ++ ex2).toArray) hbw (by intro y hy; simp [blkR] at hy; subst hy; exact hgw))
                clear hbw hgw hkk hdl c0 c1 c2
                have hws : (((t.now.set (na + rr) a5).set (na + rr) a6)) = tP.now := by rw [HTP.out, HRR.out, List.set_set]
                have h1 : Rd wx (.slice (some ⟨g2, na, none⟩) (nw - na) cw2) (uw (tP.now.drop na)) := Rd.behind7 (HS.out.blk 8 rfl) (by rw [List.length_drop, HLENP.out])
                have h2 : Rd wx (.slice (some ⟨gw, na, none⟩) (nw - na) cw) (uw ((((t.now.set (na + rr) a5).set (na + rr) a6)).drop na)) := Rd.behind7 (HS.out.blk 7 rfl) (by (try simp only [List.length_drop, List.length_set]); rw [HNL.out])
                have heq := equal_any _ _ (tP.now.drop na) ((((t.now.set (na + rr) a5).set (na + rr) a6)).drop na) wx h1 h2 (by rw [List.length_drop, HLENP.out]; omega)
                rw [decide_eq_true (by rw [hws])] at heq
                have HEQ := Lib.hid heq
                clear hws h1 h2 heq
                go_wp2_with fail
                refine HEQ.out.mono ?_
                rintro e wh ⟨rfl, hkk⟩
                replace HS := Lib.hid (HS.out.grow hkk)
                clear hkk
                go_wp2
                go_ret
                exact ⟨rfl, HS.out.keep⟩
      · cases a7 with
        | true => as_aux_lemma =>
          have t1 : ¬ i < 0 := by omega
          have t2 : ¬ (m : Int) ≤ i := by omega
          have t3 : ¬ i < (b : Int) := by omega
          obtain rfl : eW = 3 := by have h := HFS.out.wN; simpa using h
          obtain rfl : eQ = 5 := by have h := HFS.out.wP; simpa using h
          have htP := HFS.out.same rfl
          have htQ := htP.symm
          clear htP
          subst htQ
          have hlen0 := HFS.out.len.trans HNL.out
          have HLENP := Lib.hid hlen0
          clear hlen0
          have o0 := (HS.out.blk 6 rfl).cell 0
          simp at o0
          have o1 := (HS.out.blk 6 rfl).cell 1
          simp at o1
          have o2 := (HS.out.blk 6 rfl).cell 2
          simp at o2
          go_upto_region 24 with fail
          clear o0 o1 o2
          have c0 := (HS.out.blk 4 rfl).cell 0
          simp at c0
          have c1 := (HS.out.blk 4 rfl).cell 1
          simp at c1
          have c2 := (HS.out.blk 4 rfl).cell 2
          simp at c2
          go_wp2_with fail
          refine (words7_any d (t) k _ (HS.out.dev 1 rfl) HK.out (HNL.out.trans HNW.out.symm)).mono ?_
          rintro e wx ⟨gw, ex, cw, rfl, hbw, hgw, hkk⟩
          have hdl : ((t).now.drop k.act).length = nw - na := by rw [List.length_drop, HNL.out, HNA.out]
          rw [hdl, HNA.out]
          replace HS := Lib.hid (HS.out.add hkk (r := blkR gw 25 (uw (t).now ++ ex).toArray) hbw (by intro y hy; simp [blkR] at hy; subst hy; exact hgw))
          clear hbw hgw hkk hdl c0 c1 c2
          have o0 := (HS.out.blk 6 rfl).cell 0
          simp at o0
          have o1 := (HS.out.blk 6 rfl).cell 1
          simp at o1
          have o2 := (HS.out.blk 6 rfl).cell 2
          simp at o2
          go_wp2_with fail
          refine (HFS.out.read _ (HS.out.dev 1 rfl)).mono ?_
          rintro e wx ⟨rfl, hkk⟩
          replace HS := Lib.hid (HS.out.grow hkk)
          clear hkk o0 o1 o2
          have o0 := (HS.out.blk 6 rfl).cell 0
          simp at o0
          have o1 := (HS.out.blk 6 rfl).cell 1
          simp at o1
          have o2 := (HS.out.blk 6 rfl).cell 2
          simp at o2
          go_wp2_with fail
          refine (HFS.out.ref _ (HS.out.dev 1 rfl)).mono ?_
          rintro e wx ⟨rfl, hkk⟩
          replace HS := Lib.hid (HS.out.grow hkk)
          clear hkk o0 o1 o2
          go_upto_region 29 with fail
          refine wp_region_st3 (W := w) (S := []) (by kernel_rfl) (by kernel_rfl) (by kernel_rfl) (fun D uu => [blkR gx 24 #[.int .u16 l, .int .u16 r, .int .u16 s], devR d (bif D 10 then t else bif D 4 then tW else t), rowR 3 (.slice (some ⟨g, 0, none⟩) os.length OC) (atsOf os), rowR 25 (.slice RA RL RC) (uw rs), blkR gk 29 #[.int .i64 (k.L : Int), .int .i64 (k.R : Int), .int .i64 (k.S : Int)], blkR gb 39 #[.int .i64 0, .int .i64 (u : Int), .slice RA RL RC], blkR go 75 #[.int .i64 (m : Int), .int .i64 (b : Int), .int .i64 (at_ : Int)], blkR gw 25 ((uw t.now ++ ex).toArray)])
            (fun j v => match j with
              | 0 => v = .agg #[.int .i64 (m : Int), .int .i64 (b : Int), .int .i64 (at_ : Int)]
              | 1 => v = .int .i64 i
              | 2 => v = .int .u64 a5
              | 3 => v = .func (.func 49) #[] #[]
              | 4 => v = .int .i64 3
              | 5 => v = .agg #[.int .i64 (m : Int), .int .i64 (b : Int), .int .i64 (at_ : Int)]
              | 6 => v = .int .i64 i
              | 7 => v = .int .u16 a6
              | 8 => v = .int .i64 a6
              | 9 => v = .func (.func 49) #[] #[]
              | 10 => v = .int .i64 5
              | 11 => v = .int .i64 3
              | 12 => v = .int .i64 5
              | _ => True) ?start ?step ?fin
          case start => exact fun u => HS.out
          case step =>
            clear HS
            refine ⟨?_, ?_, ?_, ?_, ?_, ?_, ?_, ?_, ?_, ?_, ?_, ?_, ?_, trivial⟩
            · intro D uu w' K hD hF hl hS hK
              simp only [puts, Act.put, List.setIfInBounds_toArray, List.set_cons_succ, List.set_cons_zero, Nat.zero_add, Nat.reduceAdd]
              have x0 := (hS.blk 6 rfl).cell 0
              have x1 := (hS.blk 6 rfl).cell 1
              have x2 := (hS.blk 6 rfl).cell 2
              simp at x0 x1 x2
              go_simp
              simp only [yUpon]
              exact hK _ _ rfl hS
            · intro D uu w' K hD hF hl hS hK
              simp only [puts, Act.put, List.setIfInBounds_toArray, List.set_cons_succ, List.set_cons_zero, Nat.zero_add, Nat.reduceAdd]
              go_simp
              simp only [yUpon]
              exact hK _ _ rfl hS
            · intro D uu w' K hD hF hl hS hK
              simp only [puts, Act.put, List.setIfInBounds_toArray, List.set_cons_succ, List.set_cons_zero, Nat.zero_add, Nat.reduceAdd]
              go_simp
              simp only [yUpon]
              exact hK _ _ rfl hS
            · intro D uu w' K hD hF hl hS hK
              simp only [puts, Act.put, List.setIfInBounds_toArray, List.set_cons_succ, List.set_cons_zero, Nat.zero_add, Nat.reduceAdd]
              go_simp
              simp only [yUpon]
              exact hK _ _ rfl hS
            · intro D uu w' K hD hF hl hS hK
              have f0 := (hF 0 (by kernel_rfl)).2
              simp only at f0
              have f1 := (hF 1 (by kernel_rfl)).2
              simp only at f1
              have f2 := (hF 2 (by kernel_rfl)).2
              simp only at f2
              have f3 := (hF 3 (by kernel_rfl)).2
              simp only at f3
              simp only [puts, Act.put, List.setIfInBounds_toArray, List.set_cons_succ, List.set_cons_zero, Nat.zero_add, Nat.reduceAdd]
              simp only [f0, f1, f2, f3]
              have h10 := hl 10 (by kernel_rfl)
              simp only [hD, h10, cond_false] at hS
              have e1 : (fset D 4 true) 4 = true := rfl
              have e2 : (fset D 4 true) 10 = false := h10
              go_simp
              simp only [yUpon]
              refine (HFS.out.write _ (hS.dev 1 rfl)).mono ?_
              rintro e w1 ⟨rfl, hd, hkk⟩
              refine hK _ _ rfl ?_
              simp only [e1, e2, cond_true, cond_false]
              exact hS.did (i := 1) rfl hd hkk
            · intro D uu w' K hD hF hl hS hK
              simp only [puts, Act.put, List.setIfInBounds_toArray, List.set_cons_succ, List.set_cons_zero, Nat.zero_add, Nat.reduceAdd]
              have x0 := (hS.blk 6 rfl).cell 0
              have x1 := (hS.blk 6 rfl).cell 1
              have x2 := (hS.blk 6 rfl).cell 2
              simp at x0 x1 x2
              go_simp
              simp only [yUpon]
              exact hK _ _ rfl hS
            · intro D uu w' K hD hF hl hS hK
              simp only [puts, Act.put, List.setIfInBounds_toArray, List.set_cons_succ, List.set_cons_zero, Nat.zero_add, Nat.reduceAdd]
              go_simp
              simp only [yUpon]
              exact hK _ _ rfl hS
            · intro D uu w' K hD hF hl hS hK
              simp only [puts, Act.put, List.setIfInBounds_toArray, List.set_cons_succ, List.set_cons_zero, Nat.zero_add, Nat.reduceAdd]
              go_simp
              simp only [yUpon]
              exact hK _ _ rfl hS
            · intro D uu w' K hD hF hl hS hK
              have f7 := (hF 7 (by kernel_rfl)).2
              simp only at f7
              simp only [puts, Act.put, List.setIfInBounds_toArray, List.set_cons_succ, List.set_cons_zero, Nat.zero_add, Nat.reduceAdd]
              simp only [f7]
              go_simp
              simp only [yUpon]
              exact hK _ _ rfl hS
            · intro D uu w' K hD hF hl hS hK
              simp only [puts, Act.put, List.setIfInBounds_toArray, List.set_cons_succ, List.set_cons_zero, Nat.zero_add, Nat.reduceAdd]
              go_simp
              simp only [yUpon]
              exact hK _ _ rfl hS
            · intro D uu w' K hD hF hl hS hK
              have f5 := (hF 5 (by kernel_rfl)).2
              simp only at f5
              have f6 := (hF 6 (by kernel_rfl)).2
              simp only at f6
              have f8 := (hF 8 (by kernel_rfl)).2
              simp only at f8
              have f9 := (hF 9 (by kernel_rfl)).2
              simp only at f9
              simp only [puts, Act.put, List.setIfInBounds_toArray, List.set_cons_succ, List.set_cons_zero, Nat.zero_add, Nat.reduceAdd]
              simp only [f5, f6, f8, f9]
              have d4 := (hF 4 (by kernel_rfl)).1
              simp only [hD, d4, cond_true, cond_false] at hS
              have e1 : (fset D 10 true) 10 = true := rfl
              go_simp
              simp only [yUpon]
              refine (HFS.out.point _ (hS.dev 1 rfl)).mono ?_
              rintro e w1 ⟨rfl, hd, hkk⟩
              refine hK _ _ rfl ?_
              simp only [e1, cond_true]
              exact hS.did (i := 1) rfl hd hkk
            · intro D uu w' K hD hF hl hS hK
              have f4 := (hF 4 (by kernel_rfl)).2
              simp only at f4
              simp only [puts, Act.put, List.setIfInBounds_toArray, List.set_cons_succ, List.set_cons_zero, Nat.zero_add, Nat.reduceAdd]
              simp only [f4]
              go_simp
              simp only [yUpon]
              exact hK _ _ rfl hS
            · intro D uu w' K hD hF hl hS hK
              have f10 := (hF 10 (by kernel_rfl)).2
              simp only at f10
              simp only [puts, Act.put, List.setIfInBounds_toArray, List.set_cons_succ, List.set_cons_zero, Nat.zero_add, Nat.reduceAdd]
              simp only [f10]
              go_simp
              simp only [yUpon]
              exact hK _ _ rfl hS
          case fin =>
            clear HS
            intro D uu wf hall hS
            have f10 := (hall 10 (by simp)).1
            have v11 := (hall 11 (by simp)).2
            have v12 := (hall 12 (by simp)).2
            simp only at v11 v12
            simp only [f10, cond_true] at hS
            have HS := Lib.hid hS
            clear hall hS f10
            simp only [puts, Act.put, List.setIfInBounds_toArray, List.set_cons_succ, List.set_cons_zero, Nat.zero_add, Nat.reduceAdd]
            simp only [v11, v12]
            clear v11 v12
            have o0 := (HS.out.blk 6 rfl).cell 0
            simp at o0
            have o1 := (HS.out.blk 6 rfl).cell 1
            simp at o1
            have o2 := (HS.out.blk 6 rfl).cell 2
            simp at o2
            go_wp2_with fail
            refine (HFS.out.read2 _ (HS.out.dev 1 rfl)).mono ?_
            rintro e wx ⟨rfl, hkk⟩
            replace HS := Lib.hid (HS.out.grow hkk)
            clear hkk o0 o1 o2
            have o0 := (HS.out.blk 6 rfl).cell 0
            simp at o0
            have o1 := (HS.out.blk 6 rfl).cell 1
            simp at o1
            have o2 := (HS.out.blk 6 rfl).cell 2
            simp at o2
            go_wp2_with fail
            refine (HFS.out.ref2 _ (HS.out.dev 1 rfl)).mono ?_
            rintro e wx ⟨rfl, hkk⟩
            replace HS := Lib.hid (HS.out.grow hkk)
            clear hkk o0 o1 o2
            have c0 := (HS.out.blk 4 rfl).cell 0
            simp at c0
            have c1 := (HS.out.blk 4 rfl).cell 1
            simp at c1
            have c2 := (HS.out.blk 4 rfl).cell 2
            simp at c2
            go_wp2_with fail
            refine (words7_any d (t) k _ (HS.out.dev 1 rfl) HK.out (HLENP.out.trans HNW.out.symm)).mono ?_
            rintro e wx ⟨g2, ex2, cw2, rfl, hbw, hgw, hkk⟩
            have hdl : ((t).now.drop k.act).length = nw - na := by rw [List.length_drop, HLENP.out, HNA.out]
            rw [hdl, HNA.out]
            replace HS := Lib.hid (HS.out.add hkk (r := blkR g2 25 (uw (t).now ++ ex2).toArray) hbw (by intro y hy; simp [blkR] at hy; subst hy; exact hgw))
            clear hbw hgw hkk hdl c0 c1 c2
            have hws : (t.now) = t.now := by rfl
            have h1 : Rd wx (.slice (some ⟨g2, na, none⟩) (nw - na) cw2) (uw (t.now.drop na)) := Rd.behind7 (HS.out.blk 8 rfl) (by rw [List.length_drop, HLENP.out])
            have h2 : Rd wx (.slice (some ⟨gw, na, none⟩) (nw - na) cw) (uw ((t.now).drop na)) := Rd.behind7 (HS.out.blk 7 rfl) (by (try simp only [List.length_drop, List.length_set]); rw [HNL.out])
            have heq := equal_any _ _ (t.now.drop na) ((t.now).drop na) wx h1 h2 (by rw [List.length_drop, HLENP.out]; omega)
            rw [decide_eq_true (by rw [hws])] at heq
            have HEQ := Lib.hid heq
            clear hws h1 h2 heq
            go_wp2_with fail
            refine HEQ.out.mono ?_
            rintro e wh ⟨rfl, hkk⟩
            replace HS := Lib.hid (HS.out.grow hkk)
            clear hkk
            go_wp2
            go_ret
            exact ⟨rfl, HS.out.keep⟩
        | false => as_aux_lemma =>
          have t1 : ¬ i < 0 := by omega
          have t2 : ¬ (m : Int) ≤ i := by omega
          have t3 : ¬ i < (b : Int) := by omega
          obtain rfl : eW = 0 := by have h := HFS.out.wN; simpa using h
          obtain rfl : eQ = 5 := by have h := HFS.out.wP; simpa using h
          obtain ⟨qd, hqd, htP⟩ := HFS.out.num rfl rfl
          obtain ⟨n, rfl⟩ : ∃ n : Nat, i = (n : Int) := ⟨i.toNat, by omega⟩
          obtain ⟨rr, hrr⟩ : ∃ rr, na + rr = qd := ⟨qd - na, by omega⟩
          have hs1 : IntKind.i64.wrap ((at_ : Int) + 1) = (at_ : Int) + 1 := IntWalk.i64_in _ (by omega)
          have hs2 : IntKind.i64.wrap ((at_ : Int) + 1 + (n : Int)) = (qd : Int) := by rw [IntWalk.i64_in _ (by omega)]; omega
          have hs3 : IntKind.i64.wrap ((qd : Int) - (na : Int)) = (rr : Int) := by rw [IntWalk.i64_in _ (by omega)]; omega
          have hrl : rr < nw - na := by omega
          have hrlI : (rr : Int) < ((nw - na : Nat) : Int) := by omega
          have HQD := Lib.hid hqd
          have HRR := Lib.hid hrr
          have hval := ((HFS.out.vals rfl).1 rfl).symm
          subst hval
          have hlen0 := HFS.out.len.trans HNL.out
          have HLENP := Lib.hid hlen0
          clear hlen0
          have HTP := Lib.hid htP
          clear htP hqd hrr
          have o0 := (HS.out.blk 6 rfl).cell 0
          simp at o0
          have o1 := (HS.out.blk 6 rfl).cell 1
          simp at o1
          have o2 := (HS.out.blk 6 rfl).cell 2
          simp at o2
          go_upto_region 24 with fail
          clear o0 o1 o2
          have c0 := (HS.out.blk 4 rfl).cell 0
          simp at c0
          have c1 := (HS.out.blk 4 rfl).cell 1
          simp at c1
          have c2 := (HS.out.blk 4 rfl).cell 2
          simp at c2
          go_wp2_with fail
          refine (words7_any d (t) k _ (HS.out.dev 1 rfl) HK.out (HNL.out.trans HNW.out.symm)).mono ?_
          rintro e wx ⟨gw, ex, cw, rfl, hbw, hgw, hkk⟩
          have hdl : ((t).now.drop k.act).length = nw - na := by rw [List.length_drop, HNL.out, HNA.out]
          rw [hdl, HNA.out]
          replace HS := Lib.hid (HS.out.add hkk (r := blkR gw 25 (uw (t).now ++ ex).toArray) hbw (by intro y hy; simp [blkR] at hy; subst hy; exact hgw))
          clear hbw hgw hkk hdl c0 c1 c2
          have o0 := (HS.out.blk 6 rfl).cell 0
          simp at o0
          have o1 := (HS.out.blk 6 rfl).cell 1
          simp at o1
          have o2 := (HS.out.blk 6 rfl).cell 2
          simp at o2
          go_wp2_with fail
          refine (HFS.out.read _ (HS.out.dev 1 rfl)).mono ?_
          rintro e wx ⟨rfl, hkk⟩
          replace HS := Lib.hid (HS.out.grow hkk)
          clear hkk o0 o1 o2
          have o0 := (HS.out.blk 6 rfl).cell 0
          simp at o0
          have o1 := (HS.out.blk 6 rfl).cell 1
          simp at o1
          have o2 := (HS.out.blk 6 rfl).cell 2
          simp at o2
          go_wp2_with fail
          refine (HFS.out.ref _ (HS.out.dev 1 rfl)).mono ?_
          rintro e wx ⟨rfl, hkk⟩
          replace HS := Lib.hid (HS.out.grow hkk)
          clear hkk o0 o1 o2
          go_upto_region 29 with fail
          refine wp_region_st3 (W := w) (S := []) (by kernel_rfl) (by kernel_rfl) (by kernel_rfl) (fun D uu => [blkR gx 24 #[.int .u16 l, .int .u16 r, .int .u16 s], devR d (bif D 10 then tP else bif D 4 then tW else t), rowR 3 (.slice (some ⟨g, 0, none⟩) os.length OC) (atsOf os), rowR 25 (.slice RA RL RC) (uw rs), blkR gk 29 #[.int .i64 (k.L : Int), .int .i64 (k.R : Int), .int .i64 (k.S : Int)], blkR gb 39 #[.int .i64 0, .int .i64 (u : Int), .slice RA RL RC], blkR go 75 #[.int .i64 (m : Int), .int .i64 (b : Int), .int .i64 (at_ : Int)], blkR gw 25 ((uw t.now ++ ex).toArray)])
            (fun j v => match j with
              | 0 => v = .agg #[.int .i64 (m : Int), .int .i64 (b : Int), .int .i64 (at_ : Int)]
              | 1 => v = .int .i64 (n : Int)
              | 2 => v = .int .u64 a5
              | 3 => v = .func (.func 19) #[.pointer (some ⟨d.b, 0, none⟩)] #[]
              | 4 => v = .int .i64 0
              | 5 => v = .agg #[.int .i64 (m : Int), .int .i64 (b : Int), .int .i64 (at_ : Int)]
              | 6 => v = .int .i64 (n : Int)
              | 7 => v = .int .u16 a6
              | 8 => v = .int .i64 a6
              | 9 => v = .func (.func 19) #[.pointer (some ⟨d.b, 0, none⟩)] #[]
              | 10 => v = .int .i64 5
              | 11 => v = .int .i64 0
              | 12 => v = .int .i64 5
              | _ => True) ?start ?step ?fin
          case start => exact fun u => HS.out
          case step =>
            clear HS
            refine ⟨?_, ?_, ?_, ?_, ?_, ?_, ?_, ?_, ?_, ?_, ?_, ?_, ?_, trivial⟩
            · intro D uu w' K hD hF hl hS hK
              simp only [puts, Act.put, List.setIfInBounds_toArray, List.set_cons_succ, List.set_cons_zero, Nat.zero_add, Nat.reduceAdd]
              have x0 := (hS.blk 6 rfl).cell 0
              have x1 := (hS.blk 6 rfl).cell 1
              have x2 := (hS.blk 6 rfl).cell 2
              simp at x0 x1 x2
              go_simp
              simp only [yUpon]
              exact hK _ _ rfl hS
            · intro D uu w' K hD hF hl hS hK
              simp only [puts, Act.put, List.setIfInBounds_toArray, List.set_cons_succ, List.set_cons_zero, Nat.zero_add, Nat.reduceAdd]
              go_simp
              simp only [yUpon]
              exact hK _ _ rfl hS
            · intro D uu w' K hD hF hl hS hK
              simp only [puts, Act.put, List.setIfInBounds_toArray, List.set_cons_succ, List.set_cons_zero, Nat.zero_add, Nat.reduceAdd]
              go_simp
              simp only [yUpon]
              exact hK _ _ rfl hS
            · intro D uu w' K hD hF hl hS hK
              simp only [puts, Act.put, List.setIfInBounds_toArray, List.set_cons_succ, List.set_cons_zero, Nat.zero_add, Nat.reduceAdd]
              go_simp
              simp only [yUpon]
              exact hK _ _ rfl hS
            · intro D uu w' K hD hF hl hS hK
              have f0 := (hF 0 (by kernel_rfl)).2
              simp only at f0
              have f1 := (hF 1 (by kernel_rfl)).2
              simp only at f1
              have f2 := (hF 2 (by kernel_rfl)).2
              simp only at f2
              have f3 := (hF 3 (by kernel_rfl)).2
              simp only at f3
              simp only [puts, Act.put, List.setIfInBounds_toArray, List.set_cons_succ, List.set_cons_zero, Nat.zero_add, Nat.reduceAdd]
              simp only [f0, f1, f2, f3]
              have h10 := hl 10 (by kernel_rfl)
              simp only [hD, h10, cond_false] at hS
              have e1 : (fset D 4 true) 4 = true := rfl
              have e2 : (fset D 4 true) 10 = false := h10
              go_simp
              simp only [yUpon]
              refine (HFS.out.write _ (hS.dev 1 rfl)).mono ?_
              rintro e w1 ⟨rfl, hd, hkk⟩
              refine hK _ _ rfl ?_
              simp only [e1, e2, cond_true, cond_false]
              exact hS.did (i := 1) rfl hd hkk
            · intro D uu w' K hD hF hl hS hK
              simp only [puts, Act.put, List.setIfInBounds_toArray, List.set_cons_succ, List.set_cons_zero, Nat.zero_add, Nat.reduceAdd]
              have x0 := (hS.blk 6 rfl).cell 0
              have x1 := (hS.blk 6 rfl).cell 1
              have x2 := (hS.blk 6 rfl).cell 2
              simp at x0 x1 x2
              go_simp
              simp only [yUpon]
              exact hK _ _ rfl hS
            · intro D uu w' K hD hF hl hS hK
              simp only [puts, Act.put, List.setIfInBounds_toArray, List.set_cons_succ, List.set_cons_zero, Nat.zero_add, Nat.reduceAdd]
              go_simp
              simp only [yUpon]
              exact hK _ _ rfl hS
            · intro D uu w' K hD hF hl hS hK
              simp only [puts, Act.put, List.setIfInBounds_toArray, List.set_cons_succ, List.set_cons_zero, Nat.zero_add, Nat.reduceAdd]
              go_simp
              simp only [yUpon]
              exact hK _ _ rfl hS
            · intro D uu w' K hD hF hl hS hK
              have f7 := (hF 7 (by kernel_rfl)).2
              simp only at f7
              simp only [puts, Act.put, List.setIfInBounds_toArray, List.set_cons_succ, List.set_cons_zero, Nat.zero_add, Nat.reduceAdd]
              simp only [f7]
              go_simp
              simp only [yUpon]
              exact hK _ _ rfl hS
            · intro D uu w' K hD hF hl hS hK
              simp only [puts, Act.put, List.setIfInBounds_toArray, List.set_cons_succ, List.set_cons_zero, Nat.zero_add, Nat.reduceAdd]
              go_simp
              simp only [yUpon]
              exact hK _ _ rfl hS
            · intro D uu w' K hD hF hl hS hK
              have f5 := (hF 5 (by kernel_rfl)).2
              simp only at f5
              have f6 := (hF 6 (by kernel_rfl)).2
              simp only at f6
              have f8 := (hF 8 (by kernel_rfl)).2
              simp only at f8
              have f9 := (hF 9 (by kernel_rfl)).2
              simp only at f9
              simp only [puts, Act.put, List.setIfInBounds_toArray, List.set_cons_succ, List.set_cons_zero, Nat.zero_add, Nat.reduceAdd]
              simp only [f5, f6, f8, f9]
              have d4 := (hF 4 (by kernel_rfl)).1
              simp only [hD, d4, cond_true, cond_false] at hS
              have e1 : (fset D 10 true) 10 = true := rfl
              go_simp
              simp only [yUpon]
              refine (HFS.out.point _ (hS.dev 1 rfl)).mono ?_
              rintro e w1 ⟨rfl, hd, hkk⟩
              refine hK _ _ rfl ?_
              simp only [e1, cond_true]
              exact hS.did (i := 1) rfl hd hkk
            · intro D uu w' K hD hF hl hS hK
              have f4 := (hF 4 (by kernel_rfl)).2
              simp only at f4
              simp only [puts, Act.put, List.setIfInBounds_toArray, List.set_cons_succ, List.set_cons_zero, Nat.zero_add, Nat.reduceAdd]
              simp only [f4]
              go_simp
              simp only [yUpon]
              exact hK _ _ rfl hS
            · intro D uu w' K hD hF hl hS hK
              have f10 := (hF 10 (by kernel_rfl)).2
              simp only at f10
              simp only [puts, Act.put, List.setIfInBounds_toArray, List.set_cons_succ, List.set_cons_zero, Nat.zero_add, Nat.reduceAdd]
              simp only [f10]
              go_simp
              simp only [yUpon]
              exact hK _ _ rfl hS
          case fin =>
            clear HS
            intro D uu wf hall hS
            have f10 := (hall 10 (by simp)).1
            have v11 := (hall 11 (by simp)).2
            have v12 := (hall 12 (by simp)).2
            simp only at v11 v12
            simp only [f10, cond_true] at hS
            have HS := Lib.hid hS
            clear hall hS f10
            simp only [puts, Act.put, List.setIfInBounds_toArray, List.set_cons_succ, List.set_cons_zero, Nat.zero_add, Nat.reduceAdd]
            simp only [v11, v12]
            clear v11 v12
            have o0 := (HS.out.blk 6 rfl).cell 0
            simp at o0
            have o1 := (HS.out.blk 6 rfl).cell 1
            simp at o1
            have o2 := (HS.out.blk 6 rfl).cell 2
            simp at o2
            go_upto_region 37 with fail
            clear o0 o1 o2
            refine wp_region_st3 (W := w) (S := []) (by kernel_rfl) (by kernel_rfl) (by kernel_rfl) (fun D uu => [blkR gx 24 #[.int .u16 l, .int .u16 r, .int .u16 s], devR d (tP), rowR 3 (.slice (some ⟨g, 0, none⟩) os.length OC) (atsOf os), rowR 25 (.slice RA RL RC) (uw rs), blkR gk 29 #[.int .i64 (k.L : Int), .int .i64 (k.R : Int), .int .i64 (k.S : Int)], blkR gb 39 #[.int .i64 0, .int .i64 (u : Int), .slice RA RL RC], blkR go 75 #[.int .i64 (m : Int), .int .i64 (b : Int), .int .i64 (at_ : Int)], blkR gw 25 (bif D 11 then (uw (t.now.set (na + rr) a5) ++ ex).toArray else (uw (t.now) ++ ex).toArray)])
              (fun j v => match j with
                | 0 => v = .slice (some ⟨gw, na, none⟩) (nw - na) cw
                | 1 => v = .pointer (some ⟨go, 2, none⟩)
                | 2 => v = .int .i64 (at_ : Int)
                | 3 => v = .int .i64 ((at_ : Int) + 1)
                | 4 => v = .int .i64 (n : Int)
                | 5 => v = .int .i64 (qd : Int)
                | 6 => v = .agg #[.int .i64 (k.L : Int), .int .i64 (k.R : Int), .int .i64 (k.S : Int)]
                | 7 => v = .int .i64 (na : Int)
                | 8 => v = .int .i64 (rr : Int)
                | 9 => v = .int .u64 a5
                | 10 => v = .pointer (some ⟨gw, na + rr, none⟩)
                | _ => True) ?start ?step ?fin
            case start => exact fun u => HS.out
            case step =>
              clear HS
              refine ⟨?_, ?_, ?_, ?_, ?_, ?_, ?_, ?_, ?_, ?_, ?_, ?_, trivial⟩
              · intro D uu w' K hD hF hl hS hK
                simp only [puts, Act.put, List.setIfInBounds_toArray, List.set_cons_succ, List.set_cons_zero, Nat.zero_add, Nat.reduceAdd]
                go_simp
                simp only [yUpon]
                exact hK _ _ rfl hS
              · intro D uu w' K hD hF hl hS hK
                simp only [puts, Act.put, List.setIfInBounds_toArray, List.set_cons_succ, List.set_cons_zero, Nat.zero_add, Nat.reduceAdd]
                go_simp
                simp only [yUpon]
                exact hK _ _ rfl hS
              · intro D uu w' K hD hF hl hS hK
                have f1 := (hF 1 (by kernel_rfl)).2
                simp only at f1
                simp only [puts, Act.put, List.setIfInBounds_toArray, List.set_cons_succ, List.set_cons_zero, Nat.zero_add, Nat.reduceAdd]
                simp only [f1]
                have x2 := (hS.blk 6 rfl).cell 2
                simp at x2
                go_simp
                simp only [yUpon]
                exact hK _ _ rfl hS
              · intro D uu w' K hD hF hl hS hK
                have f2 := (hF 2 (by kernel_rfl)).2
                simp only at f2
                simp only [puts, Act.put, List.setIfInBounds_toArray, List.set_cons_succ, List.set_cons_zero, Nat.zero_add, Nat.reduceAdd]
                simp only [f2]
                go_simp
                simp only [yUpon]
                exact hK _ _ rfl hS
              · intro D uu w' K hD hF hl hS hK
                simp only [puts, Act.put, List.setIfInBounds_toArray, List.set_cons_succ, List.set_cons_zero, Nat.zero_add, Nat.reduceAdd]
                go_simp
                simp only [yUpon]
                exact hK _ _ rfl hS
              · intro D uu w' K hD hF hl hS hK
                have f3 := (hF 3 (by kernel_rfl)).2
                simp only at f3
                have f4 := (hF 4 (by kernel_rfl)).2
                simp only at f4
                simp only [puts, Act.put, List.setIfInBounds_toArray, List.set_cons_succ, List.set_cons_zero, Nat.zero_add, Nat.reduceAdd]
                simp only [f3, f4]
                go_simp
                simp only [yUpon]
                exact hK _ _ rfl hS
              · intro D uu w' K hD hF hl hS hK
                simp only [puts, Act.put, List.setIfInBounds_toArray, List.set_cons_succ, List.set_cons_zero, Nat.zero_add, Nat.reduceAdd]
                have x0 := (hS.blk 4 rfl).cell 0
                have x1 := (hS.blk 4 rfl).cell 1
                have x2 := (hS.blk 4 rfl).cell 2
                simp at x0 x1 x2
                go_simp
                simp only [yUpon]
                exact hK _ _ rfl hS
              · intro D uu w' K hD hF hl hS hK
                have f6 := (hF 6 (by kernel_rfl)).2
                simp only at f6
                simp only [puts, Act.put, List.setIfInBounds_toArray, List.set_cons_succ, List.set_cons_zero, Nat.zero_add, Nat.reduceAdd]
                simp only [f6]
                go_simp
                simp only [yUpon]
                refine (HKA.out _).mono ?_
                rintro e w1 ⟨rfl, hkk⟩
                exact hK _ _ rfl (hS.grow hkk)
              · intro D uu w' K hD hF hl hS hK
                have f5 := (hF 5 (by kernel_rfl)).2
                simp only at f5
                have f7 := (hF 7 (by kernel_rfl)).2
                simp only at f7
                simp only [puts, Act.put, List.setIfInBounds_toArray, List.set_cons_succ, List.set_cons_zero, Nat.zero_add, Nat.reduceAdd]
                simp only [f5, f7]
                go_simp
                simp only [yUpon]
                exact hK _ _ rfl hS
              · intro D uu w' K hD hF hl hS hK
                simp only [puts, Act.put, List.setIfInBounds_toArray, List.set_cons_succ, List.set_cons_zero, Nat.zero_add, Nat.reduceAdd]
                go_simp
                simp only [yUpon]
                exact hK _ _ rfl hS
              · intro D uu w' K hD hF hl hS hK
                have f0 := (hF 0 (by kernel_rfl)).2
                simp only at f0
                have f8 := (hF 8 (by kernel_rfl)).2
                simp only at f8
                simp only [puts, Act.put, List.setIfInBounds_toArray, List.set_cons_succ, List.set_cons_zero, Nat.zero_add, Nat.reduceAdd]
                simp only [f0, f8]
                go_simp
                simp only [yUpon]
                exact hK _ _ rfl hS
              · intro D uu w' K hD hF hl hS hK
                have f9 := (hF 9 (by kernel_rfl)).2
                simp only at f9
                have f10 := (hF 10 (by kernel_rfl)).2
                simp only at f10
                simp only [puts, Act.put, List.setIfInBounds_toArray, List.set_cons_succ, List.set_cons_zero, Nat.zero_add, Nat.reduceAdd]
                simp only [f9, f10]
                simp only [hD, cond_false] at hS
                have x0 := (hS.blk 7 rfl).cell (na + rr)
                rw [show (uw (t.now) ++ ex).toArray[na + rr]? = some (.int .u64 ((t.now).getD (na + rr) 0)) from uw_get2 (t.now) ex (na + rr) (by (try simp only [List.length_set]); rw [HNL.out]; omega)] at x0
                have z0 := (hS.blk 7 rfl).frozen (na + rr)
                have hput := hS.put (i := 7) rfl (na + rr) (.int .u64 a5)
                have e1 : (fset D 11 true) 11 = true := rfl
                go_simp
                simp only [yUpon]
                refine hK _ _ trivial ?_
                simp only [e1, cond_true]
                rw [← uw_set2 (t.now) ex (na + rr) (a5) (by (try simp only [List.length_set]); rw [HNL.out]; omega)]
                exact hput
            case fin =>
              clear HS
              intro D uu wg hall hS
              have f11 := (hall 11 (by simp)).1
              simp only [f11, cond_true] at hS
              have HS := Lib.hid hS
              clear hall hS f11
              simp only [puts, Act.put, List.setIfInBounds_toArray, List.set_cons_succ, List.set_cons_zero, Nat.zero_add, Nat.reduceAdd]
              have o0 := (HS.out.blk 6 rfl).cell 0
              simp at o0
              have o1 := (HS.out.blk 6 rfl).cell 1
              simp at o1
              have o2 := (HS.out.blk 6 rfl).cell 2
              simp at o2
              go_wp2_with fail
              refine (HFS.out.read2 _ (HS.out.dev 1 rfl)).mono ?_
              rintro e wx ⟨rfl, hkk⟩
              replace HS := Lib.hid (HS.out.grow hkk)
              clear hkk o0 o1 o2
              have o0 := (HS.out.blk 6 rfl).cell 0
              simp at o0
              have o1 := (HS.out.blk 6 rfl).cell 1
              simp at o1
              have o2 := (HS.out.blk 6 rfl).cell 2
              simp at o2
              go_wp2_with fail
              refine (HFS.out.ref2 _ (HS.out.dev 1 rfl)).mono ?_
              rintro e wx ⟨rfl, hkk⟩
              replace HS := Lib.hid (HS.out.grow hkk)
              clear hkk o0 o1 o2
              have c0 := (HS.out.blk 4 rfl).cell 0
              simp at c0
              have c1 := (HS.out.blk 4 rfl).cell 1
              simp at c1
              have c2 := (HS.out.blk 4 rfl).cell 2
              simp at c2
              go_wp2_with fail
              refine (words7_any d (tP) k _ (HS.out.dev 1 rfl) HK.out (HLENP.out.trans HNW.out.symm)).mono ?_
              rintro e wx ⟨g2, ex2, cw2, rfl, hbw, hgw, hkk⟩
              have hdl : ((tP).now.drop k.act).length = nw - na := by rw [List.length_drop, HLENP.out, HNA.out]
              rw [hdl, HNA.out]
              replace HS := Lib.hid (HS.out.add hkk (r := blkR g2 25 (uw (tP).now ++ ex2).toArray) hbw (by intro y hy; simp [blkR] at hy; subst hy; exact hgw))
              clear hbw hgw hkk hdl c0 c1 c2
              have hws : ((t.now.set (na + rr) a5)) = tP.now := by rw [HTP.out, HRR.out]
              have h1 : Rd wx (.slice (some ⟨g2, na, none⟩) (nw - na) cw2) (uw (tP.now.drop na)) := Rd.behind7 (HS.out.blk 8 rfl) (by rw [List.length_drop, HLENP.out])
              have h2 : Rd wx (.slice (some ⟨gw, na, none⟩) (nw - na) cw) (uw (((t.now.set (na + rr) a5)).drop na)) := Rd.behind7 (HS.out.blk 7 rfl) (by (try simp only [List.length_drop, List.length_set]); rw [HNL.out])
              have heq := equal_any _ _ (tP.now.drop na) (((t.now.set (na + rr) a5)).drop na) wx h1 h2 (by rw [List.length_drop, HLENP.out]; omega)
              rw [decide_eq_true (by rw [hws])] at heq
              have HEQ := Lib.hid heq
              clear hws h1 h2 heq
              go_wp2_with fail
              refine HEQ.out.mono ?_
              rintro e wh ⟨rfl, hkk⟩
              replace HS := Lib.hid (HS.out.grow hkk)
              clear hkk
              go_wp2
              go_ret
              exact ⟨rfl, HS.out.keep⟩

theorem ObjectFields.walk {v1 : Value} {w : World} (l r s : Int) (h : (lowest .u16 ≤ l ∧ l ≤ greatest .u16) ∧ (lowest .u16 ≤ r ∧ r ≤ greatest .u16) ∧ (lowest .u16 ≤ s ∧ s ≤ greatest .u16)) (hl1 : List HV) (hm1 : RdH w v1 hl1) (ho1 : ∀ x ∈ hl1, x.Ok) (hn1 : hl1.length ≤ maxLen) (a2 : Int) (a20 : lowest .u8 ≤ a2) (a21 : a2 ≤ greatest .u8) (a3 : Int) (a30 : lowest .i64 ≤ a3) (a31 : a3 ≤ greatest .i64) (a4 : Bool) (a5 : Int) (a50 : lowest .u64 ≤ a5) (a51 : a5 ≤ greatest .u64) (a6 : Int) (a60 : lowest .u16 ≤ a6) (a61 : a6 ≤ greatest .u16) (a7 : Bool) :
    Calls Try.prog 14 #[.agg #[.int .u16 l, .int .u16 r, .int .u16 s], v1, .int .u8 a2, .int .i64 a3, .bool a4, .int .u64 a5, .int .u16 a6, .bool a7] w fun e w' => e = .returned (.bool true) ∧ Below w.heap.size w w' := by
  obtain ⟨⟨l0, l1⟩, ⟨r0, r1⟩, s0, s1⟩ := h
  simp [lowest, greatest] at l0 l1 r0 r1 s0 s1 a20 a21 a30 a31 a50 a51 a60 a61
  exact (ObjectFields.core l r s v1 hl1 a2 a3 a4 a5 a6 a7 w l0 l1 r0 r1 s0 s1 hm1 ho1 hn1 a20 a21 a30 a31 a50 a51 a60 a61).mono fun e w' ⟨he, hk⟩ => ⟨he, hk.below⟩
end Go.Proofs.Ytaophnicdbmojaa
