/-
  WalkObjects: the walk.
-/
import Derived.Deep.CutRange
import Derived.Test.YthdiehcmjknhiaaAwk11
import Derived.Test.YthdiehcmjknhiaaLoopF
import Derived.Test.YthdiehcmjknhiaaRelIn
import Derived.Sort.CutIn
set_option linter.unusedSimpArgs false
set_option linter.unusedVariables false
set_option maxRecDepth 100000
namespace Go.Proofs.Ythdiehcmjknhiaa
open Go.RowKit Go.Shelf

attribute [local go_sem] Oper.semAt_some

theorem wpFr_seqH {Fr : FuncId → Prop} {P : Program} {Q : Exit → Act → World → Prop} {a : Act} {w : World} {x y : Code}
    (h : ∀ K : Act → World → Prop, (∀ a w, wpFr Fr P y Q a w → K a w) → x.wp P (Exit.then K Q) a w) : wpFr Fr P (.seq x y) Q a w :=
  wpFr_seq (wpFr_of_wp (h _ fun _ _ h => h))
theorem UseS.put {t : St} {k : Kfg} {a u p : Nat} {v : Int} (h : UseS t k a u) (hp : k.act + 1 < p) (hpw : p < k.words) : UseS (t.store p v) k a u := by
  have e := St.nw_store h.is hpw v
  refine ⟨h.is.store _ _, h.lim, ?_, ?_⟩
  · rw [e, if_neg (by omega)]; exact h.act
  · rw [e, if_neg (by omega)]; exact h.used
theorem or_pack2w (words refs : Int) (h0 : 0 ≤ refs) (h1 : refs ≤ 64) (h2 : 0 ≤ words) (h3 : words ≤ 1000) : bits .or .u64 (12754194144713244672 + refs * 4294967296) words = hw words refs := by
  obtain ⟨r, rfl⟩ := Int.eq_ofNat_of_zero_le h0
  obtain ⟨x, rfl⟩ := Int.eq_ofNat_of_zero_le h2
  have e : (12754194144713244672 + (r : Int) * 4294967296) = ((2 ^ 32 * (2969567232 + r) : Nat) : Int) := by omega
  have h := or_disjoint (2969567232 + r) x 32 (by omega)
  rw [e, bits_or_u64_nat _ _ (by omega) (by omega), h]
  unfold hw; omega
theorem addr0 (g i : Nat) : (⟨g, 0, none⟩ : Addr).add i = ⟨g, i, none⟩ := by unfold Addr.add; split <;> simp_all
theorem one_int {x : Int} : ∀ u ∈ [Value.int .i64 x], u.oneCell' = true := by intro u hu; simp at hu; subst hu; rfl
def plsOf (l : List It) : List Value := l.map fun x => .int .i64 (x.p : Int)
theorem rise_len2 {e : Nat} : ∀ {l : List It} {p : Nat}, l.Pairwise (fun x y => x.p < y.p) → (∀ x ∈ l, p ≤ x.p ∧ x.p < e) → l.length ≤ e - p
  | [], p, _, _ => by simp
  | y :: l, p, h1, h2 => by
    obtain ⟨h3, h4⟩ := List.pairwise_cons.1 h1
    have h5 := rise_len2 (p := y.p + 1) h4 (fun x hx => ⟨h3 x hx, (h2 x (by simp [hx])).2⟩)
    have h6 := h2 y (by simp)
    simp only [List.length_cons]
    omega
theorem rise_len {l : List It} {e : Nat} (h1 : l.Pairwise (fun x y => x.p < y.p)) (h2 : ∀ x ∈ l, x.p < e) : l.length ≤ e :=
  rise_len2 (p := 0) h1 fun x hx => ⟨Nat.zero_le _, h2 x hx⟩
theorem scan_good_iff {t : St} {e p i : Nat} {x : It} (h : (scan t e p)[i]? = some x) : x.err = 0 ↔ i < (if errAt (scan t e p) = 0 then (scan t e p).length else (scan t e p).length - 1) := by
  have hi := (List.getElem?_eq_some_iff.1 h).1
  by_cases hx : x.err = 0
  · by_cases hE : errAt (scan t e p) = 0
    · rw [if_pos hE]; exact ⟨fun _ => hi, fun _ => hx⟩
    · rw [if_neg hE]
      refine ⟨fun _ => ?_, fun _ => hx⟩
      rcases Nat.lt_or_ge i ((scan t e p).length - 1) with h1 | h1
      · exact h1
      · exfalso
        apply hE
        unfold errAt
        rw [List.getLast?_eq_getElem?, show (scan t e p).length - 1 = i by omega, h]
        exact hx
  · obtain ⟨h1, h2⟩ := scan_err h hx
    have hE := errAt_some h hx
    rw [if_neg (by rw [hE]; exact hx)]
    constructor
    · intro h3; exact absurd h3 hx
    · intro h3; omega
theorem scan_good_len (t : St) (e p : Nat) : ((scan t e p).filter fun x => decide (x.err = 0)).length = if errAt (scan t e p) = 0 then (scan t e p).length else (scan t e p).length - 1 := by
  obtain ⟨l, hl⟩ : ∃ l, scan t e p = l := ⟨_, rfl⟩
  have hg : ∀ i x, l[i]? = some x → (x.err = 0 ↔ i < (if errAt l = 0 then l.length else l.length - 1)) := fun i x h => by
    rw [← hl] at h ⊢; exact scan_good_iff h
  rw [hl]
  obtain ⟨n, hn⟩ : ∃ n, (if errAt l = 0 then l.length else l.length - 1) = n := ⟨_, rfl⟩
  rw [hn] at hg ⊢
  have hnl : n ≤ l.length := by rw [← hn]; split <;> omega
  have h1 : (l.take n).filter (fun x => decide (x.err = 0)) = l.take n := List.filter_eq_self.2 fun x hx => by
    obtain ⟨i, hi, rfl⟩ := List.mem_iff_getElem.1 hx
    have hi2 : i < n ∧ i < l.length := by rw [List.length_take] at hi; omega
    have h2 := hg i ((l.take n)[i]) (by rw [List.getElem_take]; exact List.getElem?_eq_getElem hi2.2)
    exact decide_eq_true (h2.2 hi2.1)
  have h3 : (l.drop n).filter (fun x => decide (x.err = 0)) = [] := List.filter_eq_nil_iff.2 fun x hx => by
    obtain ⟨i, hi, rfl⟩ := List.mem_iff_getElem.1 hx
    have h2 := hg (n + i) ((l.drop n)[i]) (by rw [← List.getElem?_drop]; exact List.getElem?_eq_getElem hi)
    intro h4
    have := h2.1 (of_decide_eq_true h4)
    omega
  have h5 : l.filter (fun x => decide (x.err = 0)) = l.take n := by
    conv => lhs; rw [← List.take_append_drop n l]
    rw [List.filter_append, h1, h3, List.append_nil]
  rw [h5, List.length_take]
  omega
theorem scanF_item {t : St} {e : Nat} : ∀ (f p m : Nat) (x : It), (scanF t e f p)[m]? = some x → p ≤ x.p ∧ x.p < e ∧ ((goodAt t e x.p ∧ x = itAt t x.p) ∨ (¬ goodAt t e x.p ∧ x = ⟨x.p, 0, 0, 8⟩))
  | 0, p, m, x, h => by simp [scanF] at h
  | f + 1, p, m, x, h => by
    simp only [scanF] at h
    by_cases h1 : e ≤ p
    · rw [if_pos h1] at h; simp at h
    · rw [if_neg h1] at h
      by_cases h2 : goodAt t e p
      · rw [if_pos h2] at h
        cases m with
        | zero => simp at h; subst h; exact ⟨Nat.le_refl _, by show p < e; omega, .inl ⟨h2, rfl⟩⟩
        | succ m =>
          simp only [List.getElem?_cons_succ] at h
          have ih := scanF_item f _ m x h
          exact ⟨by have := ih.1; unfold nextAt at this; omega, ih.2⟩
      · rw [if_neg h2] at h
        cases m with
        | zero => simp at h; subst h; exact ⟨Nat.le_refl _, by show p < e; omega, .inr ⟨h2, rfl⟩⟩
        | succ m => simp at h
theorem scan_item {t : St} {e p m : Nat} {x : It} (h : (scan t e p)[m]? = some x) : p ≤ x.p ∧ x.p < e ∧ ((goodAt t e x.p ∧ x = itAt t x.p) ∨ (¬ goodAt t e x.p ∧ x = ⟨x.p, 0, 0, 8⟩)) := scanF_item _ _ _ _ h
theorem of_item {d : DevI} {t : St} {k : Kfg} {u e f m : Nat} {rv : Value} {x : It} (hk : k.Ok) (hu : u ≤ k.S) (hf : k.from_ 0 = f) (he : f + u = e) (hr : t.rng) (h : (scan t e f)[m]? = some x) :
    ∃ q1 q2 q3, (∀ w, Dev w d t → Calls Try.prog 19 #[.pointer (some ⟨d.b, 0, none⟩), .agg k.cells, .agg (rbC 0 u rv), .int .i64 (x.p : Int)] w fun e w' => e = .returned (ofR q1 q2 q3 x.err) ∧ Keep w.heap.size [] w w') ∧
      (x.err = 0 → q1 = x.m ∧ q2 = x.b ∧ q3 = (x.p : Int)) ∧ (x.err ≠ 0 → x.err = 8 ∧ x.m = 0 ∧ x.b = 0) := by
  obtain ⟨h1, h2, h3⟩ := scan_item h
  have hxr := hr.nw x.p
  rcases h3 with ⟨hg, hx⟩ | ⟨hg, hx⟩
  · have e1 : x.m = (headOf (t.nw x.p)).1 := by rw [hx]; rfl
    have e2 : x.b = (headOf (t.nw x.p)).2.1 := by rw [hx]; rfl
    have e3 : x.err = 0 := by rw [hx]; rfl
    refine ⟨x.m, x.b, x.p, fun w hd => ?_, fun _ => ⟨rfl, rfl, rfl⟩, fun h => absurd e3 h⟩
    rw [e3]
    exact of_yes d t k 0 u x.p e _ x.m x.b rv w hd hk (by decide) hu (by rw [hf]; omega) (by rw [hf]; exact he) rfl hxr.1 hxr.2 (by rw [e1, e2, ← hg.1]) (by rw [e1]; exact hg.2)
  · have e1 : x.m = 0 := by rw [hx]
    have e2 : x.b = 0 := by rw [hx]
    have e3 : x.err = 8 := by rw [hx]
    have hbad : (headOf (t.nw x.p)).2.2 = false ∨ (e : Int) - (x.p : Int) < (headOf (t.nw x.p)).1 + 1 := by
      unfold goodAt at hg
      cases h : (headOf (t.nw x.p)).2.2 with
      | false => exact .inl rfl
      | true => exact .inr (by rw [h] at hg; simp only [true_and] at hg; omega)
    refine ⟨0, 0, 0, fun w hd => ?_, fun h => absurd h (by rw [e3]; decide), fun _ => ⟨e3, e1, e2⟩⟩
    rw [e3]
    exact of_bad d t k 0 u x.p e _ _ _ _ rv w hd hk (by decide) hu (by rw [hf]; omega) (by rw [hf]; exact he) rfl hxr.1 hxr.2 rfl hbad
theorem rise_inj {l : List It} (hp : l.Pairwise (fun x y => x.p < y.p)) {x y : It} (hx : x ∈ l) (hy : y ∈ l) (h : x.p = y.p) : x = y := by
  obtain ⟨i, hi, rfl⟩ := List.mem_iff_getElem.1 hx
  obtain ⟨j, hj, rfl⟩ := List.mem_iff_getElem.1 hy
  rw [List.pairwise_iff_getElem] at hp
  rcases Nat.lt_trichotomy i j with h1 | h1 | h1
  · have := hp i j hi hj h1; omega
  · subst h1; rfl
  · have := hp j i hj hi h1; omega
theorem map_at {t : St} {e p i : Nat} {x : It} (h : (scan t e p)[i]? = some x) : (mapOf (scan t e p) (x.p : Int)).isSome = true ↔ x.err = 0 := by
  have hx := List.mem_of_getElem? h
  rw [mapOf_some (scan_rise t e p)]
  constructor
  · intro h1
    obtain ⟨y, hy, hp⟩ := List.mem_map.1 h1
    obtain ⟨hy1, hy2⟩ := List.mem_filter.1 hy
    have := rise_inj (scan_rise t e p) hy1 hx (by omega)
    subst this
    simpa using hy2
  · intro h1
    exact List.mem_map.2 ⟨x, List.mem_filter.2 ⟨hx, by simpa using h1⟩, rfl⟩
theorem headish70 (w : Int) (h : Wd w) : ∃ x, Wd x ∧ bits .or .u64 (bits .or .u64 12754194144713244672 (w % 3 * 4294967296)) (w / 256 % 70) = x := by
  obtain ⟨h0, h1⟩ := h
  refine ⟨_, ?_, rfl⟩
  rw [or_pack1 (w % 3) (by omega) (by omega), or_pack2w (w / 256 % 70) (w % 3) (by omega) (by omega) (by omega) (by omega)]
  unfold hw Wd
  omega

set_option maxRecDepth 100000 in
set_option maxHeartbeats 8000000 in
theorem WalkObjects.core (l r s : Int) (v1 : Value) (hl1 : List HV) (a2 : Int) (a3 : Int) (a4 : Bool) (a5 : Int) (w : World) (l0 : 0 ≤ l) (l1 : l ≤ 65535) (r0 : 0 ≤ r) (r1 : r ≤ 65535) (s0 : 0 ≤ s) (s1 : s ≤ 65535) (hm1 : RdH w v1 hl1) (ho1 : ∀ x ∈ hl1, x.Ok) (hn1 : hl1.length ≤ maxLen) (a20 : 0 ≤ a2) (a21 : a2 ≤ 65535) (a30 : 0 ≤ a3) (a31 : a3 ≤ 18446744073709551615) (a50 : 0 ≤ a5) (a51 : a5 ≤ 255) :
    Calls Try.prog 3 #[.agg #[.int .u16 l, .int .u16 r, .int .u16 s], v1, .int .u16 a2, .int .u64 a3, .bool a4, .int .u8 a5] w fun e w' => e = .returned (.bool true) ∧ Keep w.heap.size [] w w' := by
  simp only [maxLen] at hn1
  obtain ⟨q2, rfl⟩ : ∃ q2 : Nat, a2 = (q2 : Int) := ⟨a2.toNat, by omega⟩
  obtain ⟨q5, rfl⟩ : ∃ q5 : Nat, a5 = (q5 : Int) := ⟨a5.toNat, by omega⟩
  obtain ⟨z5, hz5⟩ : ∃ z5, q5 % 3 = z5 := ⟨_, rfl⟩
  have hrem5 : ((q5 : Int)).tmod 3 = (z5 : Int) := by rw [show (3 : Int) = ((3 : Nat) : Int) from rfl, tmod_natN, hz5]
  clear hz5
  have HS := Lib.hid (((Sep.start w []).new 24 #[.int .u16 l, .int .u16 r, .int .u16 s]).new 4 #[.bool false])
  simp only [World.size_alloc] at HS
  obtain ⟨hk, hkL, hkR, hkS⟩ := kOf_ok (l := l) (r := r) (s := s) l0 r0 s0
  have hfa := fun w hm hml => filled_any l r s v1 hl1 w l0 l1 r0 r1 s0 s1 hm ho1 hml
  have hpl := placed_length ((kOf l r s).from_ 0) (kOf l r s).S hl1 0
  generalize kOf l r s = k at *
  obtain ⟨os, hos⟩ : ∃ os, placed (k.from_ 0) k.S hl1 0 = os := ⟨_, rfl⟩
  obtain ⟨u, hu⟩ : ∃ u, usedOf k.S hl1 0 = u := ⟨_, rfl⟩
  simp only [hos, hu] at hfa hpl
  have HFA := Lib.hid hfa
  have HK := Lib.hid hk
  have HM := Lib.hid hm1
  have hS8 : 8 ≤ k.S := hk.s0
  have hw2 : k.words ≤ 10000 := (Kfg.words_le hk).2
  have hw1 : k.act + 2 + k.R ≤ k.words := (Kfg.words_le hk).1
  clear hfa hk hos hu
  obtain ⟨HA, HC, hv1, hvv⟩ := hm1
  subst hv1
  clear hvv
  refine Calls.mono (R := fun e w' => e = .returned (.bool true) ∧ Sep w [] [] w') ?_ fun e w' h => ⟨h.1, h.2.keep⟩
  refine calls_of_wpFr Try.func3 rfl ?_
  simp only [Try.ntmps3, List.size_toArray, List.length_cons, List.length_nil, Nat.reduceAdd, Nat.reduceSub, Array.replicate_succ,
     Array.replicate_zero, List.push_toArray, List.append_toArray, List.nil_append, List.cons_append]
  refine wpFr_seq (wpFr_of_wp ?_)
  go_wp2
  generalize (w.alloc _).alloc _ = w2 at *
  generalize w.heap.size = gx at *
  generalize gx + 1 = gr at *
  refine wpFr_seq (wpFr_of_wp ?_)
  go_wp2_with fail
  refine (awake11_any _).mono ?_
  rintro e w1 ⟨rfl, hk⟩
  replace HS := Lib.hid (HS.out.grow hk)
  clear hk
  go_wp2
  refine wpFr_seq (wpFr_of_wp ?_)
  by_cases hb1 : 30 < hl1.length
  · have hbI : (30 : Int) < hl1.length := by omega
    have r0 := (HS.out.blk 1 rfl).cell 0
    simp at r0
    have z2 := (HS.out.blk 1 rfl).frozen 0
    have hs2 := HS.out.put (i := 1) rfl 0 (.bool true)
    have HS2 := Lib.hid hs2
    clear hs2
    go_wp2
    have ld := loadVar_one (P := Try.prog) (ty := 4) (a := ⟨gr, 0, none⟩) (v := .bool true) (d := .bool) (by kernel_rfl) rfl (by rw [(HS2.out.blk 1 rfl).cell 0]; rfl)
    exact leave_none (results_c (fn := Try.f3) (p := 12) (ty := 4) (a1 := ⟨gr, 0, none⟩) rfl _ _ _ rfl ld) ⟨rfl, HS2.out.take 0⟩
  have hx2 : ((30 : Int) < hl1.length) = False := by rw [eq_iff_iff, iff_false]; omega
  have hx3 : (30 < hl1.length) = False := by rw [eq_iff_iff, iff_false]; omega
  go_wp2
  clear hx2 hx3
  refine wpFr_seq (wpFr_of_wp ?_)
  have c0 := (HS.out.blk 0 rfl).cell 0
  simp at c0
  have c1 := (HS.out.blk 0 rfl).cell 1
  simp at c1
  have c2 := (HS.out.blk 0 rfl).cell 2
  simp at c2
  go_wp2_with fail
  refine (HFA.out _ (HM.out.keep HS.out.keep) (by omega)).mono ?_
  rintro e w3 ⟨d, t, rv, ov, rfl, hf, hb, hS⟩
  obtain ⟨OA, OC, hov⟩ := rowR_val (hS.row 1 rfl)
  obtain ⟨RA, RC, hrv⟩ := rowR_val (hS.row 2 rfl)
  rw [atsOf_length] at hov
  obtain ⟨rs, hrs⟩ : ∃ rs, rootsOf t k k.R = rs := ⟨_, rfl⟩
  rw [hrs] at hrv hS
  obtain ⟨RL, hRL⟩ : ∃ RL, (uw rs).length = RL := ⟨_, rfl⟩
  rw [hRL] at hrv
  subst hov hrv
  have hadds := HS.out.adds hS
  replace HS := Lib.hid hadds
  have HF := Lib.hid hf
  have HB := Lib.hid hb
  simp only [Kfg.cells, rbC]
  clear hS hadds hf hb hrs hRL c0 c1 c2 HFA HM
  go_wp2
  replace HS := Lib.hid (((HS.out.new 28 #[.pointer (some ⟨d.b, 0, none⟩)]).new 30 #[.int .i64 (k.L : Int), .int .i64 (k.R : Int), .int .i64 (k.S : Int)]).new 33 #[.int .i64 0, .int .i64 (u : Int), .slice RA RL RC])
  simp only [World.size_alloc] at HS
  generalize ((w3.alloc _).alloc _).alloc _ = w4 at *
  generalize w3.heap.size = gd at *
  generalize gd + 1 = gk at *
  generalize gk + 1 = gb at *
  replace HS : Hid (Sep w [] [blkR gx 24 #[.int .u16 l, .int .u16 r, .int .u16 s], blkR gr 4 #[.bool false], devR d (t), rowR 3 (.slice OA os.length OC) (atsOf os), rowR 26 (.slice RA RL RC) (uw rs), blkR gd 28 #[.pointer (some ⟨d.b, 0, none⟩)], blkR gk 30 #[.int .i64 (k.L : Int), .int .i64 (k.R : Int), .int .i64 (k.S : Int)], blkR gb 33 #[.int .i64 0, .int .i64 (u : Int), .slice RA RL RC]] w4) := HS
  refine wpFr_seq (wpFr_of_wp ?_)
  have d0 := (HS.out.blk 5 rfl).cell 0
  simp at d0
  go_wp2
  clear d0
  have hosl : os.length ≤ 1000 := by omega
  refine wpFr_seqH fun K hK => ?_
  go_upto_if 49 with fail
  refine (show Code.wp _ _ (Exit.then K _) _ _ from ?_)
  go_cut [3] from 50 to 57 (fun v3 wx => wx = w4 ∧ ∃ y, Wd y ∧ v3 = .int .u64 y)
  case first =>
    cases a4
    · go_wp2
      go_meet
      exact ⟨rfl, a3, ⟨a30, a31⟩, rfl⟩
    · obtain ⟨y, hy, hye⟩ := headish70 a3 ⟨a30, a31⟩
      have hs1 : IntKind.u64.wrap (a3 % 3 * 4294967296) = a3 % 3 * 4294967296 := by rw [IntKind.wrap_u64]; omega
      have HY := Lib.hid hy
      clear hy
      go_wp2
      go_meet
      exact ⟨rfl, y, HY.out, by first | rfl | (rw [hye]) | (simp only [hs1]; rw [hye])⟩
  obtain ⟨rfl, y, hy, rfl⟩ := hcut
  refine hK _ _ ?_
  clear hK
  have HY := Lib.hid hy
  clear hy
  obtain ⟨f, hf0⟩ : ∃ f, k.from_ 0 = f := ⟨_, rfl⟩
  have hfu : f + k.S ≤ k.words := by
    have h1 := Kfg.from_words HK.out (a := 1) (by omega)
    have h2 : k.from_ 1 = k.from_ 0 + up8 k.S := k.from_step 0
    have h3 := (up8_le k.S).1
    omega
  have hfl := k.from_le
  rw [hf0] at hfl
  have huS : u ≤ k.S := HF.out.le
  have HF0 := Lib.hid hf0
  have HKF := Lib.hid (fun w => kfrom k w HK.out 0 (by decide))
  rw [hf0] at HKF
  simp only [Kfg.cells] at HKF
  clear hf0
  refine wpFr_seqH fun K hK => ?_
  go_upto_if 60 with fail
  refine (show Code.wp _ _ (Exit.then K _) _ _ from ?_)
  go_cut [] from 60 to 71 (fun wx => True ∧ ∃ t2, UseS t2 k 0 u ∧ t2.rng ∧ (z5 = 0 → t2 = t) ∧ Sep w [] [blkR gx 24 #[.int .u16 l, .int .u16 r, .int .u16 s], blkR gr 4 #[.bool false], devR d (t2), rowR 3 (.slice OA os.length OC) (atsOf os), rowR 26 (.slice RA RL RC) (uw rs), blkR gd 28 #[.pointer (some ⟨d.b, 0, none⟩)], blkR gk 30 #[.int .i64 (k.L : Int), .int .i64 (k.R : Int), .int .i64 (k.S : Int)], blkR gb 33 #[.int .i64 0, .int .i64 (u : Int), .slice RA RL RC]] wx)
  case first =>
    by_cases hz : z5 = 0
    · have HZ := Lib.hid hz
      have hzI : ¬ (0 : Int) < (z5 : Int) := by omega
      clear hz
      go_wp2
      go_meet
      exact ⟨trivial, t, HF.out.use, HB.out.rng, fun _ => rfl, HS.out⟩
    · have HZ := Lib.hid hz
      have hzI : (0 : Int) < (z5 : Int) := by omega
      obtain ⟨i, hi⟩ : ∃ i : Nat, q2 % k.S = i := ⟨_, rfl⟩
      have hiS : i < k.S := by rw [← hi]; exact Nat.mod_lt _ (by omega)
      obtain ⟨p, hp⟩ : ∃ p, f + i = p := ⟨_, rfl⟩
      have hmod : ((q2 : Int)).tmod (k.S : Int) = (i : Int) := by rw [tmod_natN, hi]
      have hadd : IntKind.i64.wrap ((f : Int) + (i : Int)) = (p : Int) := by rw [IntWalk.i64_in _ (by omega)]; omega
      have hz1 : ((k.S : Int) = 0) = False := by rw [eq_iff_iff, iff_false]; omega
      have hz2 : (k.S = 0) = False := by rw [eq_iff_iff, iff_false]; omega
      have hq2 : IntKind.i64.wrap (q2 : Int) = (q2 : Int) := IntWalk.i64_in _ (by omega)
      have hu2 := HF.out.use.put (p := p) (v := y) (by omega) (by omega)
      have hr2 := HB.out.rng.store (k := p) HY.out
      have HU2 := Lib.hid hu2
      have HR2 := Lib.hid hr2
      have HPW : Hid (p < k.words) := Lib.hid (by omega)
      clear hz hu2 hr2 hi hp
      go_upto_region 11 with fail
      refine wp_region_st3 (W := w) (S := []) (by kernel_rfl) (by kernel_rfl) (by kernel_rfl) (fun D uu => [blkR gx 24 #[.int .u16 l, .int .u16 r, .int .u16 s], blkR gr 4 #[.bool false], devR d (bif D 10 then t.store p y else t), rowR 3 (.slice OA os.length OC) (atsOf os), rowR 26 (.slice RA RL RC) (uw rs), blkR gd 28 #[.pointer (some ⟨d.b, 0, none⟩)], blkR gk 30 #[.int .i64 (k.L : Int), .int .i64 (k.R : Int), .int .i64 (k.S : Int)], blkR gb 33 #[.int .i64 0, .int .i64 (u : Int), .slice RA RL RC]])
        (fun j v => match j with
          | 0 => v = .pointer (some ⟨d.b, 0, none⟩)
          | 1 => v = .agg #[.int .i64 (k.L : Int), .int .i64 (k.R : Int), .int .i64 (k.S : Int)]
          | 2 => v = .int .i64 (f : Int)
          | 3 => v = .int .u16 (q2 : Int)
          | 4 => v = .int .i64 (q2 : Int)
          | 5 => v = .pointer (some ⟨gk, 2, none⟩)
          | 6 => v = .int .i64 (k.S : Int)
          | 7 => v = .int .i64 (i : Int)
          | 8 => v = .int .i64 (p : Int)
          | 9 => v = .int .u64 y
          | _ => True) ?start ?step ?fin
      case start => exact fun u => HS.out
      case step =>
        clear HS
        refine ⟨?_, ?_, ?_, ?_, ?_, ?_, ?_, ?_, ?_, ?_, ?_, trivial⟩
        · intro D uu w' K hD hF hl hS hK
          simp only [puts, Act.put, List.setIfInBounds_toArray, List.set_cons_succ, List.set_cons_zero, Nat.zero_add, Nat.reduceAdd]
          have x0 := (hS.blk 5 rfl).cell 0
          simp at x0
          go_simp
          simp only [yUpon]
          exact hK _ _ rfl hS
        · intro D uu w' K hD hF hl hS hK
          simp only [puts, Act.put, List.setIfInBounds_toArray, List.set_cons_succ, List.set_cons_zero, Nat.zero_add, Nat.reduceAdd]
          have x0 := (hS.blk 6 rfl).cell 0
          have x1 := (hS.blk 6 rfl).cell 1
          have x2 := (hS.blk 6 rfl).cell 2
          simp at x0 x1 x2
          go_simp
          simp only [yUpon]
          exact hK _ _ rfl hS
        · intro D uu w' K hD hF hl hS hK
          have f1 := (hF 1 (by kernel_rfl)).2
          simp only at f1
          simp only [puts, Act.put, List.setIfInBounds_toArray, List.set_cons_succ, List.set_cons_zero, Nat.zero_add, Nat.reduceAdd]
          simp only [f1]
          go_simp
          simp only [yUpon]
          refine (HKF.out _).mono ?_
          rintro e w1 ⟨rfl, hkk⟩
          exact hK _ _ rfl (hS.grow hkk)
        · intro D uu w' K hD hF hl hS hK
          simp only [puts, Act.put, List.setIfInBounds_toArray, List.set_cons_succ, List.set_cons_zero, Nat.zero_add, Nat.reduceAdd]
          go_simp
          simp only [yUpon]
          exact hK _ _ rfl hS
        · intro D uu w' K hD hF hl hS hK
          have f3 := (hF 3 (by kernel_rfl)).2
          simp only at f3
          simp only [puts, Act.put, List.setIfInBounds_toArray, List.set_cons_succ, List.set_cons_zero, Nat.zero_add, Nat.reduceAdd]
          simp only [f3]
          go_simp
          simp only [yUpon]
          exact hK _ _ rfl hS
        · intro D uu w' K hD hF hl hS hK
          simp only [puts, Act.put, List.setIfInBounds_toArray, List.set_cons_succ, List.set_cons_zero, Nat.zero_add, Nat.reduceAdd]
          go_simp
          simp only [yUpon]
          exact hK _ _ rfl hS
        · intro D uu w' K hD hF hl hS hK
          have f5 := (hF 5 (by kernel_rfl)).2
          simp only at f5
          simp only [puts, Act.put, List.setIfInBounds_toArray, List.set_cons_succ, List.set_cons_zero, Nat.zero_add, Nat.reduceAdd]
          simp only [f5]
          have x2 := (hS.blk 6 rfl).cell 2
          simp at x2
          go_simp
          simp only [yUpon]
          exact hK _ _ rfl hS
        · intro D uu w' K hD hF hl hS hK
          have f4 := (hF 4 (by kernel_rfl)).2
          simp only at f4
          have f6 := (hF 6 (by kernel_rfl)).2
          simp only at f6
          simp only [puts, Act.put, List.setIfInBounds_toArray, List.set_cons_succ, List.set_cons_zero, Nat.zero_add, Nat.reduceAdd]
          simp only [f4, f6]
          go_simp
          simp only [yUpon]
          exact hK _ _ rfl hS
        · intro D uu w' K hD hF hl hS hK
          have f2 := (hF 2 (by kernel_rfl)).2
          simp only at f2
          have f7 := (hF 7 (by kernel_rfl)).2
          simp only at f7
          simp only [puts, Act.put, List.setIfInBounds_toArray, List.set_cons_succ, List.set_cons_zero, Nat.zero_add, Nat.reduceAdd]
          simp only [f2, f7]
          go_simp
          simp only [yUpon]
          exact hK _ _ rfl hS
        · intro D uu w' K hD hF hl hS hK
          simp only [puts, Act.put, List.setIfInBounds_toArray, List.set_cons_succ, List.set_cons_zero, Nat.zero_add, Nat.reduceAdd]
          go_simp
          simp only [yUpon]
          exact hK _ _ rfl hS
        · intro D uu w' K hD hF hl hS hK
          have f0 := (hF 0 (by kernel_rfl)).2
          simp only at f0
          have f8 := (hF 8 (by kernel_rfl)).2
          simp only at f8
          have f9 := (hF 9 (by kernel_rfl)).2
          simp only at f9
          simp only [puts, Act.put, List.setIfInBounds_toArray, List.set_cons_succ, List.set_cons_zero, Nat.zero_add, Nat.reduceAdd]
          simp only [f0, f8, f9]
          simp only [hD, cond_false] at hS
          have e1 : (fset D 10 true) 10 = true := rfl
          go_simp
          simp only [yUpon]
          refine (store_free d t p y _ (hS.dev 2 rfl) HF.out.use.lim (by rw [HF.out.use.is.now]; exact HPW.out)).mono ?_
          rintro e w1 ⟨rfl, hd, hkk⟩
          refine hK _ _ trivial ?_
          simp only [e1, cond_true]
          exact hS.did (i := 2) rfl hd hkk
      case fin =>
        intro D uu wf hall hS
        have f10 := (hall 10 (by simp)).1
        simp only [f10, cond_true] at hS
        have HS := Lib.hid hS
        clear hall hS f10
        simp only [puts, Act.put, List.setIfInBounds_toArray, List.set_cons_succ, List.set_cons_zero, Nat.zero_add, Nat.reduceAdd]
        go_wp2
        go_meet
        exact ⟨trivial, t.store p y, HU2.out, HR2.out, fun h => absurd h HZ.out, HS.out⟩
  obtain ⟨_, t2, hu2, hr2, ht2, hs2⟩ := hcut
  refine hK _ _ ?_
  clear hK HS
  have HS := Lib.hid hs2
  have HU := Lib.hid hu2
  have HRG := Lib.hid hr2
  have HT2 := Lib.hid ht2
  clear hs2 hu2 hr2 ht2 HY HB
  obtain ⟨e, he⟩ : ∃ e, f + u = e := ⟨_, rfl⟩
  obtain ⟨its, hits⟩ : ∃ its, scan t2 e f = its := ⟨_, rfl⟩
  have hel : e ≤ 20000 := by omega
  have hfeI : IntKind.i64.wrap ((f : Int) + (u : Int)) = (e : Int) := by rw [IntWalk.i64_in _ (by omega)]; omega
  have HE := Lib.hid he
  have HITS := Lib.hid hits
  have hitl : its.length ≤ 20000 := by
    have h1 := scan_rise t2 e f
    have h2 : ∀ x ∈ scan t2 e f, x.p < e := fun x hx => (scan_in hx).2
    rw [hits] at h1 h2
    exact Nat.le_trans (rise_len h1 h2) hel
  clear he hits
  refine wpFr_seq (wpFr_of_wp ?_)
  go_wp2
  replace HS := Lib.hid ((HS.out.new 34 #[.slice none 0 0]).nilRow 3)
  generalize wc.alloc _ = w6 at *
  generalize wc.heap.size = gw at *
  refine wpFr_seq (wpFr_of_wp ?_)
  go_wp2
  refine wpFr_seq (wpFr_of_wp ?_)
  have c0 := (HS.out.blk 6 rfl).cell 0
  simp at c0
  have c1 := (HS.out.blk 6 rfl).cell 1
  simp at c1
  have c2 := (HS.out.blk 6 rfl).cell 2
  simp at c2
  go_wp2_with fail
  refine (HKF.out _).mono ?_
  rintro e1 w7 ⟨rfl, hkk⟩
  replace HS := Lib.hid (HS.out.grow hkk)
  clear hkk c0 c1 c2
  go_wp2
  replace HS : Hid (Sep w [] [blkR gx 24 #[.int .u16 l, .int .u16 r, .int .u16 s], blkR gr 4 #[.bool false], devR d (t2), rowR 3 (.slice OA os.length OC) (atsOf os), rowR 26 (.slice RA RL RC) (uw rs), blkR gd 28 #[.pointer (some ⟨d.b, 0, none⟩)], blkR gk 30 #[.int .i64 (k.L : Int), .int .i64 (k.R : Int), .int .i64 (k.S : Int)], blkR gb 33 #[.int .i64 0, .int .i64 (u : Int), .slice RA RL RC], blkR gw 34 #[.slice none ((its.take 0).length) 0], rowR 3 (.slice none ((its.take 0).length) 0) (plsOf (its.take 0))] w7) := HS
  refine wpFr_seqH fun K hK => ?_
  refine (show Code.wp _ _ (Exit.then K _) _ _ from ?_)
  go_cut [18] from 18 to 101 (fun v18 wx => v18 = .int .i64 (errAt its) ∧ ∃ WA WC, Sep w [] [blkR gx 24 #[.int .u16 l, .int .u16 r, .int .u16 s], blkR gr 4 #[.bool false], devR d (t2), rowR 3 (.slice OA os.length OC) (atsOf os), rowR 26 (.slice RA RL RC) (uw rs), blkR gd 28 #[.pointer (some ⟨d.b, 0, none⟩)], blkR gk 30 #[.int .i64 (k.L : Int), .int .i64 (k.R : Int), .int .i64 (k.S : Int)], blkR gb 33 #[.int .i64 0, .int .i64 (u : Int), .slice RA RL RC], blkR gw 34 #[.slice WA (its.length) WC], rowR 3 (.slice WA (its.length) WC) (plsOf (its))] wx)
  case first =>
    go_wp2_with fail
    go_loopw [18, 19, 20, 21] (fun v18 v19 _ _ wr => ∃ (j p : Nat) (WA : Option Addr) (WC : Nat), j ≤ its.length ∧ v19 = .int .i64 (p : Int) ∧ v18 = .int .i64 0 ∧ f ≤ p ∧ p ≤ e ∧ its.drop j = scan t2 e p ∧ (∀ x ∈ its.take j, x.err = 0) ∧ Sep w [] [blkR gx 24 #[.int .u16 l, .int .u16 r, .int .u16 s], blkR gr 4 #[.bool false], devR d (t2), rowR 3 (.slice OA os.length OC) (atsOf os), rowR 26 (.slice RA RL RC) (uw rs), blkR gd 28 #[.pointer (some ⟨d.b, 0, none⟩)], blkR gk 30 #[.int .i64 (k.L : Int), .int .i64 (k.R : Int), .int .i64 (k.S : Int)], blkR gb 33 #[.int .i64 0, .int .i64 (u : Int), .slice RA RL RC], blkR gw 34 #[.slice WA (j) WC], rowR 3 (.slice WA (j) WC) (plsOf (its.take j))] wr) (fun _ v19 _ _ _ => e - (intOf v19).toNat)
    case atStart => exact ⟨0, f, none, 0, by omega, rfl, rfl, by omega, by have := HE.out; omega, by rw [List.drop_zero]; exact HITS.out.symm, by simp, HS.out⟩
    case round =>
      clear HS
      obtain ⟨j, p, WA, WC, hj, rfl, rfl, hfp, hpe, hdr, hall, hs⟩ := hrel
      have HS := Lib.hid hs
      have HDR := Lib.hid hdr
      have HAL := Lib.hid hall
      clear hs hdr hall
      obtain ⟨B, hB⟩ : ∃ B, decide (p < e) = B := ⟨_, rfl⟩
      have hBI : decide ((p : Int) < (e : Int)) = B := by rw [← hB]; by_cases h : p < e <;> simp [h]
      have HBB := Lib.hid hB
      go_upto_region 15 with fail
      refine wp_region_st3 (W := w) (S := []) (by kernel_rfl) (by kernel_rfl) (by kernel_rfl) (fun D uu => [blkR gx 24 #[.int .u16 l, .int .u16 r, .int .u16 s], blkR gr 4 #[.bool false], devR d (t2), rowR 3 (.slice OA os.length OC) (atsOf os), rowR 26 (.slice RA RL RC) (uw rs), blkR gd 28 #[.pointer (some ⟨d.b, 0, none⟩)], blkR gk 30 #[.int .i64 (k.L : Int), .int .i64 (k.R : Int), .int .i64 (k.S : Int)], blkR gb 33 #[.int .i64 0, .int .i64 (u : Int), .slice RA RL RC], blkR gw 34 #[.slice WA (j) WC], rowR 3 (.slice WA (j) WC) (plsOf (its.take j))])
        (fun j v => match j with
          | 0 => v = .int .i64 (p : Int)
          | 1 => v = .agg #[.int .i64 (k.L : Int), .int .i64 (k.R : Int), .int .i64 (k.S : Int)]
          | 2 => v = .int .i64 (f : Int)
          | 3 => v = .pointer (some ⟨gb, 1, none⟩)
          | 4 => v = .int .i64 (u : Int)
          | 5 => v = .int .i64 (e : Int)
          | 6 => v = .bool B
          | _ => True) ?start ?step ?fin
      case start => exact fun u => HS.out
      case step =>
        clear HS
        refine ⟨?_, ?_, ?_, ?_, ?_, ?_, ?_, trivial⟩
        · intro D uu w' K hD hF hl hS hK
          simp only [puts, Act.put, List.setIfInBounds_toArray, List.set_cons_succ, List.set_cons_zero, Nat.zero_add, Nat.reduceAdd]
          go_simp
          simp only [yUpon]
          exact hK _ _ rfl hS
        · intro D uu w' K hD hF hl hS hK
          simp only [puts, Act.put, List.setIfInBounds_toArray, List.set_cons_succ, List.set_cons_zero, Nat.zero_add, Nat.reduceAdd]
          have x0 := (hS.blk 6 rfl).cell 0
          have x1 := (hS.blk 6 rfl).cell 1
          have x2 := (hS.blk 6 rfl).cell 2
          simp at x0 x1 x2
          go_simp
          simp only [yUpon]
          exact hK _ _ rfl hS
        · intro D uu w' K hD hF hl hS hK
          have f1 := (hF 1 (by kernel_rfl)).2
          simp only at f1
          simp only [puts, Act.put, List.setIfInBounds_toArray, List.set_cons_succ, List.set_cons_zero, Nat.zero_add, Nat.reduceAdd]
          simp only [f1]
          go_simp
          simp only [yUpon]
          refine (HKF.out _).mono ?_
          rintro e w1 ⟨rfl, hkk⟩
          exact hK _ _ rfl (hS.grow hkk)
        · intro D uu w' K hD hF hl hS hK
          simp only [puts, Act.put, List.setIfInBounds_toArray, List.set_cons_succ, List.set_cons_zero, Nat.zero_add, Nat.reduceAdd]
          go_simp
          simp only [yUpon]
          exact hK _ _ rfl hS
        · intro D uu w' K hD hF hl hS hK
          have f3 := (hF 3 (by kernel_rfl)).2
          simp only at f3
          simp only [puts, Act.put, List.setIfInBounds_toArray, List.set_cons_succ, List.set_cons_zero, Nat.zero_add, Nat.reduceAdd]
          simp only [f3]
          have x1 := (hS.blk 7 rfl).cell 1
          simp at x1
          go_simp
          simp only [yUpon]
          exact hK _ _ rfl hS
        · intro D uu w' K hD hF hl hS hK
          have f2 := (hF 2 (by kernel_rfl)).2
          simp only at f2
          have f4 := (hF 4 (by kernel_rfl)).2
          simp only at f4
          simp only [puts, Act.put, List.setIfInBounds_toArray, List.set_cons_succ, List.set_cons_zero, Nat.zero_add, Nat.reduceAdd]
          simp only [f2, f4]
          go_simp
          simp only [yUpon]
          exact hK _ _ rfl hS
        · intro D uu w' K hD hF hl hS hK
          have f0 := (hF 0 (by kernel_rfl)).2
          simp only at f0
          have f5 := (hF 5 (by kernel_rfl)).2
          simp only at f5
          simp only [puts, Act.put, List.setIfInBounds_toArray, List.set_cons_succ, List.set_cons_zero, Nat.zero_add, Nat.reduceAdd]
          simp only [f0, f5]
          go_simp
          simp only [yUpon]
          exact hK _ _ rfl hS
      case fin =>
        intro D uu wf hall hS
        have v0 := (hall 0 (by simp)).2
        have v1 := (hall 1 (by simp)).2
        have v2 := (hall 2 (by simp)).2
        have v3 := (hall 3 (by simp)).2
        have v4 := (hall 4 (by simp)).2
        have v5 := (hall 5 (by simp)).2
        have v6 := (hall 6 (by simp)).2
        simp only at v0 v1 v2 v3 v4 v5 v6
        have HS := Lib.hid hS
        clear hall hS
        simp only [puts, Act.put, List.setIfInBounds_toArray, List.set_cons_succ, List.set_cons_zero, Nat.zero_add, Nat.reduceAdd]
        simp only [v0, v1, v2, v3, v4, v5, v6]
        clear v0 v1 v2 v3 v4 v5 v6
        cases B with
        | false =>
          have hB2 := HBB.out
          have hpe2 : ¬ p < e := by simpa using hB2
          have hd := HDR.out
          rw [scan_end (by omega)] at hd
          have hjl : its.length ≤ j := by have := congrArg List.length hd; simp at this; omega
          have ht : its.take j = its := List.take_of_length_le hjl
          have hje : j = its.length := by omega
          have he0 : errAt its = 0 := by
            have h1 := HAL.out
            rw [ht] at h1
            rw [← HITS.out] at h1 ⊢
            exact errAt_zero h1
          have HE0 := Lib.hid he0
          have HT := Lib.hid ht
          have HJE := Lib.hid hje
          clear hB hBI hd hjl ht hje he0 hB2
          go_wp2
          go_meet
          refine ⟨by rw [HE0.out], WA, WC, ?_⟩
          have h := HS.out
          rw [HT.out, HJE.out] at h
          exact h
        | true =>
          have hlt : p < e := by simpa using HBB.out
          have hd := HDR.out
          have hkf := HF0.out
          have hee := HE.out
          have hxr := HRG.out.nw p
          have hjlt : j < its.length := by
            rcases Nat.lt_or_ge j its.length with h | h
            · exact h
            · rw [List.drop_eq_nil_of_le h] at hd
              by_cases hg : goodAt t2 e p
              · rw [scan_ok hlt hg] at hd; cases hd
              · rw [scan_bad hlt hg] at hd; cases hd
          by_cases hg : goodAt t2 e p
          · obtain ⟨hn1', hn2', hok⟩ := next_le hlt HRG.out hg
            rw [scan_ok hlt hg] at hd
            have hget : its[j]? = some (itAt t2 p) := by have := congrArg List.head? hd; simpa [List.head?_drop] using this
            have hdr2 : its.drop (j + 1) = scan t2 e (nextAt t2 p) := by have := congrArg List.tail hd; simpa [List.tail_drop] using this
            obtain ⟨m, hm⟩ : ∃ m : Nat, (headOf (t2.nw p)).1 = (m : Int) := ⟨((headOf (t2.nw p)).1).toNat, by have := hok.1; omega⟩
            obtain ⟨b, hb⟩ : ∃ b : Nat, (headOf (t2.nw p)).2.1 = (b : Int) := ⟨((headOf (t2.nw p)).2.1).toNat, by have := hok.2.2.1; omega⟩
            have hhd : headOf (t2.nw p) = ((m : Int), (b : Int), true) := by rw [← hm, ← hb, ← hg.1]
            have hit : itAt t2 p = ⟨p, m, b, 0⟩ := by unfold itAt; rw [hm, hb]
            have hnx : nextAt t2 p = p + (m + 1) := by unfold nextAt; rw [hm]; simp
            have hm1 := hg.2
            rw [hm] at hm1
            rw [hnx] at hdr2 hn1' hn2'
            rw [hit] at hget
            have hof := fun w (hd : Dev w d t2) => of_yes d t2 k 0 u p e _ (m : Int) (b : Int) (.slice RA RL RC) w hd HK.out (by decide) huS (by rw [hkf]; omega) (by rw [hkf]; exact hee) rfl hxr.1 hxr.2 hhd hm1
            simp only [Kfg.cells, rbC] at hof
            have HOF := Lib.hid hof
            have HGET := Lib.hid hget
            have HDR2 := Lib.hid hdr2
            have hw1 : IntKind.i64.wrap ((m : Int) + 1) = (m : Int) + 1 := IntWalk.i64_in _ (by omega)
            have hw2' : IntKind.i64.wrap ((p : Int) + ((m : Int) + 1)) = ((p + (m + 1) : Nat) : Int) := by rw [IntWalk.i64_in _ (by omega)]; omega
            obtain ⟨p2, hp2⟩ : ∃ p2, p + (m + 1) = p2 := ⟨_, rfl⟩
            rw [hp2] at hw2' hn1' hn2' HDR2
            clear hof hget hdr2 hd hg hok hm hb hhd hit hnx hkf hee hxr hBI hB hp2
            have c0 := (HS.out.blk 6 rfl).cell 0
            simp at c0
            have c1 := (HS.out.blk 6 rfl).cell 1
            simp at c1
            have c2 := (HS.out.blk 6 rfl).cell 2
            simp at c2
            have b0 := (HS.out.blk 7 rfl).cell 0
            simp at b0
            have b1 := (HS.out.blk 7 rfl).cell 1
            simp at b1
            have b2 := (HS.out.blk 7 rfl).cell 2
            simp at b2
            have d0 := (HS.out.blk 5 rfl).cell 0
            simp at d0
            go_wp2_with fail
            refine (HOF.out _ (HS.out.dev 2 rfl)).mono ?_
            rintro e1 wa ⟨rfl, hkk⟩
            replace HS := Lib.hid (HS.out.grow hkk)
            clear hkk c0 c1 c2 b0 b1 b2 d0 HOF
            unfold ofR
            go_upto_region 17 with fail
            replace HS := Lib.hid (HS.out.new 44 #[.int .i64 (m : Int), .int .i64 (b : Int), .int .i64 (p : Int)])
            generalize wa.alloc _ = wb at *
            generalize wa.heap.size = go at *
            have g0 := (HS.out.blk 8 rfl).cell 0
            simp at g0
            go_wp2_with (at_builtin; refine of_stop ?_)
            unfold Stop
            replace HS := Lib.hid (HS.out.new 3 #[.int .i64 (p : Int)])
            generalize wb.alloc _ = wd at *
            generalize wb.heap.size = gn at *
            have hc := (HS.out.blk 11 rfl).cell
            have hlj : (plsOf (its.take j)).length = j := by rw [plsOf, List.length_map, List.length_take]; omega
            clear g0
            refine wpList_append HS.out 9 rfl rfl _ _ 34 rfl rfl rfl rfl (by decide) rfl ⟨gn, 0, none⟩ 1 1 [.int .i64 (p : Int)] rfl rfl (by decide) (fun i v hv => by rw [addr0, hc]; simpa using hv) one_int (by rw [hlj]; omega) ?_
            intro v' we hS
            obtain ⟨A, c, hv'⟩ := rowR_val (hS.row 9 rfl)
            rw [List.length_append, hlj] at hv'
            simp only [List.length_cons, List.length_nil, Nat.zero_add] at hv'
            subst hv'
            replace HS := Lib.hid hS
            clear hS hc hlj
            have g0 := (HS.out.blk 8 rfl).cell 0
            simp at g0
            have z0 := (HS.out.blk 8 rfl).frozen 0
            have hs2 := HS.out.put (i := 8) rfl 0 (.slice A (j + 1) c)
            have HS2 := Lib.hid hs2
            clear hs2
            go_upto_region 18 with fail
            replace HS := HS2
            generalize we.setCell _ _ = wg at *
            clear HS2 g0 z0
            have o0 := (HS.out.blk 10 rfl).cell 0
            simp at o0
            go_wp2
            have hpl2 : plsOf (its.take (j + 1)) = plsOf (its.take j) ++ [Value.int .i64 (p : Int)] := by rw [List.take_add_one, HGET.out]; simp [plsOf]
            have h := HS.out.take 10
            have h2 : Sep w [] [blkR gx 24 #[.int .u16 l, .int .u16 r, .int .u16 s], blkR gr 4 #[.bool false], devR d (t2), rowR 3 (.slice OA os.length OC) (atsOf os), rowR 26 (.slice RA RL RC) (uw rs), blkR gd 28 #[.pointer (some ⟨d.b, 0, none⟩)], blkR gk 30 #[.int .i64 (k.L : Int), .int .i64 (k.R : Int), .int .i64 (k.S : Int)], blkR gb 33 #[.int .i64 0, .int .i64 (u : Int), .slice RA RL RC], blkR gw 34 #[.slice A (j + 1) c], rowR 3 (.slice A (j + 1) c) (plsOf (its.take (j + 1)))] wg := by rw [hpl2]; exact h
            refine ⟨⟨j + 1, p2, A, c, by omega, by first | rfl | go_num | simp, rfl, by omega, by omega, HDR2.out, ?_, h2⟩, by simp [intOf]; omega⟩
            intro x hx
            rw [List.take_add_one, HGET.out] at hx
            rcases List.mem_append.1 hx with hx | hx
            · exact HAL.out x hx
            · simp at hx; subst hx; rfl
          · rw [scan_bad hlt hg] at hd
            have hget : its[j]? = some ⟨p, 0, 0, 8⟩ := by have := congrArg List.head? hd; simpa [List.head?_drop] using this
            have hlen : its.length = j + 1 := by have := congrArg List.length hd; simp at this; omega
            have he8 : errAt its = 8 := by
              rw [← HITS.out] at hget ⊢
              exact errAt_some hget (show (8 : Int) ≠ 0 by decide)
            have hbad : (headOf (t2.nw p)).2.2 = false ∨ (e : Int) - (p : Int) < (headOf (t2.nw p)).1 + 1 := by
              unfold goodAt at hg
              cases h : (headOf (t2.nw p)).2.2 with
              | false => exact .inl rfl
              | true => exact .inr (by rw [h] at hg; simp only [true_and] at hg; omega)
            have hof := fun w (hd : Dev w d t2) => of_bad d t2 k 0 u p e _ _ _ _ (.slice RA RL RC) w hd HK.out (by decide) huS (by rw [hkf]; omega) (by rw [hkf]; exact hee) rfl hxr.1 hxr.2 rfl hbad
            simp only [Kfg.cells, rbC] at hof
            have HOF := Lib.hid hof
            have HGET := Lib.hid hget
            have HE8 := Lib.hid he8
            have HLEN := Lib.hid hlen
            clear hof hget hd hg hlen he8 hbad hkf hee hxr hBI hB
            have c0 := (HS.out.blk 6 rfl).cell 0
            simp at c0
            have c1 := (HS.out.blk 6 rfl).cell 1
            simp at c1
            have c2 := (HS.out.blk 6 rfl).cell 2
            simp at c2
            have b0 := (HS.out.blk 7 rfl).cell 0
            simp at b0
            have b1 := (HS.out.blk 7 rfl).cell 1
            simp at b1
            have b2 := (HS.out.blk 7 rfl).cell 2
            simp at b2
            have d0 := (HS.out.blk 5 rfl).cell 0
            simp at d0
            go_wp2_with fail
            refine (HOF.out _ (HS.out.dev 2 rfl)).mono ?_
            rintro e1 wa ⟨rfl, hkk⟩
            replace HS := Lib.hid (HS.out.grow hkk)
            clear hkk c0 c1 c2 b0 b1 b2 d0 HOF
            unfold ofR
            go_upto_region 17 with fail
            replace HS := Lib.hid (HS.out.new 44 #[.int .i64 0, .int .i64 0, .int .i64 0])
            generalize wa.alloc _ = wb at *
            generalize wa.heap.size = go at *
            have g0 := (HS.out.blk 8 rfl).cell 0
            simp at g0
            go_wp2_with (at_builtin; refine of_stop ?_)
            unfold Stop
            replace HS := Lib.hid (HS.out.new 3 #[.int .i64 (p : Int)])
            generalize wb.alloc _ = wd at *
            generalize wb.heap.size = gn at *
            have hc := (HS.out.blk 11 rfl).cell
            have hlj : (plsOf (its.take j)).length = j := by rw [plsOf, List.length_map, List.length_take]; omega
            clear g0
            refine wpList_append HS.out 9 rfl rfl _ _ 34 rfl rfl rfl rfl (by decide) rfl ⟨gn, 0, none⟩ 1 1 [.int .i64 (p : Int)] rfl rfl (by decide) (fun i v hv => by rw [addr0, hc]; simpa using hv) one_int (by rw [hlj]; omega) ?_
            intro v' we hS
            obtain ⟨A, c, hv'⟩ := rowR_val (hS.row 9 rfl)
            rw [List.length_append, hlj] at hv'
            simp only [List.length_cons, List.length_nil, Nat.zero_add] at hv'
            subst hv'
            replace HS := Lib.hid hS
            clear hS hc hlj
            have g0 := (HS.out.blk 8 rfl).cell 0
            simp at g0
            have z0 := (HS.out.blk 8 rfl).frozen 0
            have hs2 := HS.out.put (i := 8) rfl 0 (.slice A (j + 1) c)
            have HS2 := Lib.hid hs2
            clear hs2
            go_upto_region 18 with fail
            replace HS := HS2
            generalize we.setCell _ _ = wg at *
            clear HS2 g0 z0
            go_wp2
            go_meet
            have hpl2 : plsOf (its.take (j + 1)) = plsOf (its.take j) ++ [Value.int .i64 (p : Int)] := by rw [List.take_add_one, HGET.out]; simp [plsOf]
            have h := HS.out.take 10
            have h2 : Sep w [] [blkR gx 24 #[.int .u16 l, .int .u16 r, .int .u16 s], blkR gr 4 #[.bool false], devR d (t2), rowR 3 (.slice OA os.length OC) (atsOf os), rowR 26 (.slice RA RL RC) (uw rs), blkR gd 28 #[.pointer (some ⟨d.b, 0, none⟩)], blkR gk 30 #[.int .i64 (k.L : Int), .int .i64 (k.R : Int), .int .i64 (k.S : Int)], blkR gb 33 #[.int .i64 0, .int .i64 (u : Int), .slice RA RL RC], blkR gw 34 #[.slice A (j + 1) c], rowR 3 (.slice A (j + 1) c) (plsOf (its.take (j + 1)))] wg := by rw [hpl2]; exact h
            rw [← HLEN.out, List.take_length] at h2
            exact ⟨by rw [HE8.out], A, c, h2⟩
  obtain ⟨rfl, WA, WC, hs⟩ := hcut
  refine hK _ _ ?_
  clear hK HS
  have HS := Lib.hid hs
  clear hs
  refine wpFr_seq (wpFr_of_wp ?_)
  go_wp2
  replace HS := Lib.hid (HS.out.new 3 #[.int .i64 ((0 : Nat) : Int)])
  generalize wc.alloc _ = w8 at *
  generalize wc.heap.size = gn at *
  have hsq := fun gb gk gd => objs_seq d t2 k 0 u e f gb gk gd RA RL RC HK.out (by decide) huS HF0.out HE.out HRG.out
  rw [HITS.out] at hsq
  have HSQ := Lib.hid hsq
  clear hsq
  refine wpFr_seq (wpFr_seq (wpFr_of_wp ?_))
  have c0 := (HS.out.blk 6 rfl).cell 0
  simp at c0
  have c1 := (HS.out.blk 6 rfl).cell 1
  simp at c1
  have c2 := (HS.out.blk 6 rfl).cell 2
  simp at c2
  have b0 := (HS.out.blk 7 rfl).cell 0
  simp at b0
  have b1 := (HS.out.blk 7 rfl).cell 1
  simp at b1
  have b2 := (HS.out.blk 7 rfl).cell 2
  simp at b2
  have d0 := (HS.out.blk 5 rfl).cell 0
  simp at d0
  go_wp2_with fail
  refine (objects_any _ _ _ _ _ _ _ _ ⟨_, rfl⟩ ⟨_, _, _, rfl, rfl, rfl⟩ ⟨_, _, _, _, _, rfl, rfl, rfl⟩).mono ?_
  rintro e1 w9 ⟨rfl, rfl⟩
  replace HS := Lib.hid (((HS.out.new 28 #[.pointer (some ⟨d.b, 0, none⟩)]).new 30 #[.int .i64 (k.L : Int), .int .i64 (k.R : Int), .int .i64 (k.S : Int)]).new 33 #[.int .i64 0, .int .i64 (u : Int), .slice RA RL RC])
  simp only [World.size_alloc] at HS
  generalize ((w8.alloc _).alloc _).alloc _ = w9 at *
  generalize w8.heap.size = g1 at *
  generalize g1 + 1 = g2 at *
  generalize g2 + 1 = g3 at *
  clear c0 c1 c2 b0 b1 b2 d0
  go_wp2
  replace HS : Hid (Sep w [] [blkR gx 24 #[.int .u16 l, .int .u16 r, .int .u16 s], blkR gr 4 #[.bool false], devR d (t2), rowR 3 (.slice OA os.length OC) (atsOf os), rowR 26 (.slice RA RL RC) (uw rs), blkR gd 28 #[.pointer (some ⟨d.b, 0, none⟩)], blkR gk 30 #[.int .i64 (k.L : Int), .int .i64 (k.R : Int), .int .i64 (k.S : Int)], blkR gb 33 #[.int .i64 0, .int .i64 (u : Int), .slice RA RL RC], blkR gw 34 #[.slice WA (its.length) WC], rowR 3 (.slice WA (its.length) WC) (plsOf (its)), blkR gn 3 #[.int .i64 (((0) : Nat) : Int)], blkR g1 28 #[.pointer (some ⟨d.b, 0, none⟩)], blkR g2 30 #[.int .i64 (k.L : Int), .int .i64 (k.R : Int), .int .i64 (k.S : Int)], blkR g3 33 #[.int .i64 0, .int .i64 (u : Int), .slice RA RL RC]] w9) := HS
  refine wpFr_rangeB HS.out rfl (enters_of Try.func58 (by kernel_rfl) rfl) (HSQ.out g3 g2 g1) (fun _ => rfl)
    (fun m L => L = [blkR gx 24 #[.int .u16 l, .int .u16 r, .int .u16 s], blkR gr 4 #[.bool false], devR d (t2), rowR 3 (.slice OA os.length OC) (atsOf os), rowR 26 (.slice RA RL RC) (uw rs), blkR gd 28 #[.pointer (some ⟨d.b, 0, none⟩)], blkR gk 30 #[.int .i64 (k.L : Int), .int .i64 (k.R : Int), .int .i64 (k.S : Int)], blkR gb 33 #[.int .i64 0, .int .i64 (u : Int), .slice RA RL RC], blkR gw 34 #[.slice WA (its.length) WC], rowR 3 (.slice WA (its.length) WC) (plsOf (its)), blkR gn 3 #[.int .i64 (((m) : Nat) : Int)], blkR g1 28 #[.pointer (some ⟨d.b, 0, none⟩)], blkR g2 30 #[.int .i64 (k.L : Int), .int .i64 (k.R : Int), .int .i64 (k.S : Int)], blkR g3 33 #[.int .i64 0, .int .i64 (u : Int), .slice RA RL RC]] ∧ m ≤ its.length) (fun L => False) (fun L => L = [blkR gx 24 #[.int .u16 l, .int .u16 r, .int .u16 s], blkR gr 4 #[.bool false], devR d (t2), rowR 3 (.slice OA os.length OC) (atsOf os), rowR 26 (.slice RA RL RC) (uw rs), blkR gd 28 #[.pointer (some ⟨d.b, 0, none⟩)], blkR gk 30 #[.int .i64 (k.L : Int), .int .i64 (k.R : Int), .int .i64 (k.S : Int)], blkR gb 33 #[.int .i64 0, .int .i64 (u : Int), .slice RA RL RC], blkR gw 34 #[.slice WA (its.length) WC], rowR 3 (.slice WA (its.length) WC) (plsOf (its)), blkR gn 3 #[.int .i64 (((its.length) : Nat) : Int)], blkR g1 28 #[.pointer (some ⟨d.b, 0, none⟩)], blkR g2 30 #[.int .i64 (k.L : Int), .int .i64 (k.R : Int), .int .i64 (k.S : Int)], blkR g3 33 #[.int .i64 0, .int .i64 (u : Int), .slice RA RL RC]])
    ⟨rfl, by omega⟩ (fun L h => h.1) (fun L h => h.elim) ?_ ?_ ?_
  · rintro m L X W' hm ⟨rfl, _⟩ hs
    exact ⟨hs.blk 13 rfl, hs.blk 12 rfl, hs.blk 11 rfl, hs.dev 2 rfl⟩
  · rintro l9 m L X r1 r2 W' hm ⟨rfl, _⟩ hs
    obtain ⟨x, hx⟩ : ∃ x, its[m]? = some x := ⟨_, List.getElem?_eq_getElem hm⟩
    have hgd : its.getD m It0 = x := by rw [List.getD_eq_getElem?_getD, hx]; rfl
    rw [hgd]
    have hpx : (plsOf its)[m]? = some (.int .i64 (x.p : Int)) := by simp [plsOf, hx]
    have hof := fun rv => of_item (d := d) (rv := rv) HK.out huS HF0.out HE.out HRG.out (by rw [HITS.out]; exact hx)
    have hpt : x.p < e := (scan_item (by rw [HITS.out]; exact hx)).2.1
    obtain ⟨xp, xm, xb, xe⟩ := x
    obtain ⟨q1, q2v, q3, hof, hq1, hq2⟩ := hof (.slice RA RL RC)
    simp only [Kfg.cells, rbC] at hof hq1 hq2 hpx hpt
    have hrow : ∀ (wz : World) (hrow : wz.ownsRow 0 3 1 (.slice WA its.length WC) (plsOf its).length (plsOf its)), ∃ g, WA = some ⟨g, 0, none⟩ ∧ wz.cell? ⟨g, m, none⟩ = some (.int .i64 (xp : Int)) := fun wz hrow => by
      have hml := (List.getElem?_eq_some_iff.1 hpx).1
      rcases hrow.2 with ⟨hv, h0⟩ | ⟨g, cap, cur, hv, _⟩
      · omega
      · injection hv with e1 e2 e3
        refine ⟨g, e1, ?_⟩
        subst e1
        have := hrow.cells (g := g) rfl m _ hpx
        rwa [addr0] at this
    have HRC := Lib.hid hrow
    have HOF := Lib.hid hof
    have HQ1 := Lib.hid hq1
    have HQ2 := Lib.hid hq2
    have hmI : (m : Int) < (its.length : Int) := by omega
    clear hgd HS hpx hrow hof hq1 hq2 hx HSQ
    simp only [itV, obV]
    gi_wp2
    refine ⟨[blkR gx 24 #[.int .u16 l, .int .u16 r, .int .u16 s], blkR gr 4 #[.bool false], devR d (t2), rowR 3 (.slice OA os.length OC) (atsOf os), rowR 26 (.slice RA RL RC) (uw rs), blkR gd 28 #[.pointer (some ⟨d.b, 0, none⟩)], blkR gk 30 #[.int .i64 (k.L : Int), .int .i64 (k.R : Int), .int .i64 (k.S : Int)], blkR gb 33 #[.int .i64 0, .int .i64 (u : Int), .slice RA RL RC], blkR gw 34 #[.slice WA (its.length) WC], rowR 3 (.slice WA (its.length) WC) (plsOf (its)), blkR gn 3 #[.int .i64 (((m) : Nat) : Int)], blkR g1 28 #[.pointer (some ⟨d.b, 0, none⟩)], blkR g2 30 #[.int .i64 (k.L : Int), .int .i64 (k.R : Int), .int .i64 (k.S : Int)], blkR g3 33 #[.int .i64 0, .int .i64 (u : Int), .slice RA RL RC]] ++ [blkR W'.heap.size 44 #[.int .i64 xm, .int .i64 xb, .int .i64 (xp : Int)]], Sep.bring _ _ (hs.new 44 #[.int .i64 xm, .int .i64 xb, .int .i64 (xp : Int)]), ?_⟩
    clear hs
    generalize W'.heap.size = go at *
    rintro q2 W2 hs
    have HS := Lib.hid hs
    clear hs
    obtain ⟨g, hWA, hcell⟩ := HRC.out W2 (HS.out.row 9 rfl)
    subst hWA
    have hge : decide ((m : Int) ≥ (its.length : Int)) = false := by rw [decide_eq_false_iff_not]; omega
    have hge2 : decide (its.length ≤ m) = false := by rw [decide_eq_false_iff_not]; omega
    gi_upto_region 24 with fail
    refine wpIn_region_st3 (W := w) (S := []) (by kernel_rfl) (by kernel_rfl) (by kernel_rfl) (by kernel_rfl) (fun D uu => ([blkR gx 24 #[.int .u16 l, .int .u16 r, .int .u16 s], blkR gr 4 #[.bool false], devR d (t2), rowR 3 (.slice OA os.length OC) (atsOf os), rowR 26 (.slice RA RL RC) (uw rs), blkR gd 28 #[.pointer (some ⟨d.b, 0, none⟩)], blkR gk 30 #[.int .i64 (k.L : Int), .int .i64 (k.R : Int), .int .i64 (k.S : Int)], blkR gb 33 #[.int .i64 0, .int .i64 (u : Int), .slice RA RL RC], blkR gw 34 #[.slice (some ⟨g, 0, none⟩) (its.length) WC], rowR 3 (.slice (some ⟨g, 0, none⟩) (its.length) WC) (plsOf (its)), blkR gn 3 #[.int .i64 (((m) : Nat) : Int)], blkR g1 28 #[.pointer (some ⟨d.b, 0, none⟩)], blkR g2 30 #[.int .i64 (k.L : Int), .int .i64 (k.R : Int), .int .i64 (k.S : Int)], blkR g3 33 #[.int .i64 0, .int .i64 (u : Int), .slice RA RL RC]] ++ [blkR go 44 #[.int .i64 xm, .int .i64 xb, .int .i64 (xp : Int)]] ++ r1 :: q2 :: X))
      (fun j v => match j with
        | 0 => v = .int .i64 (m : Int)
        | 1 => v = .slice (some ⟨g, 0, none⟩) its.length WC
        | 2 => v = .int .i64 (its.length : Int)
        | 3 => v = .bool false
        | 4 => v = .bool false
        | 5 => v = .pointer (some ⟨go, 2, none⟩)
        | 6 => v = .int .i64 (xp : Int)
        | 7 => v = .slice (some ⟨g, 0, none⟩) its.length WC
        | 8 => v = .int .i64 (m : Int)
        | 9 => v = .pointer (some ⟨g, m, none⟩)
        | 10 => v = .int .i64 (xp : Int)
        | 11 => v = .bool false
        | 12 => v = .bool false
        | _ => True) ?start ?step ?fin
    case start => exact fun u => HS.out
    case step =>
      clear HS
      refine ⟨?_, ?_, ?_, ?_, ?_, ?_, ?_, ?_, ?_, ?_, ?_, ?_, ?_, trivial⟩
      · intro D uu w' K hD hF hl hS hK
        simp only [puts, Act.put, List.setIfInBounds_toArray, List.set_cons_succ, List.set_cons_zero, Nat.zero_add, Nat.reduceAdd]
        have x0 := (hS.blk 10 rfl).cell 0
        simp at x0
        go_simp
        simp only [yUpon]
        exact hK _ _ rfl hS
      · intro D uu w' K hD hF hl hS hK
        simp only [puts, Act.put, List.setIfInBounds_toArray, List.set_cons_succ, List.set_cons_zero, Nat.zero_add, Nat.reduceAdd]
        have x0 := (hS.blk 8 rfl).cell 0
        simp at x0
        go_simp
        simp only [yUpon]
        exact hK _ _ rfl hS
      · intro D uu w' K hD hF hl hS hK
        have f1 := (hF 1 (by kernel_rfl)).2
        simp only at f1
        simp only [puts, Act.put, List.setIfInBounds_toArray, List.set_cons_succ, List.set_cons_zero, Nat.zero_add, Nat.reduceAdd]
        simp only [f1]
        go_simp
        simp only [yUpon]
        exact hK _ _ rfl hS
      · intro D uu w' K hD hF hl hS hK
        have f0 := (hF 0 (by kernel_rfl)).2
        simp only at f0
        have f2 := (hF 2 (by kernel_rfl)).2
        simp only at f2
        simp only [puts, Act.put, List.setIfInBounds_toArray, List.set_cons_succ, List.set_cons_zero, Nat.zero_add, Nat.reduceAdd]
        simp only [f0, f2]
        go_simp
        simp only [yUpon]
        exact hK _ _ rfl hS
      · intro D uu w' K hD hF hl hS hK
        have f3 := (hF 3 (by kernel_rfl)).2
        simp only at f3
        simp only [puts, Act.put, List.setIfInBounds_toArray, List.set_cons_succ, List.set_cons_zero, Nat.zero_add, Nat.reduceAdd]
        simp only [f3]
        go_simp
        simp only [yUpon]
        exact hK _ _ rfl hS
      · intro D uu w' K hD hF hl hS hK
        have f4 := (hF 4 (by kernel_rfl)).2
        simp only at f4
        simp only [puts, Act.put, List.setIfInBounds_toArray, List.set_cons_succ, List.set_cons_zero, Nat.zero_add, Nat.reduceAdd]
        simp only [f4]
        go_simp
        simp only [yUpon]
        exact hK _ _ rfl hS
      · intro D uu w' K hD hF hl hS hK
        have f4 := (hF 4 (by kernel_rfl)).2
        simp only at f4
        have f5 := (hF 5 (by kernel_rfl)).2
        simp only at f5
        simp only [puts, Act.put, List.setIfInBounds_toArray, List.set_cons_succ, List.set_cons_zero, Nat.zero_add, Nat.reduceAdd]
        simp only [f4, f5]
        have x2 := (hS.blk 14 rfl).cell 2
        simp at x2
        go_simp
        simp only [yUpon]
        exact hK _ _ rfl hS
      · intro D uu w' K hD hF hl hS hK
        have f4 := (hF 4 (by kernel_rfl)).2
        simp only at f4
        simp only [puts, Act.put, List.setIfInBounds_toArray, List.set_cons_succ, List.set_cons_zero, Nat.zero_add, Nat.reduceAdd]
        simp only [f4]
        have x0 := (hS.blk 8 rfl).cell 0
        simp at x0
        go_simp
        simp only [yUpon]
        exact hK _ _ rfl hS
      · intro D uu w' K hD hF hl hS hK
        have f4 := (hF 4 (by kernel_rfl)).2
        simp only at f4
        simp only [puts, Act.put, List.setIfInBounds_toArray, List.set_cons_succ, List.set_cons_zero, Nat.zero_add, Nat.reduceAdd]
        simp only [f4]
        have x0 := (hS.blk 10 rfl).cell 0
        simp at x0
        go_simp
        simp only [yUpon]
        exact hK _ _ rfl hS
      · intro D uu w' K hD hF hl hS hK
        have f4 := (hF 4 (by kernel_rfl)).2
        simp only at f4
        have f7 := (hF 7 (by kernel_rfl)).2
        simp only at f7
        have f8 := (hF 8 (by kernel_rfl)).2
        simp only at f8
        simp only [puts, Act.put, List.setIfInBounds_toArray, List.set_cons_succ, List.set_cons_zero, Nat.zero_add, Nat.reduceAdd]
        simp only [f4, f7, f8]
        go_simp
        simp only [yUpon]
        exact hK _ _ rfl hS
      · intro D uu w' K hD hF hl hS hK
        have f4 := (hF 4 (by kernel_rfl)).2
        simp only at f4
        have f9 := (hF 9 (by kernel_rfl)).2
        simp only at f9
        simp only [puts, Act.put, List.setIfInBounds_toArray, List.set_cons_succ, List.set_cons_zero, Nat.zero_add, Nat.reduceAdd]
        simp only [f4, f9]
        obtain ⟨gq, hgq, xc⟩ := HRC.out _ (hS.row 9 rfl)
        cases hgq
        go_simp
        simp only [yUpon]
        exact hK _ _ rfl hS
      · intro D uu w' K hD hF hl hS hK
        have f4 := (hF 4 (by kernel_rfl)).2
        simp only at f4
        have f6 := (hF 6 (by kernel_rfl)).2
        simp only at f6
        have f10 := (hF 10 (by kernel_rfl)).2
        simp only at f10
        simp only [puts, Act.put, List.setIfInBounds_toArray, List.set_cons_succ, List.set_cons_zero, Nat.zero_add, Nat.reduceAdd]
        simp only [f4, f6, f10]
        go_simp
        simp only [yUpon]
        exact hK _ _ rfl hS
      · intro D uu w' K hD hF hl hS hK
        have f4 := (hF 4 (by kernel_rfl)).2
        simp only at f4
        have f11 := (hF 11 (by kernel_rfl)).2
        simp only at f11
        simp only [puts, Act.put, List.setIfInBounds_toArray, List.set_cons_succ, List.set_cons_zero, Nat.zero_add, Nat.reduceAdd]
        simp only [f4, f11]
        go_simp
        simp only [yUpon]
        exact hK _ _ rfl hS
    case fin =>
      intro D uu wf hall hS
      have v12 := (hall 12 (by simp)).2
      simp only at v12
      have HS := Lib.hid hS
      clear hall hS
      simp only [puts, Act.put, List.setIfInBounds_toArray, List.set_cons_succ, List.set_cons_zero, Nat.zero_add, Nat.reduceAdd]
      simp only [v12]
      clear v12 hge hge2
      gi_upto_region 26 with fail
      replace HS : Hid (Sep w [] ([blkR gx 24 #[.int .u16 l, .int .u16 r, .int .u16 s], blkR gr 4 #[.bool false], devR d (t2), rowR 3 (.slice OA os.length OC) (atsOf os), rowR 26 (.slice RA RL RC) (uw rs), blkR gd 28 #[.pointer (some ⟨d.b, 0, none⟩)], blkR gk 30 #[.int .i64 (k.L : Int), .int .i64 (k.R : Int), .int .i64 (k.S : Int)], blkR gb 33 #[.int .i64 0, .int .i64 (u : Int), .slice RA RL RC], blkR gw 34 #[.slice (some ⟨g, 0, none⟩) (its.length) WC], rowR 3 (.slice (some ⟨g, 0, none⟩) (its.length) WC) (plsOf (its)), blkR gn 3 #[.int .i64 (((m) : Nat) : Int)], blkR g1 28 #[.pointer (some ⟨d.b, 0, none⟩)], blkR g2 30 #[.int .i64 (k.L : Int), .int .i64 (k.R : Int), .int .i64 (k.S : Int)], blkR g3 33 #[.int .i64 0, .int .i64 (u : Int), .slice RA RL RC]] ++ [blkR go 44 #[.int .i64 xm, .int .i64 xb, .int .i64 (xp : Int)]] ++ [noR] ++ r1 :: q2 :: X) wf) := Lib.hid (Sep.bring _ _ (HS.out.add (Keep.refl _ _ _) (r := noR) trivial (by simp [noR])))
      refine wpIn_region_st3 (W := w) (S := []) (by kernel_rfl) (by kernel_rfl) (by kernel_rfl) (by kernel_rfl) (fun D uu => ([blkR gx 24 #[.int .u16 l, .int .u16 r, .int .u16 s], blkR gr 4 #[.bool false], devR d (t2), rowR 3 (.slice OA os.length OC) (atsOf os), rowR 26 (.slice RA RL RC) (uw rs), blkR gd 28 #[.pointer (some ⟨d.b, 0, none⟩)], blkR gk 30 #[.int .i64 (k.L : Int), .int .i64 (k.R : Int), .int .i64 (k.S : Int)], blkR gb 33 #[.int .i64 0, .int .i64 (u : Int), .slice RA RL RC], blkR gw 34 #[.slice (some ⟨g, 0, none⟩) (its.length) WC], rowR 3 (.slice (some ⟨g, 0, none⟩) (its.length) WC) (plsOf (its)), blkR gn 3 #[.int .i64 (((m) : Nat) : Int)], blkR g1 28 #[.pointer (some ⟨d.b, 0, none⟩)], blkR g2 30 #[.int .i64 (k.L : Int), .int .i64 (k.R : Int), .int .i64 (k.S : Int)], blkR g3 33 #[.int .i64 0, .int .i64 (u : Int), .slice RA RL RC]] ++ [blkR go 44 #[.int .i64 xm, .int .i64 xb, .int .i64 (xp : Int)]] ++ [bif D 11 then ptrR (uu 11) 44 (bif D 12 then #[.int .i64 q1, .int .i64 q2v, .int .i64 q3] else #[.int .i64 0, .int .i64 0, .int .i64 0]) else noR] ++ r1 :: q2 :: X))
        (fun j v => match j with
          | 0 => v = .pointer (some ⟨d.b, 0, none⟩)
          | 1 => v = .agg #[.int .i64 (k.L : Int), .int .i64 (k.R : Int), .int .i64 (k.S : Int)]
          | 2 => v = .agg #[.int .i64 0, .int .i64 (u : Int), .slice RA RL RC]
          | 3 => v = .slice (some ⟨g, 0, none⟩) its.length WC
          | 4 => v = .int .i64 (m : Int)
          | 5 => v = .pointer (some ⟨g, m, none⟩)
          | 6 => v = .int .i64 (xp : Int)
          | 7 => v = ofR q1 q2v q3 xe
          | 8 => v = ofR q1 q2v q3 xe
          | 9 => v = .agg #[.int .i64 q1, .int .i64 q2v, .int .i64 q3]
          | 10 => v = .int .i64 xe
          | 11 => ∃ h, v = .pointer (some ⟨h, 0, none⟩)
          | 13 => v = .int .i64 xe
          | _ => True) ?start ?step ?fin
      case start => exact fun u => HS.out
      case step =>
        clear HS
        refine ⟨?_, ?_, ?_, ?_, ?_, ?_, ?_, ?_, ?_, ?_, ?_, ?_, ?_, ?_, trivial⟩
        · intro D uu w' K hD hF hl hS hK
          simp only [puts, Act.put, List.setIfInBounds_toArray, List.set_cons_succ, List.set_cons_zero, Nat.zero_add, Nat.reduceAdd]
          have x0 := (hS.blk 5 rfl).cell 0
          simp at x0
          go_simp
          simp only [yUpon]
          exact hK _ _ rfl hS
        · intro D uu w' K hD hF hl hS hK
          simp only [puts, Act.put, List.setIfInBounds_toArray, List.set_cons_succ, List.set_cons_zero, Nat.zero_add, Nat.reduceAdd]
          have x0 := (hS.blk 6 rfl).cell 0
          have x1 := (hS.blk 6 rfl).cell 1
          have x2 := (hS.blk 6 rfl).cell 2
          simp at x0 x1 x2
          go_simp
          simp only [yUpon]
          exact hK _ _ rfl hS
        · intro D uu w' K hD hF hl hS hK
          simp only [puts, Act.put, List.setIfInBounds_toArray, List.set_cons_succ, List.set_cons_zero, Nat.zero_add, Nat.reduceAdd]
          have x0 := (hS.blk 7 rfl).cell 0
          have x1 := (hS.blk 7 rfl).cell 1
          have x2 := (hS.blk 7 rfl).cell 2
          simp at x0 x1 x2
          go_simp
          simp only [yUpon]
          exact hK _ _ rfl hS
        · intro D uu w' K hD hF hl hS hK
          simp only [puts, Act.put, List.setIfInBounds_toArray, List.set_cons_succ, List.set_cons_zero, Nat.zero_add, Nat.reduceAdd]
          have x0 := (hS.blk 8 rfl).cell 0
          simp at x0
          go_simp
          simp only [yUpon]
          exact hK _ _ rfl hS
        · intro D uu w' K hD hF hl hS hK
          simp only [puts, Act.put, List.setIfInBounds_toArray, List.set_cons_succ, List.set_cons_zero, Nat.zero_add, Nat.reduceAdd]
          have x0 := (hS.blk 10 rfl).cell 0
          simp at x0
          go_simp
          simp only [yUpon]
          exact hK _ _ rfl hS
        · intro D uu w' K hD hF hl hS hK
          have f3 := (hF 3 (by kernel_rfl)).2
          simp only at f3
          have f4 := (hF 4 (by kernel_rfl)).2
          simp only at f4
          simp only [puts, Act.put, List.setIfInBounds_toArray, List.set_cons_succ, List.set_cons_zero, Nat.zero_add, Nat.reduceAdd]
          simp only [f3, f4]
          go_simp
          simp only [yUpon]
          exact hK _ _ rfl hS
        · intro D uu w' K hD hF hl hS hK
          have f5 := (hF 5 (by kernel_rfl)).2
          simp only at f5
          simp only [puts, Act.put, List.setIfInBounds_toArray, List.set_cons_succ, List.set_cons_zero, Nat.zero_add, Nat.reduceAdd]
          simp only [f5]
          obtain ⟨gq, hgq, xc⟩ := HRC.out _ (hS.row 9 rfl)
          cases hgq
          go_simp
          simp only [yUpon]
          exact hK _ _ rfl hS
        · intro D uu w' K hD hF hl hS hK
          have f0 := (hF 0 (by kernel_rfl)).2
          simp only at f0
          have f1 := (hF 1 (by kernel_rfl)).2
          simp only at f1
          have f2 := (hF 2 (by kernel_rfl)).2
          simp only at f2
          have f6 := (hF 6 (by kernel_rfl)).2
          simp only at f6
          simp only [puts, Act.put, List.setIfInBounds_toArray, List.set_cons_succ, List.set_cons_zero, Nat.zero_add, Nat.reduceAdd]
          simp only [f0, f1, f2, f6]
          go_simp
          simp only [yUpon]
          refine (HOF.out _ (hS.dev 2 rfl)).mono ?_
          rintro e w1 ⟨rfl, hkk⟩
          exact hK _ _ rfl (hS.grow hkk)
        · intro D uu w' K hD hF hl hS hK
          have f7 := (hF 7 (by kernel_rfl)).2
          simp only at f7
          simp only [puts, Act.put, List.setIfInBounds_toArray, List.set_cons_succ, List.set_cons_zero, Nat.zero_add, Nat.reduceAdd]
          simp only [f7]
          go_simp
          simp only [yUpon]
          exact hK _ _ rfl hS
        · intro D uu w' K hD hF hl hS hK
          have f8 := (hF 8 (by kernel_rfl)).2
          simp only at f8
          simp only [puts, Act.put, List.setIfInBounds_toArray, List.set_cons_succ, List.set_cons_zero, Nat.zero_add, Nat.reduceAdd]
          simp only [f8]
          go_simp
          simp only [yUpon]
          exact hK _ _ rfl hS
        · intro D uu w' K hD hF hl hS hK
          have f8 := (hF 8 (by kernel_rfl)).2
          simp only at f8
          simp only [puts, Act.put, List.setIfInBounds_toArray, List.set_cons_succ, List.set_cons_zero, Nat.zero_add, Nat.reduceAdd]
          simp only [f8]
          go_simp
          simp only [yUpon]
          exact hK _ _ rfl hS
        · intro D uu w' K hD hF hl hS hK
          simp only [puts, Act.put, List.setIfInBounds_toArray, List.set_cons_succ, List.set_cons_zero, Nat.zero_add, Nat.reduceAdd]
          have hlate := hl 12 (by kernel_rfl)
          simp only [hD, cond_false] at hS
          have hs2 := hS.step (i := 15) (r := noR) rfl (w' := w'.alloc (.cells #[.int .i64 0, .int .i64 0, .int .i64 0] 44)) ((Keep.refl _ _ _).alloc (Nat.le_refl _) _) (r' := blkR w'.heap.size 44 #[.int .i64 0, .int .i64 0, .int .i64 0]) (Blk.new _ _ _) (by simp [blkR])
          have e1 : (fset D 11 true) 11 = true := rfl
          have e2 : (fset D 11 true) 12 = false := hlate
          go_simp
          simp only [yUpon]
          refine hK _ _ ⟨_, rfl⟩ ?_
          simp only [e1, e2, cond_true, cond_false]
          exact hs2
        · intro D uu w' K hD hF hl hS hK
          have f9 := (hF 9 (by kernel_rfl)).2
          simp only at f9
          simp only [puts, Act.put, List.setIfInBounds_toArray, List.set_cons_succ, List.set_cons_zero, Nat.zero_add, Nat.reduceAdd]
          simp only [f9]
          obtain ⟨d11, g, hg⟩ := hF 11 (by kernel_rfl)
          simp only [hD, d11, hg, ptrR, cond_false, cond_true] at hS
          have x0 := (hS.blk 15 rfl).cell 0
          have x1 := (hS.blk 15 rfl).cell 1
          have x2 := (hS.blk 15 rfl).cell 2
          simp at x0 x1 x2
          have z0 := (hS.blk 15 rfl).frozen 0
          have z1 := (hS.blk 15 rfl).frozen 1
          have z2 := (hS.blk 15 rfl).frozen 2
          have hput := (((hS.put (i := 15) rfl 0 (.int .i64 q1)).put (i := 15) rfl 1 (.int .i64 q2v)).put (i := 15) rfl 2 (.int .i64 q3))
          have e1 : (fset D 12 true) 12 = true := rfl
          have e2 : (fset D 12 true) 11 = true := d11
          simp only [hg]
          go_simp
          simp only [yUpon]
          refine hK _ _ trivial ?_
          simp only [e1, e2, cond_true]
          have e4 : ∀ v, (fset uu 12 v) 11 = .pointer (some ⟨g, 0, none⟩) := fun v => hg
          simp only [e4, ptrR]
          exact hput
        · intro D uu w' K hD hF hl hS hK
          have f10 := (hF 10 (by kernel_rfl)).2
          simp only at f10
          simp only [puts, Act.put, List.setIfInBounds_toArray, List.set_cons_succ, List.set_cons_zero, Nat.zero_add, Nat.reduceAdd]
          simp only [f10]
          go_simp
          simp only [yUpon]
          exact hK _ _ rfl hS
      case fin =>
        intro D uu wh hall hS
        have f11 := (hall 11 (by simp)).1
        have f12 := (hall 12 (by simp)).1
        obtain ⟨gq, v11⟩ := (hall 11 (by simp)).2
        have v13 := (hall 13 (by simp)).2
        simp only at v13
        simp only [f11, f12, v11, ptrR, cond_true] at hS
        have HS := Lib.hid hS
        clear hall hS f11 f12
        simp only [puts, Act.put, List.setIfInBounds_toArray, List.set_cons_succ, List.set_cons_zero, Nat.zero_add, Nat.reduceAdd]
        simp only [v11, v13]
        clear v11 v13
        obtain ⟨m1, hm1⟩ : ∃ m1, m + 1 = m1 := ⟨_, rfl⟩
        have hmw : IntKind.i64.wrap ((m : Int) + 1) = (m1 : Int) := by rw [IntWalk.i64_in _ (by omega)]; omega
        have z0 := (HS.out.blk 10 rfl).frozen 0
        have hs2 := HS.out.put (i := 10) rfl 0 (.int .i64 (m1 : Int))
        have HS2 := Lib.hid hs2
        have HM1 := Lib.hid hm1
        clear hs2 hm1
        have p0 := (HS.out.blk 14 rfl).cell 0
        simp at p0
        have p1 := (HS.out.blk 14 rfl).cell 1
        simp at p1
        have p2 := (HS.out.blk 14 rfl).cell 2
        simp at p2
        have s0 := (HS.out.blk 15 rfl).cell 0
        simp at s0
        have s1 := (HS.out.blk 15 rfl).cell 1
        simp at s1
        have s2 := (HS.out.blk 15 rfl).cell 2
        simp at s2
        have n0 := (HS.out.blk 10 rfl).cell 0
        simp at n0
        by_cases hxe : xe = 0
        · obtain ⟨rfl, rfl, rfl⟩ := HQ1.out hxe
          subst hxe
          gi_wp2
          have hm1 := HM1.out
          subst hm1
          exact ⟨_, ⟨rfl, by omega⟩, Sep.dropMid (r := blkR go 44 #[.int .i64 q1, .int .i64 q2v, .int .i64 (xp : Int)]) _ _ (Sep.dropMid (r := blkR gq 44 #[.int .i64 q1, .int .i64 q2v, .int .i64 (xp : Int)]) _ _ HS2.out)⟩
        · obtain ⟨rfl, rfl, rfl⟩ := HQ2.out hxe
          gi_wp2
          have hm1 := HM1.out
          subst hm1
          exact ⟨_, ⟨rfl, by omega⟩, Sep.dropMid (r := blkR go 44 #[.int .i64 0, .int .i64 0, .int .i64 (xp : Int)]) _ _ (Sep.dropMid (r := blkR gq 44 #[.int .i64 q1, .int .i64 q2v, .int .i64 q3]) _ _ HS2.out)⟩
  · rintro D0 L r2 wq rfl hs
    have HS := Lib.hid hs
    clear hs HSQ
    replace HS : Hid (Sep w [] ([blkR gx 24 #[.int .u16 l, .int .u16 r, .int .u16 s], blkR gr 4 #[.bool false], devR d (t2), rowR 3 (.slice OA os.length OC) (atsOf os), rowR 26 (.slice RA RL RC) (uw rs), blkR gd 28 #[.pointer (some ⟨d.b, 0, none⟩)], blkR gk 30 #[.int .i64 (k.L : Int), .int .i64 (k.R : Int), .int .i64 (k.S : Int)], blkR gb 33 #[.int .i64 0, .int .i64 (u : Int), .slice RA RL RC], blkR gw 34 #[.slice WA (its.length) WC], rowR 3 (.slice WA (its.length) WC) (plsOf (its)), blkR gn 3 #[.int .i64 (((its.length) : Nat) : Int)], blkR g1 28 #[.pointer (some ⟨d.b, 0, none⟩)], blkR g2 30 #[.int .i64 (k.L : Int), .int .i64 (k.R : Int), .int .i64 (k.S : Int)], blkR g3 33 #[.int .i64 0, .int .i64 (u : Int), .slice RA RL RC]] ++ [objR D0 (.deferred (some []))]) wq) := Lib.hid (HS.out.take 15)
    simp only [Exit.then]
    refine wpFr_of_wp ?_
    obtain ⟨EC, hec⟩ : ∃ EC, errAt its = EC := ⟨_, rfl⟩
    rw [hec]
    have HEC := Lib.hid hec
    clear hec
    have c0 := (HS.out.blk 6 rfl).cell 0
    simp at c0
    have c1 := (HS.out.blk 6 rfl).cell 1
    simp at c1
    have c2 := (HS.out.blk 6 rfl).cell 2
    simp at c2
    have b0 := (HS.out.blk 7 rfl).cell 0
    simp at b0
    have b1 := (HS.out.blk 7 rfl).cell 1
    simp at b1
    have b2 := (HS.out.blk 7 rfl).cell 2
    simp at b2
    have d0 := (HS.out.blk 5 rfl).cell 0
    simp at d0
    go_wp2_with fail
    refine (starts_any d t2 k 0 u e f RA RL RC _ (HS.out.dev 2 rfl) HK.out (by decide) huS HF0.out HE.out HRG.out).mono ?_
    rintro e1 w10 ⟨mr, rfl, hS⟩
    rw [HITS.out, HEC.out]
    rw [HITS.out] at hS
    replace HS := Lib.hid (HS.out.adds hS)
    clear hS c0 c1 c2 b0 b1 b2 d0
    have n0 := (HS.out.blk 10 rfl).cell 0
    simp at n0
    have g0 := (HS.out.blk 8 rfl).cell 0
    simp at g0
    obtain ⟨GN, hGN⟩ : ∃ GN, (if EC = 0 then its.length else its.length - 1) = GN := ⟨_, rfl⟩
    have hlen0 : EC ≠ 0 → 0 < its.length := fun h => by
      rcases Nat.eq_zero_or_pos its.length with h0 | h0
      · exfalso
        apply h
        rw [← HEC.out, List.eq_nil_of_length_eq_zero h0]
        rfl
      · exact h0
    have HGN := Lib.hid hGN
    clear hGN
    go_upto_if 181 with fail
    go_cut [29] from 181 to 183 (fun v29 wx => wx = w10 ∧ v29 = .int .i64 (GN : Int))
    case first =>
      by_cases hE : EC = 0
      · subst hE
        have h1 := HGN.out
        rw [if_pos rfl] at h1
        subst h1
        go_wp2
        go_meet
        exact ⟨rfl, rfl⟩
      · have h1 := HGN.out
        rw [if_neg hE] at h1
        have h2 := hlen0 hE
        have hw : IntKind.i64.wrap ((its.length : Int) - 1) = (GN : Int) := by rw [IntWalk.i64_in _ (by omega)]; omega
        have e1 : (EC != 0) = true := by simpa using hE
        have e2 : decide (EC = 0) = false := by simpa using hE
        have e3 : (EC == 0) = false := by simpa using hE
        clear hE h1 h2 hlen0
        go_wp2
        go_meet
        exact ⟨rfl, rfl⟩
    obtain ⟨rfl, rfl⟩ := hcut
    have hmt : ∀ (i : Nat) (x : It), its[i]? = some x → ((mapOf its (x.p : Int)).isSome = true ↔ i < GN) := by
      intro i x hx
      have h1 := HGN.out
      rw [← HEC.out] at h1
      rw [← h1]
      rw [← HITS.out] at hx ⊢
      exact (map_at hx).trans (scan_good_iff hx)
    have hmv : ∀ j v, mapOf its j = some v → ∃ a b, v = .agg #[.int .i64 a, .int .i64 b, .int .i64 j] := by
      intro j v hv
      rw [← HITS.out] at hv
      obtain ⟨x, _, _, h2, h3⟩ := (mapOf_get (scan_rise t2 e f)).1 hv
      exact ⟨_, _, by rw [h3, h2]⟩
    have HMT := Lib.hid hmt
    have HMV := Lib.hid hmv
    clear n0 hmt hmv
    go_wp2_with fail
    clear g0
    go_loopw [30, 31, 32, 33, 186] (fun _ _ _ _ v186 wr => ∃ i : Nat, i ≤ its.length ∧ v186 = .int .i64 (i : Int) ∧ Sep w [] ([blkR gx 24 #[.int .u16 l, .int .u16 r, .int .u16 s], blkR gr 4 #[.bool false], devR d (t2), rowR 3 (.slice OA os.length OC) (atsOf os), rowR 26 (.slice RA RL RC) (uw rs), blkR gd 28 #[.pointer (some ⟨d.b, 0, none⟩)], blkR gk 30 #[.int .i64 (k.L : Int), .int .i64 (k.R : Int), .int .i64 (k.S : Int)], blkR gb 33 #[.int .i64 0, .int .i64 (u : Int), .slice RA RL RC], blkR gw 34 #[.slice WA (its.length) WC], rowR 3 (.slice WA (its.length) WC) (plsOf (its)), blkR gn 3 #[.int .i64 (((its.length) : Nat) : Int)], blkR g1 28 #[.pointer (some ⟨d.b, 0, none⟩)], blkR g2 30 #[.int .i64 (k.L : Int), .int .i64 (k.R : Int), .int .i64 (k.S : Int)], blkR g3 33 #[.int .i64 0, .int .i64 (u : Int), .slice RA RL RC]] ++ [objR D0 (.deferred (some [])), mapR mr (mapOf its)]) wr) (fun _ _ _ _ v186 _ => its.length - (intOf v186).toNat)
    case atStart => exact ⟨0, by omega, rfl, HS.out⟩
    case round =>
      clear HS
      obtain ⟨i, hi, rfl, hs⟩ := hrel
      have HS := Lib.hid hs
      clear hs
      by_cases hlt : i < its.length
      · have hltI : (i : Int) < (its.length : Int) := by omega
        obtain ⟨x, hx⟩ : ∃ x, its[i]? = some x := ⟨_, List.getElem?_eq_getElem hlt⟩
        obtain ⟨g, hWA, hcell⟩ : ∃ g, WA = some ⟨g, 0, none⟩ ∧ wr.cell? ⟨g, i, none⟩ = some (.int .i64 (x.p : Int)) := by
          have hrow : wr.ownsRow 0 3 1 (.slice WA its.length WC) (plsOf its).length (plsOf its) := HS.out.row 9 rfl
          have hget : (plsOf its)[i]? = some (.int .i64 (x.p : Int)) := by simp [plsOf, hx]
          rcases hrow.2 with ⟨hv, h0⟩ | ⟨g, cap, cur, hv, _⟩
          · have := (List.getElem?_eq_some_iff.1 hget).1; omega
          · injection hv with e1 e2 e3
            refine ⟨g, e1, ?_⟩
            subst e1
            have := hrow.cells (g := g) rfl i (.int .i64 (x.p : Int)) hget
            rwa [addr0] at this
        subst hWA
        have hm := HMT.out i x hx
        have hl := lookup_ok (P := Try.prog) (w := wr) (T := 50) (HS.out.all 15 _ rfl : IMap wr mr .i64 (mapOf its)) u_starts underlying_int (x.p : Int) (zero_ob wr)
        cases hM : mapOf its (x.p : Int) with
        | none =>
          rw [hM] at hl hm
          simp only [Option.getD_none, Option.isSome_none] at hl
          have hge : ¬ i < GN := fun h => by have := hm.2 h; simp at this
          have hgI : decide ((i : Int) < (GN : Int)) = false := by rw [decide_eq_false_iff_not]; omega
          have hgN : decide (i < GN) = false := by rw [decide_eq_false_iff_not]; omega
          clear hm hM hx hge
          go_wp2
          exact ⟨⟨i + 1, by omega, by first | rfl | go_num | simp, (HS.out.new 44 #[.int .i64 0, .int .i64 0, .int .i64 0]).take 16⟩, by simp [intOf]; omega⟩
        | some vv =>
          obtain ⟨a, b, rfl⟩ := HMV.out _ _ hM
          rw [hM] at hl hm
          simp only [Option.getD_some, Option.isSome_some] at hl
          have hge : i < GN := hm.1 rfl
          have hgI : decide ((i : Int) < (GN : Int)) = true := by rw [decide_eq_true_iff]; omega
          have hgN : decide (i < GN) = true := by rw [decide_eq_true_iff]; omega
          clear hm hM hx hge
          go_wp2
          exact ⟨⟨i + 1, by omega, by first | rfl | go_num | simp, (HS.out.new 44 #[.int .i64 a, .int .i64 b, .int .i64 (x.p : Int)]).take 16⟩, by simp [intOf]; omega⟩
      · obtain rfl : i = its.length := by omega
        have hltI : ¬ (its.length : Int) < (its.length : Int) := by omega
        have hln := map_len (P := Try.prog) (T := 50) (ty := 3) (HS.out.all 15 _ rfl : IMap wr mr .i64 (mapOf its)) u_starts _ (mapOf_nodup (by rw [← HITS.out]; exact scan_rise t2 e f)) (mapOf_some (by rw [← HITS.out]; exact scan_rise t2 e f))
        have hgl : (its.filter fun x => decide (x.err = 0)).length = GN := by rw [← HGN.out, ← HEC.out, ← HITS.out]; exact scan_good_len t2 e f
        rw [List.length_map, hgl] at hln
        have hor : z5 = 0 → its.length = os.length := fun hz => by
          have h1 := HT2.out hz
          have h2 := HF.out.scan
          rw [HF0.out, HE.out, ← h1, HITS.out] at h2
          rw [h2, List.length_map]
        clear hgl hi hlt
        have r0 := (HS.out.blk 1 rfl).cell 0
        simp at r0
        have g0 := (HS.out.blk 8 rfl).cell 0
        simp at g0
        have z2 := (HS.out.blk 1 rfl).frozen 0
        have hs2 := HS.out.put (i := 1) rfl 0 (.bool true)
        have HS2 := Lib.hid hs2
        have hp := hs2.putObj (i := 14) rfl (.deferred none)
        have ld := loadVar_one (P := Try.prog) (ty := 4) (a := ⟨gr, 0, none⟩) (v := .bool true) (d := .bool) (by kernel_rfl) rfl (by rw [(hp.blk 1 rfl).cell 0]; rfl)
        have HP := Lib.hid hp
        have HLD := Lib.hid ld
        clear hs2 hp ld
        by_cases hz : z5 = 0
        · subst hz
          have hq := hor rfl
          have hqI : (its.length : Int) = (os.length : Int) := by omega
          have HQ := Lib.hid hq
          clear hor
          go_wp2
          exact leave_mark (HS2.out.all 14 _ rfl) (results_c (fn := Try.f3) (p := 12) (ty := 4) (a1 := ⟨gr, 0, none⟩) rfl _ _ _ rfl HLD.out) ⟨rfl, HP.out.take 0⟩
        · have hzI : (0 : Int) < (z5 : Int) := by omega
          have hzd : decide ((0 : Int) < (z5 : Int)) = true := decide_eq_true hzI
          clear hor hz
          go_wp2
          exact leave_mark (HS2.out.all 14 _ rfl) (results_c (fn := Try.f3) (p := 12) (ty := 4) (a1 := ⟨gr, 0, none⟩) rfl _ _ _ rfl HLD.out) ⟨rfl, HP.out.take 0⟩

theorem WalkObjects.walk {v1 : Value} {w : World} (l r s : Int) (h : (lowest .u16 ≤ l ∧ l ≤ greatest .u16) ∧ (lowest .u16 ≤ r ∧ r ≤ greatest .u16) ∧ (lowest .u16 ≤ s ∧ s ≤ greatest .u16)) (hl1 : List HV) (hm1 : RdH w v1 hl1) (ho1 : ∀ x ∈ hl1, x.Ok) (hn1 : hl1.length ≤ maxLen) (a2 : Int) (a20 : lowest .u16 ≤ a2) (a21 : a2 ≤ greatest .u16) (a3 : Int) (a30 : lowest .u64 ≤ a3) (a31 : a3 ≤ greatest .u64) (a4 : Bool) (a5 : Int) (a50 : lowest .u8 ≤ a5) (a51 : a5 ≤ greatest .u8) :
    Calls Try.prog 3 #[.agg #[.int .u16 l, .int .u16 r, .int .u16 s], v1, .int .u16 a2, .int .u64 a3, .bool a4, .int .u8 a5] w fun e w' => e = .returned (.bool true) ∧ Below w.heap.size w w' := by
  obtain ⟨⟨l0, l1⟩, ⟨r0, r1⟩, s0, s1⟩ := h
  simp [lowest, greatest] at l0 l1 r0 r1 s0 s1 a20 a21 a30 a31 a50 a51
  exact (WalkObjects.core l r s v1 hl1 a2 a3 a4 a5 w l0 l1 r0 r1 s0 s1 hm1 ho1 hn1 a20 a21 a30 a31 a50 a51).mono fun e w' ⟨he, hk⟩ => ⟨he, hk.below⟩
end Go.Proofs.Ythdiehcmjknhiaa
