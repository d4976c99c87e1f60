/-
  CheckMoved: the walk.
-/
import Derived.Test.YthdiehcmjknhiaaAwk12
set_option linter.unusedSimpArgs false
set_option linter.unusedVariables false
set_option maxRecDepth 100000
namespace Go.Proofs.Ythdiehcmjknhiaa
open Go.RowKit Go.Shelf

theorem scanF_congr {t t' : St} {e : Nat} (h : ∀ j, t'.nw j = t.nw j) : ∀ (f p : Nat), scanF t' e f p = scanF t e f p
  | 0, p => rfl
  | f + 1, p => by
    have hg : goodAt t' e p ↔ goodAt t e p := by unfold goodAt; rw [h]
    have hi : itAt t' p = itAt t p := by unfold itAt; rw [h]
    have hn : nextAt t' p = nextAt t p := by unfold nextAt; rw [h]
    simp only [scanF]
    by_cases h1 : e ≤ p
    · rw [if_pos h1, if_pos h1]
    · rw [if_neg h1, if_neg h1]
      by_cases h2 : goodAt t e p
      · rw [if_pos h2, if_pos (hg.2 h2), hi, hn, scanF_congr h f]
      · rw [if_neg h2, if_neg (fun h3 => h2 (hg.1 h3))]
theorem checkP_congr {t t' : St} (h : ∀ j, t'.nw j = t.nw j) (k : Kfg) (a u : Nat) : checkP t' k a u = checkP t k a u := by
  have hs : ∀ e p, scan t' e p = scan t e p := fun e p => scanF_congr h _ _
  have hr : ∀ ok, refsOk t' ok = refsOk t ok := fun ok => by funext x; unfold refsOk; simp only [h]
  unfold checkP
  simp only [hs, hr, h]
theorem checkP_two {t : St} {k : Kfg} {a u : Nat} (h : errAt (scan t (k.from_ a + u) (k.from_ a)) = 0) : checkP t k a u = 0 ∨ checkP t k a u = 9 := by
  unfold checkP
  rw [if_neg (by simp [h])]
  split
  · exact .inl rfl
  · exact .inr rfl

set_option maxRecDepth 100000 in
set_option maxHeartbeats 8000000 in
theorem CheckMoved.core (l r s : Int) (v1 : Value) (hl1 : List HV) (v2 : Value) (xs2 : List Int) (a3 : Int) (w : World) (l0 : 0 ≤ l) (l1 : l ≤ 65535) (r0 : 0 ≤ r) (r1 : r ≤ 65535) (s0 : 0 ≤ s) (s1 : s ≤ 65535) (hm1 : RdH w v1 hl1) (ho1 : ∀ x ∈ hl1, x.Ok) (hn1 : hl1.length ≤ maxLen) (hr2 : Rd w v2 (xs2.map (Value.int .u16))) (hb2 : ∀ x ∈ xs2, 0 ≤ x ∧ x ≤ 65535) (hn2 : xs2.length ≤ maxLen) (a30 : 0 ≤ a3) (a31 : a3 ≤ 255) :
    Calls Try.prog 10 #[.agg #[.int .u16 l, .int .u16 r, .int .u16 s], v1, v2, .int .u8 a3] w fun e w' => e = .returned (.bool true) ∧ Keep w.heap.size [] w w' := by
  simp only [maxLen] at hn1 hn2
  have HS := Lib.hid ((Sep.start w []).new 24 #[.int .u16 l, .int .u16 r, .int .u16 s])
  obtain ⟨hk, hkL, hkR, hkS⟩ := kOf_ok (l := l) (r := r) (s := s) l0 r0 s0
  have hla := fun w hm hml hr hnl => linked_any l r s (a3) v1 v2 hl1 xs2 w l0 l1 r0 r1 s0 s1 hm ho1 hml hr hb2 hnl a30 a31
  have hpl := placed_length ((kOf l r s).from_ 0) (kOf l r s).S hl1 0
  generalize kOf l r s = k at *
  obtain ⟨os, hos⟩ : ∃ os, placed (k.from_ 0) k.S hl1 0 = os := ⟨_, rfl⟩
  obtain ⟨u, hu⟩ : ∃ u, usedOf k.S hl1 0 = u := ⟨_, rfl⟩
  simp only [hos, hu] at hla hpl
  have HLA := Lib.hid hla
  have HK := Lib.hid hk
  have HM := Lib.hid hm1
  have HRD := Lib.hid hr2
  have hS8 : 8 ≤ k.S := hk.s0
  have hw2 : k.words ≤ 10000 := (Kfg.words_le hk).2
  have hw1 : k.act + 2 + k.R ≤ k.words := (Kfg.words_le hk).1
  obtain ⟨HA, HC, hv1, hvv⟩ := hm1
  subst hv1
  obtain ⟨NA, NC, hv2, hvv2⟩ := hr2.cells
  subst hv2
  clear hla hk hos hu hvv hvv2 hr2
  by_cases hb1 : 25 < hl1.length
  · have hbI : (25 : Int) < hl1.length := by omega
    go_enter Try.func10, Try.ntmps10
    go_wp2_with fail
    generalize w.alloc _ = w2 at *
    refine (awake12_any _).mono ?_
    rintro e w1 ⟨rfl, hk⟩
    replace HS := Lib.hid (HS.out.grow hk)
    clear hk
    go_wp2
    go_ret
    exact ⟨rfl, HS.out.keep⟩
  have hx2 : ((25 : Int) < hl1.length) = False := by rw [eq_iff_iff, iff_false]; omega
  have hx3 : (25 < hl1.length) = False := by rw [eq_iff_iff, iff_false]; omega
  by_cases hb3 : 60 < xs2.length
  · have hbI : (60 : Int) < xs2.length := by omega
    go_enter Try.func10, Try.ntmps10
    go_wp2_with fail
    generalize w.alloc _ = w2 at *
    refine (awake12_any _).mono ?_
    rintro e w1 ⟨rfl, hk⟩
    replace HS := Lib.hid (HS.out.grow hk)
    clear hk
    go_wp2
    go_ret
    exact ⟨rfl, HS.out.keep⟩
  have hx4 : ((60 : Int) < xs2.length) = False := by rw [eq_iff_iff, iff_false]; omega
  have hx5 : (60 < xs2.length) = False := by rw [eq_iff_iff, iff_false]; omega
  go_enter Try.func10, Try.ntmps10
  go_wp2_with fail
  generalize w.alloc _ = w2 at *
  generalize w.heap.size = gx at *
  refine (awake12_any _).mono ?_
  rintro e w1 ⟨rfl, hk⟩
  replace HS := Lib.hid (HS.out.grow hk)
  clear hk
  have c0 := (HS.out.blk 0 rfl).cell 0
  simp at c0
  have c1 := (HS.out.blk 0 rfl).cell 1
  simp at c1
  have c2 := (HS.out.blk 0 rfl).cell 2
  simp at c2
  go_wp2_with fail
  refine (HLA.out _ (HM.out.keep HS.out.keep) (by omega) (HRD.out.keep HS.out.keep) (by omega)).mono ?_
  rintro e w3 ⟨d, t, rv, ov, rfl, hf, hS⟩
  obtain ⟨OA, OC, hov⟩ := rowR_val (hS.row 1 rfl)
  obtain ⟨RA, RC, hrv⟩ := rowR_val (hS.row 2 rfl)
  rw [atsOf_length] at hov
  obtain ⟨rs, hrs⟩ : ∃ rs, rootsOf t k k.R = rs := ⟨_, rfl⟩
  rw [hrs] at hrv hS
  obtain ⟨RL, hRL⟩ : ∃ RL, (uw rs).length = RL := ⟨_, rfl⟩
  rw [hRL] at hrv
  subst hov hrv
  have hadds := HS.out.adds hS
  replace HS := Lib.hid hadds
  have HL := Lib.hid hf
  simp only [Kfg.cells, rbC]
  clear hS hadds hf hrs hRL c0 c1 c2 HLA HM HRD
  go_upto_region 8 with fail
  replace HS := Lib.hid ((HS.out.new 30 #[.int .i64 (k.L : Int), .int .i64 (k.R : Int), .int .i64 (k.S : Int)]).new 33 #[.int .i64 0, .int .i64 (u : Int), .slice RA RL RC])
  simp only [World.size_alloc] at HS
  generalize (w3.alloc _).alloc _ = w4 at *
  generalize w3.heap.size = gk at *
  generalize gk + 1 = gb at *
  replace HS : Hid (Sep w [] [blkR gx 24 #[.int .u16 l, .int .u16 r, .int .u16 s], devR d (t), rowR 3 (.slice OA os.length OC) (atsOf os), rowR 26 (.slice RA RL RC) (uw rs), blkR gk 30 #[.int .i64 (k.L : Int), .int .i64 (k.R : Int), .int .i64 (k.S : Int)], blkR gb 33 #[.int .i64 0, .int .i64 (u : Int), .slice RA RL RC]] w4) := HS
  obtain ⟨A, hA⟩ : ∃ A, checkP t k 0 u = A := ⟨_, rfl⟩
  have hA2 : A = 0 ∨ A = 9 := by rw [← hA]; exact checkP_two (fill_err HL.out.fill)
  have hI := HL.out.fill.use.is
  have hpad : pad t.now = t.now := pad_of (by rw [hI.now]; exact k.words_mod)
  obtain ⟨t2, ht2⟩ : ∃ t2, St.fresh (-1) 0 t.now = t2 := ⟨_, rfl⟩
  have hn2 : t2.now = t.now := by rw [← ht2]; exact hpad
  have hnw2 : ∀ j, t2.nw j = t.nw j := fun j => by unfold St.nw; rw [hn2]
  have hA3 : checkP t2 k 0 u = A := by rw [checkP_congr hnw2]; exact hA
  have HA := Lib.hid hA
  have HA3 := Lib.hid hA3
  have HN2 := Lib.hid hn2
  have HNW2 := Lib.hid hnw2
  have HT2 := Lib.hid ht2
  have hsm : t.now.length ≤ 10000 := by rw [hI.now]; exact hw2
  clear hA hA3 hn2 hnw2 ht2 hpad hI
  go_wp2_with fail
  refine (words_any d t _ (HS.out.dev 1 rfl)).mono ?_
  rintro e w1 ⟨vn, gn, xn, rfl, hn⟩
  have vn_v := hn.val
  replace HS := Lib.hid (HS.out.add hn.keep (r := blkR gn _ _) hn.blk (by intro k hk; simp [blkR] at hk; subst hk; exact hn.new))
  clear hn
  rw [uw_length] at vn_v
  subst vn_v
  generalize w1 = wq at *
  go_upto_region 9 with fail
  replace HS : Hid (Sep w [] [blkR gx 24 #[.int .u16 l, .int .u16 r, .int .u16 s], devR d (t), rowR 3 (.slice OA os.length OC) (atsOf os), rowR 26 (.slice RA RL RC) (uw rs), blkR gk 30 #[.int .i64 (k.L : Int), .int .i64 (k.R : Int), .int .i64 (k.S : Int)], blkR gb 33 #[.int .i64 0, .int .i64 (u : Int), .slice RA RL RC], blkR gn 26 (uw t.now ++ xn).toArray] wq) := HS
  refine wp_region_st3 (W := w) (S := []) (by kernel_rfl) (by kernel_rfl) (by kernel_rfl) (fun D uu => [blkR gx 24 #[.int .u16 l, .int .u16 r, .int .u16 s], devR d (t), rowR 3 (.slice OA os.length OC) (atsOf os), rowR 26 (.slice RA RL RC) (uw rs), blkR gk 30 #[.int .i64 (k.L : Int), .int .i64 (k.R : Int), .int .i64 (k.S : Int)], blkR gb 33 #[.int .i64 0, .int .i64 (u : Int), .slice RA RL RC], blkR gn 26 (uw t.now ++ xn).toArray])
    (fun j v => match j with
      | 0 => v = .pointer (some ⟨d.b, 0, none⟩)
      | 1 => v = .agg #[.int .i64 (k.L : Int), .int .i64 (k.R : Int), .int .i64 (k.S : Int)]
      | 2 => v = .int .i64 A
      | 3 => v = .pointer (some ⟨d.b, 0, none⟩)
      | 4 => v = .agg #[.int .i64 (k.L : Int), .int .i64 (k.R : Int), .int .i64 (k.S : Int)]
      | 5 => v = .int .i64 A
      | 6 => v = .int .i64 A
      | 7 => v = .int .i64 A
      | _ => True) ?start ?step ?fin
  case start => exact fun u => HS.out
  case step =>
    clear HS
    refine ⟨?_, ?_, ?_, ?_, ?_, ?_, ?_, ?_, trivial⟩
    · intro D uu w' K hD hF hl hS hK
      simp only [puts, Act.put, List.setIfInBounds_toArray, List.set_cons_succ, List.set_cons_zero, Nat.zero_add, Nat.reduceAdd]
      go_simp
      simp only [yUpon]
      exact hK _ _ rfl hS
    · intro D uu w' K hD hF hl hS hK
      simp only [puts, Act.put, List.setIfInBounds_toArray, List.set_cons_succ, List.set_cons_zero, Nat.zero_add, Nat.reduceAdd]
      have x0 := (hS.blk 4 rfl).cell 0
      have x1 := (hS.blk 4 rfl).cell 1
      have x2 := (hS.blk 4 rfl).cell 2
      simp at x0 x1 x2
      go_simp
      simp only [yUpon]
      exact hK _ _ rfl hS
    · intro D uu w' K hD hF hl hS hK
      have f0 := (hF 0 (by kernel_rfl)).2
      simp only at f0
      have f1 := (hF 1 (by kernel_rfl)).2
      simp only at f1
      simp only [puts, Act.put, List.setIfInBounds_toArray, List.set_cons_succ, List.set_cons_zero, Nat.zero_add, Nat.reduceAdd]
      simp only [f0, f1]
      have hcc := heap_check d t k 0 u _ (hS.dev 1 rfl) HK.out HL.out.fill.use.is.now HL.out.fill.use.act HL.out.fill.use.used (by decide) HL.out.fill.le HL.out.rng
      rw [HA.out] at hcc
      go_simp
      simp only [yUpon]
      refine hcc.mono ?_
      rintro e w1 ⟨rfl, hs⟩
      exact hK _ _ rfl (hS.grow hs.keep)
    · intro D uu w' K hD hF hl hS hK
      simp only [puts, Act.put, List.setIfInBounds_toArray, List.set_cons_succ, List.set_cons_zero, Nat.zero_add, Nat.reduceAdd]
      go_simp
      simp only [yUpon]
      exact hK _ _ rfl hS
    · intro D uu w' K hD hF hl hS hK
      simp only [puts, Act.put, List.setIfInBounds_toArray, List.set_cons_succ, List.set_cons_zero, Nat.zero_add, Nat.reduceAdd]
      have x0 := (hS.blk 4 rfl).cell 0
      have x1 := (hS.blk 4 rfl).cell 1
      have x2 := (hS.blk 4 rfl).cell 2
      simp at x0 x1 x2
      go_simp
      simp only [yUpon]
      exact hK _ _ rfl hS
    · intro D uu w' K hD hF hl hS hK
      have f3 := (hF 3 (by kernel_rfl)).2
      simp only at f3
      have f4 := (hF 4 (by kernel_rfl)).2
      simp only at f4
      simp only [puts, Act.put, List.setIfInBounds_toArray, List.set_cons_succ, List.set_cons_zero, Nat.zero_add, Nat.reduceAdd]
      simp only [f3, f4]
      have hcc := heap_check d t k 0 u _ (hS.dev 1 rfl) HK.out HL.out.fill.use.is.now HL.out.fill.use.act HL.out.fill.use.used (by decide) HL.out.fill.le HL.out.rng
      rw [HA.out] at hcc
      go_simp
      simp only [yUpon]
      refine hcc.mono ?_
      rintro e w1 ⟨rfl, hs⟩
      exact hK _ _ rfl (hS.grow hs.keep)
    · intro D uu w' K hD hF hl hS hK
      have f2 := (hF 2 (by kernel_rfl)).2
      simp only at f2
      simp only [puts, Act.put, List.setIfInBounds_toArray, List.set_cons_succ, List.set_cons_zero, Nat.zero_add, Nat.reduceAdd]
      simp only [f2]
      go_simp
      simp only [yUpon]
      exact hK _ _ rfl hS
    · intro D uu w' K hD hF hl hS hK
      have f5 := (hF 5 (by kernel_rfl)).2
      simp only at f5
      simp only [puts, Act.put, List.setIfInBounds_toArray, List.set_cons_succ, List.set_cons_zero, Nat.zero_add, Nat.reduceAdd]
      simp only [f5]
      go_simp
      simp only [yUpon]
      exact hK _ _ rfl hS
  case fin =>
    intro D uu wf hall hS
    have v0 := (hall 0 (by simp)).2
    have v1 := (hall 1 (by simp)).2
    have v2 := (hall 2 (by simp)).2
    have v3 := (hall 3 (by simp)).2
    have v4 := (hall 4 (by simp)).2
    have v5 := (hall 5 (by simp)).2
    have v6 := (hall 6 (by simp)).2
    have v7 := (hall 7 (by simp)).2
    simp only at v0 v1 v2 v3 v4 v5 v6 v7
    have HS := Lib.hid hS
    clear hall hS
    simp only [puts, Act.put, List.setIfInBounds_toArray, List.set_cons_succ, List.set_cons_zero, Nat.zero_add, Nat.reduceAdd]
    simp only [v0, v1, v2, v3, v4, v5, v6, v7]
    clear v0 v1 v2 v3 v4 v5 v6 v7
    go_wp2_with fail
    refine (new2_any _ t.now _ (Rd.of_uw (HS.out.blk 6 rfl)) (by omega)).mono ?_
    rintro e w5 ⟨d2, rfl, hdb, hd, hkk⟩
    rw [HT2.out] at hd
    replace HS := Lib.hid (HS.out.add hkk (r := devR d2 t2) hd hdb)
    clear hdb hd hkk
    rcases hA2 with h0 | h9
    · subst h0
      have c0 := (HS.out.blk 4 rfl).cell 0
      simp at c0
      have c1 := (HS.out.blk 4 rfl).cell 1
      simp at c1
      have c2 := (HS.out.blk 4 rfl).cell 2
      simp at c2
      go_wp2_with fail
      refine (heap_check d2 t2 k 0 u _ (HS.out.dev 7 rfl) HK.out (by rw [HN2.out]; exact HL.out.fill.use.is.now) (by rw [HNW2.out]; exact HL.out.fill.use.act) (by rw [HNW2.out]; exact HL.out.fill.use.used) (by decide) HL.out.fill.le (by unfold St.rng; rw [HN2.out]; exact HL.out.rng)).mono ?_
      rintro e1 wb ⟨rfl, hs⟩
      rw [HA3.out]
      replace HS := Lib.hid (HS.out.grow hs.keep)
      clear hs c0 c1 c2
      go_wp2_with fail
      refine (words_any d t _ (HS.out.dev 1 rfl)).mono ?_
      rintro e w1 ⟨vm, gm, xm, rfl, hn⟩
      have vm_v := hn.val
      replace HS := Lib.hid (HS.out.add hn.keep (r := blkR gm _ _) hn.blk (by intro k hk; simp [blkR] at hk; subst hk; exact hn.new))
      clear hn
      rw [uw_length] at vm_v
      subst vm_v
      go_wp2_with fail
      refine (equal_any _ _ t.now t.now _ (Rd.of_uw (HS.out.blk 8 rfl)) (Rd.of_uw (HS.out.blk 6 rfl)) (by omega)).mono ?_
      rintro e w1 ⟨rfl, hk⟩
      replace HS := Lib.hid (HS.out.grow hk)
      clear hk
      rw [decide_eq_true rfl]
      go_wp2
      go_ret
      exact ⟨rfl, HS.out.keep⟩
    · subst h9
      have c0 := (HS.out.blk 4 rfl).cell 0
      simp at c0
      have c1 := (HS.out.blk 4 rfl).cell 1
      simp at c1
      have c2 := (HS.out.blk 4 rfl).cell 2
      simp at c2
      go_wp2_with fail
      refine (heap_check d2 t2 k 0 u _ (HS.out.dev 7 rfl) HK.out (by rw [HN2.out]; exact HL.out.fill.use.is.now) (by rw [HNW2.out]; exact HL.out.fill.use.act) (by rw [HNW2.out]; exact HL.out.fill.use.used) (by decide) HL.out.fill.le (by unfold St.rng; rw [HN2.out]; exact HL.out.rng)).mono ?_
      rintro e1 wb ⟨rfl, hs⟩
      rw [HA3.out]
      replace HS := Lib.hid (HS.out.grow hs.keep)
      clear hs c0 c1 c2
      go_wp2_with fail
      refine (words_any d t _ (HS.out.dev 1 rfl)).mono ?_
      rintro e w1 ⟨vm, gm, xm, rfl, hn⟩
      have vm_v := hn.val
      replace HS := Lib.hid (HS.out.add hn.keep (r := blkR gm _ _) hn.blk (by intro k hk; simp [blkR] at hk; subst hk; exact hn.new))
      clear hn
      rw [uw_length] at vm_v
      subst vm_v
      go_wp2_with fail
      refine (equal_any _ _ t.now t.now _ (Rd.of_uw (HS.out.blk 8 rfl)) (Rd.of_uw (HS.out.blk 6 rfl)) (by omega)).mono ?_
      rintro e w1 ⟨rfl, hk⟩
      replace HS := Lib.hid (HS.out.grow hk)
      clear hk
      rw [decide_eq_true rfl]
      go_wp2
      go_ret
      exact ⟨rfl, HS.out.keep⟩

theorem CheckMoved.walk {v1 v2 : Value} {w : World} (l r s : Int) (h : (lowest .u16 ≤ l ∧ l ≤ greatest .u16) ∧ (lowest .u16 ≤ r ∧ r ≤ greatest .u16) ∧ (lowest .u16 ≤ s ∧ s ≤ greatest .u16)) (hl1 : List HV) (hm1 : RdH w v1 hl1) (ho1 : ∀ x ∈ hl1, x.Ok) (hn1 : hl1.length ≤ maxLen) (xs2 : List Int) (hr2 : Rd w v2 (xs2.map (Value.int .u16))) (hb2 : ∀ x ∈ xs2, lowest .u16 ≤ x ∧ x ≤ greatest .u16) (hn2 : xs2.length ≤ maxLen) (a3 : Int) (a30 : lowest .u8 ≤ a3) (a31 : a3 ≤ greatest .u8) :
    Calls Try.prog 10 #[.agg #[.int .u16 l, .int .u16 r, .int .u16 s], v1, v2, .int .u8 a3] w fun e w' => e = .returned (.bool true) ∧ Below w.heap.size w w' := by
  obtain ⟨⟨l0, l1⟩, ⟨r0, r1⟩, s0, s1⟩ := h
  have hb2' : ∀ x ∈ xs2, 0 ≤ x ∧ x ≤ 65535 := fun x hx => by have := hb2 x hx; simpa [lowest, greatest] using this
  simp [lowest, greatest] at l0 l1 r0 r1 s0 s1 a30 a31
  exact (CheckMoved.core l r s v1 hl1 v2 xs2 a3 w l0 l1 r0 r1 s0 s1 hm1 ho1 hn1 hr2 hb2' hn2 a30 a31).mono fun e w' ⟨he, hk⟩ => ⟨he, hk.below⟩
end Go.Proofs.Ythdiehcmjknhiaa
