/-
  CheckWhole: the walk.
-/
import Derived.Test.YthdiehcmjknhiaaAwk12
set_option linter.unusedSimpArgs false
set_option linter.unusedVariables false
set_option maxRecDepth 100000
namespace Go.Proofs.Ythdiehcmjknhiaa
open Go.RowKit Go.Shelf

theorem nameP_zero {os : List Ob} {x : Int} (h : nameP os ((0 : Int) ≠ 0) x) : x = 0 ∨ ∃ o ∈ os, x = (o.at_ : Int) := by
  rcases h with h | ⟨o, ho, h | ⟨h, _⟩⟩
  · exact .inl h
  · exact .inr ⟨o, ho, h⟩
  · exact absurd rfl h
theorem LinkS.mono {t : St} {k : Kfg} {os : List Ob} {u : Nat} {P Q : Int → Prop} (h : LinkS t k os u P) (hPQ : ∀ x, P x → Q x) : LinkS t k os u Q :=
  ⟨h.fill, h.rng, fun o ho i hi => hPQ _ (h.names o ho i hi), h.nums, fun i hi => hPQ _ (h.roots i hi)⟩

set_option maxRecDepth 100000 in
set_option maxHeartbeats 8000000 in
theorem CheckWhole.core (l r s : Int) (v1 : Value) (hl1 : List HV) (v2 : Value) (xs2 : List Int) (a3 : Int) (w : World) (l0 : 0 ≤ l) (l1 : l ≤ 65535) (r0 : 0 ≤ r) (r1 : r ≤ 65535) (s0 : 0 ≤ s) (s1 : s ≤ 65535) (hm1 : RdH w v1 hl1) (ho1 : ∀ x ∈ hl1, x.Ok) (hn1 : hl1.length ≤ maxLen) (hr2 : Rd w v2 (xs2.map (Value.int .u16))) (hb2 : ∀ x ∈ xs2, 0 ≤ x ∧ x ≤ 65535) (hn2 : xs2.length ≤ maxLen) (a30 : 0 ≤ a3) (a31 : a3 ≤ 255) :
    Calls Try.prog 7 #[.agg #[.int .u16 l, .int .u16 r, .int .u16 s], v1, v2, .int .u8 a3] w fun e w' => e = .returned (.bool true) ∧ Keep w.heap.size [] w w' := by
  simp only [maxLen] at hn1 hn2
  obtain ⟨q, rfl⟩ : ∃ q : Nat, a3 = (q : Int) := ⟨a3.toNat, by omega⟩
  have HS := Lib.hid ((Sep.start w []).new 24 #[.int .u16 l, .int .u16 r, .int .u16 s])
  obtain ⟨hk, hkL, hkR, hkS⟩ := kOf_ok (l := l) (r := r) (s := s) l0 r0 s0
  have hla := fun w hm hml hr hnl => linked_any l r s (0) v1 v2 hl1 xs2 w l0 l1 r0 r1 s0 s1 hm ho1 hml hr hb2 hnl (by decide) (by decide)
  have hpl := placed_length ((kOf l r s).from_ 0) (kOf l r s).S hl1 0
  generalize kOf l r s = k at *
  obtain ⟨os, hos⟩ : ∃ os, placed (k.from_ 0) k.S hl1 0 = os := ⟨_, rfl⟩
  obtain ⟨u, hu⟩ : ∃ u, usedOf k.S hl1 0 = u := ⟨_, rfl⟩
  simp only [hos, hu] at hla hpl
  have HLA := Lib.hid hla
  have HK := Lib.hid hk
  have HM := Lib.hid hm1
  have HRD := Lib.hid hr2
  have hS8 : 8 ≤ k.S := hk.s0
  have hw2 : k.words ≤ 10000 := (Kfg.words_le hk).2
  have hw1 : k.act + 2 + k.R ≤ k.words := (Kfg.words_le hk).1
  obtain ⟨HA, HC, hv1, hvv⟩ := hm1
  subst hv1
  obtain ⟨NA, NC, hv2, hvv2⟩ := hr2.cells
  subst hv2
  clear hla hk hos hu hvv hvv2 hr2
  by_cases hb1 : 25 < hl1.length
  · have hbI : (25 : Int) < hl1.length := by omega
    go_enter Try.func7, Try.ntmps7
    go_wp2_with fail
    generalize w.alloc _ = w2 at *
    refine (awake12_any _).mono ?_
    rintro e w1 ⟨rfl, hk⟩
    replace HS := Lib.hid (HS.out.grow hk)
    clear hk
    go_wp2
    go_ret
    exact ⟨rfl, HS.out.keep⟩
  have hx2 : ((25 : Int) < hl1.length) = False := by rw [eq_iff_iff, iff_false]; omega
  have hx3 : (25 < hl1.length) = False := by rw [eq_iff_iff, iff_false]; omega
  by_cases hb3 : 60 < xs2.length
  · have hbI : (60 : Int) < xs2.length := by omega
    go_enter Try.func7, Try.ntmps7
    go_wp2_with fail
    generalize w.alloc _ = w2 at *
    refine (awake12_any _).mono ?_
    rintro e w1 ⟨rfl, hk⟩
    replace HS := Lib.hid (HS.out.grow hk)
    clear hk
    go_wp2
    go_ret
    exact ⟨rfl, HS.out.keep⟩
  have hx4 : ((60 : Int) < xs2.length) = False := by rw [eq_iff_iff, iff_false]; omega
  have hx5 : (60 < xs2.length) = False := by rw [eq_iff_iff, iff_false]; omega
  go_enter Try.func7, Try.ntmps7
  go_wp2_with fail
  generalize w.alloc _ = w2 at *
  generalize w.heap.size = gx at *
  refine (awake12_any _).mono ?_
  rintro e w1 ⟨rfl, hk⟩
  replace HS := Lib.hid (HS.out.grow hk)
  clear hk
  have c0 := (HS.out.blk 0 rfl).cell 0
  simp at c0
  have c1 := (HS.out.blk 0 rfl).cell 1
  simp at c1
  have c2 := (HS.out.blk 0 rfl).cell 2
  simp at c2
  go_wp2_with fail
  refine (HLA.out _ (HM.out.keep HS.out.keep) (by omega) (HRD.out.keep HS.out.keep) (by omega)).mono ?_
  rintro e w3 ⟨d, t, rv, ov, rfl, hf, hS⟩
  obtain ⟨OA, OC, hov⟩ := rowR_val (hS.row 1 rfl)
  obtain ⟨RA, RC, hrv⟩ := rowR_val (hS.row 2 rfl)
  rw [atsOf_length] at hov
  obtain ⟨rs, hrs⟩ : ∃ rs, rootsOf t k k.R = rs := ⟨_, rfl⟩
  rw [hrs] at hrv hS
  obtain ⟨RL, hRL⟩ : ∃ RL, (uw rs).length = RL := ⟨_, rfl⟩
  rw [hRL] at hrv
  subst hov hrv
  have hadds := HS.out.adds hS
  replace HS := Lib.hid hadds
  have HL := Lib.hid hf
  simp only [Kfg.cells, rbC]
  clear hS hadds hf hrs hRL c0 c1 c2 HLA HM HRD
  go_upto_region 6 with fail
  replace HS := Lib.hid ((HS.out.new 30 #[.int .i64 (k.L : Int), .int .i64 (k.R : Int), .int .i64 (k.S : Int)]).new 33 #[.int .i64 0, .int .i64 (u : Int), .slice RA RL RC])
  simp only [World.size_alloc] at HS
  generalize (w3.alloc _).alloc _ = w4 at *
  generalize w3.heap.size = gk at *
  generalize gk + 1 = gb at *
  replace HS : Hid (Sep w [] [blkR gx 24 #[.int .u16 l, .int .u16 r, .int .u16 s], devR d (t), rowR 3 (.slice OA os.length OC) (atsOf os), rowR 26 (.slice RA RL RC) (uw rs), blkR gk 30 #[.int .i64 (k.L : Int), .int .i64 (k.R : Int), .int .i64 (k.S : Int)], blkR gb 33 #[.int .i64 0, .int .i64 (u : Int), .slice RA RL RC]] w4) := HS
  have hc0 : checkP t k 0 u = 0 := fill_whole HL.out.fill (fun i hi => nameP_zero (HL.out.roots i hi)) (fun o ho i hi => nameP_zero (HL.out.names o ho i hi))
  have HC0 := Lib.hid hc0
  have hosl : os.length ≤ 1000 := by omega
  clear hc0
  have c0 := (HS.out.blk 4 rfl).cell 0
  simp at c0
  have c1 := (HS.out.blk 4 rfl).cell 1
  simp at c1
  have c2 := (HS.out.blk 4 rfl).cell 2
  simp at c2
  go_wp2_with fail
  refine (heap_check d t k 0 u _ (HS.out.dev 1 rfl) HK.out HL.out.fill.use.is.now HL.out.fill.use.act HL.out.fill.use.used (by decide) HL.out.fill.le HL.out.rng).mono ?_
  rintro e1 wa ⟨rfl, hs⟩
  rw [HC0.out]
  replace HS := Lib.hid (HS.out.grow hs.keep)
  clear hs c0 c1 c2 HC0
  by_cases hlen : os.length = 0
  · have e1 : ((os.length : Int) == 0) = true := by simp; simpa using hlen
    have e2 : decide ((os.length : Int) = 0) = true := by simp; simpa using hlen
    go_wp2
    go_ret
    exact ⟨rfl, HS.out.keep⟩
  obtain ⟨jj, hj⟩ : ∃ jj, q % os.length = jj := ⟨_, rfl⟩
  have hlt : jj < os.length := by have := Nat.mod_lt q (show 0 < os.length by omega); omega
  have hltI : (jj : Int) < (os.length : Int) := by omega
  have hrem : ((q : Int)).tmod (os.length : Int) = (jj : Int) := by rw [tmod_natN, hj]
  have hz1 : ((os.length : Int) == 0) = false := by rw [beq_eq_false_iff_ne]; omega
  have hz2 : ((os.length : Int) = 0) = False := by rw [eq_iff_iff, iff_false]; omega
  have hz3 : decide ((os.length : Int) = 0) = false := by rw [decide_eq_false_iff_not]; omega
  have hq8 : IntKind.i64.wrap (q : Int) = (q : Int) := IntWalk.i64_in _ (by omega)
  clear hj
  obtain ⟨ob, hob⟩ : ∃ ob, os[jj]? = some ob := ⟨_, List.getElem?_eq_getElem (by omega)⟩
  have hmem := List.mem_of_getElem? hob
  have hrow : wa.ownsRow 0 3 1 (.slice OA os.length OC) (atsOf os).length (atsOf os) := HS.out.row 2 rfl
  obtain ⟨g, hOA, ha0⟩ : ∃ g, OA = some ⟨g, 0, none⟩ ∧ wa.cell? ⟨g, jj, none⟩ = some (.int .i64 (ob.at_ : Int)) := by
    rcases hrow.2 with ⟨hv, h0⟩ | ⟨g, cap, cur, hv, _⟩
    · rw [atsOf_length] at h0; omega
    · injection hv with e1 e2 e3
      refine ⟨g, e1, ?_⟩
      subst e1
      have := hrow.cells (g := g) rfl jj (.int .i64 (ob.at_ : Int)) (by simp [atsOf, hob])
      rwa [show (⟨g, 0, none⟩ : Addr).add jj = ⟨g, jj, none⟩ by unfold Addr.add; split <;> simp_all] at this
  subst hOA
  clear hrow
  have hcm := HL.out.fill.chain.mem hmem
  have hin := HL.out.fill.in_ HK.out (by decide) hmem
  have hu0 : ((u : Int) == 0) = false := by rw [beq_eq_false_iff_ne]; omega
  have hu1 : ((u : Int) = 0) = False := by rw [eq_iff_iff, iff_false]; omega
  have hu2 : decide ((u : Int) = 0) = false := by rw [decide_eq_false_iff_not]; omega
  have hcv : IntKind.u64.wrap (ob.at_ : Int) = (ob.at_ : Int) := by rw [IntKind.wrap_u64]; omega
  have hus := HL.out.fill.le
  have hfw := Kfg.from_words HK.out (a := 0) (by decide)
  obtain ⟨f, hf0⟩ : ∃ f, k.from_ 0 = f := ⟨_, rfl⟩
  have hR1 : 1 ≤ k.R := HK.out.r0
  have hl2 := HL.out.setRoot HK.out (i := 0) (q := k.act + 2) hR1 rfl (x := (ob.at_ : Int)) (.inr ⟨ob, hmem, .inl rfl⟩) ⟨by omega, by omega⟩
  have hc1 : checkP (t.store (k.act + 2) (ob.at_ : Int)) k 0 u = 0 := fill_whole hl2.fill (fun i hi => nameP_zero (hl2.roots i hi)) (fun o ho i hi => nameP_zero (hl2.names o ho i hi))
  have hl3 := (hl2.mono (Q := fun _ => True) (fun _ _ => trivial)).setRoot HK.out (i := 0) (q := k.act + 2) hR1 rfl (x := ((f + u : Nat) : Int)) trivial ⟨by omega, by omega⟩
  have hc2 : checkP ((t.store (k.act + 2) (ob.at_ : Int)).store (k.act + 2) ((f + u : Nat) : Int)) k 0 u = 9 := by
    refine checkP_root (fill_err hl3.fill) (i := 0) hR1 (Bool.eq_false_iff.2 fun h => ?_)
    rw [St.nw_store hl2.fill.use.is (show k.act + 2 + 0 < k.words by omega), if_pos rfl] at h
    rcases (fill_nm hl3.fill _).1 h with h | ⟨o, ho, h⟩
    · omega
    · have := HL.out.fill.chain.mem ho
      omega
  have HL2 := Lib.hid hl2
  have HL3 := Lib.hid hl3
  have HC1 := Lib.hid hc1
  have HC2 := Lib.hid hc2
  have HF0 := Lib.hid hf0
  obtain ⟨at_, hat⟩ : ∃ at_, ob.at_ = at_ := ⟨_, rfl⟩
  rw [hat] at hcv ha0 HL2 HL3 HC1 HC2
  have hfu : IntKind.i64.wrap ((f : Int) + (u : Int)) = ((f + u : Nat) : Int) := by rw [IntWalk.i64_in _ (by omega)]; omega
  have hfv : IntKind.u64.wrap ((f + u : Nat) : Int) = ((f + u : Nat) : Int) := by rw [IntKind.wrap_u64]; omega
  obtain ⟨z, hz⟩ : ∃ z, f + u = z := ⟨_, rfl⟩
  rw [hz] at hfu hfv HL3 HC2
  have HKR := Lib.hid (fun w => kroot_eq k w HK.out 0 (k.act + 2) (by decide) rfl)
  have HKF := Lib.hid (fun w => kfrom k w HK.out 0 (by decide))
  rw [hf0] at HKF
  simp only [Kfg.cells] at HKR HKF
  clear hus hfw hcm hin hl2 hl3 hc1 hc2 hf0 hz hob hmem hat
  have b1 := (HS.out.blk 5 rfl).cell 1
  simp at b1
  have c0 := (HS.out.blk 4 rfl).cell 0
  simp at c0
  have c1 := (HS.out.blk 4 rfl).cell 1
  simp at c1
  have c2 := (HS.out.blk 4 rfl).cell 2
  simp at c2
  go_wp2_with fail
  refine (HKR.out _).mono ?_
  rintro e1 wb ⟨rfl, hkk⟩
  replace HS := Lib.hid (HS.out.grow hkk)
  clear hkk c0 c1 c2 b1 ha0 hu0 hu1 hu2 hz1 hz2 hz3 hrem
  go_wp2_with fail
  refine (store_free d t (k.act + 2) (at_ : Int) _ (HS.out.dev 1 rfl) HL.out.fill.use.lim (by rw [HL.out.fill.use.is.now]; omega)).mono ?_
  rintro e1 wc ⟨rfl, hd, hkk⟩
  replace HS := Lib.hid (HS.out.did (i := 1) rfl hd hkk)
  clear hd hkk HL
  generalize t.store (k.act + 2) (at_ : Int) = t2 at *
  have c0 := (HS.out.blk 4 rfl).cell 0
  simp at c0
  have c1 := (HS.out.blk 4 rfl).cell 1
  simp at c1
  have c2 := (HS.out.blk 4 rfl).cell 2
  simp at c2
  go_wp2_with fail
  refine (heap_check d t2 k 0 u _ (HS.out.dev 1 rfl) HK.out HL2.out.fill.use.is.now HL2.out.fill.use.act HL2.out.fill.use.used (by decide) HL2.out.fill.le HL2.out.rng).mono ?_
  rintro e1 wd ⟨rfl, hs⟩
  rw [HC1.out]
  replace HS := Lib.hid (HS.out.grow hs.keep)
  clear hs c0 c1 c2 HC1
  go_upto_region 13 with fail
  refine wp_region_st3 (W := w) (S := []) (by kernel_rfl) (by kernel_rfl) (by kernel_rfl) (fun D uu => [blkR gx 24 #[.int .u16 l, .int .u16 r, .int .u16 s], devR d (bif D 9 then t2.store (k.act + 2) (z : Int) else t2), rowR 3 (.slice (some ⟨g, 0, none⟩) os.length OC) (atsOf os), rowR 26 (.slice RA RL RC) (uw rs), blkR gk 30 #[.int .i64 (k.L : Int), .int .i64 (k.R : Int), .int .i64 (k.S : Int)], blkR gb 33 #[.int .i64 0, .int .i64 (u : Int), .slice RA RL RC]])
    (fun j v => match j with
      | 0 => v = .pointer (some ⟨d.b, 0, none⟩)
      | 1 => v = .agg #[.int .i64 (k.L : Int), .int .i64 (k.R : Int), .int .i64 (k.S : Int)]
      | 2 => v = .int .i64 ((k.act + 2 : Nat) : Int)
      | 3 => v = .agg #[.int .i64 (k.L : Int), .int .i64 (k.R : Int), .int .i64 (k.S : Int)]
      | 4 => v = .int .i64 (f : Int)
      | 5 => v = .pointer (some ⟨gb, 1, none⟩)
      | 6 => v = .int .i64 (u : Int)
      | 7 => v = .int .i64 (z : Int)
      | 8 => v = .int .u64 (z : Int)
      | _ => True) ?start ?step ?fin
  case start => exact fun u => HS.out
  case step =>
    clear HS
    refine ⟨?_, ?_, ?_, ?_, ?_, ?_, ?_, ?_, ?_, ?_, trivial⟩
    · intro D uu w' K hD hF hl hS hK
      simp only [puts, Act.put, List.setIfInBounds_toArray, List.set_cons_succ, List.set_cons_zero, Nat.zero_add, Nat.reduceAdd]
      go_simp
      simp only [yUpon]
      exact hK _ _ rfl hS
    · intro D uu w' K hD hF hl hS hK
      simp only [puts, Act.put, List.setIfInBounds_toArray, List.set_cons_succ, List.set_cons_zero, Nat.zero_add, Nat.reduceAdd]
      have x0 := (hS.blk 4 rfl).cell 0
      have x1 := (hS.blk 4 rfl).cell 1
      have x2 := (hS.blk 4 rfl).cell 2
      simp at x0 x1 x2
      go_simp
      simp only [yUpon]
      exact hK _ _ rfl hS
    · intro D uu w' K hD hF hl hS hK
      have f1 := (hF 1 (by kernel_rfl)).2
      simp only at f1
      simp only [puts, Act.put, List.setIfInBounds_toArray, List.set_cons_succ, List.set_cons_zero, Nat.zero_add, Nat.reduceAdd]
      simp only [f1]
      go_simp
      simp only [yUpon]
      refine (HKR.out _).mono ?_
      rintro e w1 ⟨rfl, hkk⟩
      exact hK _ _ rfl (hS.grow hkk)
    · intro D uu w' K hD hF hl hS hK
      simp only [puts, Act.put, List.setIfInBounds_toArray, List.set_cons_succ, List.set_cons_zero, Nat.zero_add, Nat.reduceAdd]
      have x0 := (hS.blk 4 rfl).cell 0
      have x1 := (hS.blk 4 rfl).cell 1
      have x2 := (hS.blk 4 rfl).cell 2
      simp at x0 x1 x2
      go_simp
      simp only [yUpon]
      exact hK _ _ rfl hS
    · intro D uu w' K hD hF hl hS hK
      have f3 := (hF 3 (by kernel_rfl)).2
      simp only at f3
      simp only [puts, Act.put, List.setIfInBounds_toArray, List.set_cons_succ, List.set_cons_zero, Nat.zero_add, Nat.reduceAdd]
      simp only [f3]
      go_simp
      simp only [yUpon]
      refine (HKF.out _).mono ?_
      rintro e w1 ⟨rfl, hkk⟩
      exact hK _ _ rfl (hS.grow hkk)
    · intro D uu w' K hD hF hl hS hK
      simp only [puts, Act.put, List.setIfInBounds_toArray, List.set_cons_succ, List.set_cons_zero, Nat.zero_add, Nat.reduceAdd]
      go_simp
      simp only [yUpon]
      exact hK _ _ rfl hS
    · intro D uu w' K hD hF hl hS hK
      have f5 := (hF 5 (by kernel_rfl)).2
      simp only at f5
      simp only [puts, Act.put, List.setIfInBounds_toArray, List.set_cons_succ, List.set_cons_zero, Nat.zero_add, Nat.reduceAdd]
      simp only [f5]
      have x1 := (hS.blk 5 rfl).cell 1
      simp at x1
      go_simp
      simp only [yUpon]
      exact hK _ _ rfl hS
    · intro D uu w' K hD hF hl hS hK
      have f4 := (hF 4 (by kernel_rfl)).2
      simp only at f4
      have f6 := (hF 6 (by kernel_rfl)).2
      simp only at f6
      simp only [puts, Act.put, List.setIfInBounds_toArray, List.set_cons_succ, List.set_cons_zero, Nat.zero_add, Nat.reduceAdd]
      simp only [f4, f6]
      go_simp
      simp only [yUpon]
      exact hK _ _ rfl hS
    · intro D uu w' K hD hF hl hS hK
      have f7 := (hF 7 (by kernel_rfl)).2
      simp only at f7
      simp only [puts, Act.put, List.setIfInBounds_toArray, List.set_cons_succ, List.set_cons_zero, Nat.zero_add, Nat.reduceAdd]
      simp only [f7]
      go_simp
      simp only [yUpon]
      exact hK _ _ rfl hS
    · intro D uu w' K hD hF hl hS hK
      have f0 := (hF 0 (by kernel_rfl)).2
      simp only at f0
      have f2 := (hF 2 (by kernel_rfl)).2
      simp only at f2
      have f8 := (hF 8 (by kernel_rfl)).2
      simp only at f8
      simp only [puts, Act.put, List.setIfInBounds_toArray, List.set_cons_succ, List.set_cons_zero, Nat.zero_add, Nat.reduceAdd]
      simp only [f0, f2, f8]
      simp only [hD, cond_false] at hS
      have e1 : (fset D 9 true) 9 = true := rfl
      go_simp
      simp only [yUpon]
      refine (store_free d t2 (k.act + 2) (z : Int) _ (hS.dev 1 rfl) HL2.out.fill.use.lim (by rw [HL2.out.fill.use.is.now]; omega)).mono ?_
      rintro e w1 ⟨rfl, hd, hkk⟩
      refine hK _ _ trivial ?_
      simp only [e1, cond_true]
      exact hS.did (i := 1) rfl hd hkk
  case fin =>
    intro D uu wf hall hS
    have f9 := (hall 9 (by simp)).1
    have v0 := (hall 0 (by simp)).2
    have v1 := (hall 1 (by simp)).2
    have v2 := (hall 2 (by simp)).2
    have v3 := (hall 3 (by simp)).2
    have v4 := (hall 4 (by simp)).2
    have v5 := (hall 5 (by simp)).2
    have v6 := (hall 6 (by simp)).2
    have v7 := (hall 7 (by simp)).2
    have v8 := (hall 8 (by simp)).2
    simp only at v0 v1 v2 v3 v4 v5 v6 v7 v8
    simp only [f9, cond_true] at hS
    have HS := Lib.hid hS
    clear hall hS f9
    simp only [puts, Act.put, List.setIfInBounds_toArray, List.set_cons_succ, List.set_cons_zero, Nat.zero_add, Nat.reduceAdd]
    simp only [v0, v1, v2, v3, v4, v5, v6, v7, v8]
    clear v0 v1 v2 v3 v4 v5 v6 v7 v8
    clear HL2
    have c0 := (HS.out.blk 4 rfl).cell 0
    simp at c0
    have c1 := (HS.out.blk 4 rfl).cell 1
    simp at c1
    have c2 := (HS.out.blk 4 rfl).cell 2
    simp at c2
    go_wp2_with fail
    refine (heap_check d _ k 0 u _ (HS.out.dev 1 rfl) HK.out HL3.out.fill.use.is.now HL3.out.fill.use.act HL3.out.fill.use.used (by decide) HL3.out.fill.le HL3.out.rng).mono ?_
    rintro e1 wh ⟨rfl, hs⟩
    rw [HC2.out]
    replace HS := Lib.hid (HS.out.grow hs.keep)
    clear hs c0 c1 c2 HC2
    go_wp2
    go_ret
    exact ⟨rfl, HS.out.keep⟩

theorem CheckWhole.walk {v1 v2 : Value} {w : World} (l r s : Int) (h : (lowest .u16 ≤ l ∧ l ≤ greatest .u16) ∧ (lowest .u16 ≤ r ∧ r ≤ greatest .u16) ∧ (lowest .u16 ≤ s ∧ s ≤ greatest .u16)) (hl1 : List HV) (hm1 : RdH w v1 hl1) (ho1 : ∀ x ∈ hl1, x.Ok) (hn1 : hl1.length ≤ maxLen) (xs2 : List Int) (hr2 : Rd w v2 (xs2.map (Value.int .u16))) (hb2 : ∀ x ∈ xs2, lowest .u16 ≤ x ∧ x ≤ greatest .u16) (hn2 : xs2.length ≤ maxLen) (a3 : Int) (a30 : lowest .u8 ≤ a3) (a31 : a3 ≤ greatest .u8) :
    Calls Try.prog 7 #[.agg #[.int .u16 l, .int .u16 r, .int .u16 s], v1, v2, .int .u8 a3] w fun e w' => e = .returned (.bool true) ∧ Below w.heap.size w w' := by
  obtain ⟨⟨l0, l1⟩, ⟨r0, r1⟩, s0, s1⟩ := h
  have hb2' : ∀ x ∈ xs2, 0 ≤ x ∧ x ≤ 65535 := fun x hx => by have := hb2 x hx; simpa [lowest, greatest] using this
  simp [lowest, greatest] at l0 l1 r0 r1 s0 s1 a30 a31
  exact (CheckWhole.core l r s v1 hl1 v2 xs2 a3 w l0 l1 r0 r1 s0 s1 hm1 ho1 hn1 hr2 hb2' hn2 a30 a31).mono fun e w' ⟨he, hk⟩ => ⟨he, hk.below⟩
end Go.Proofs.Ythdiehcmjknhiaa
