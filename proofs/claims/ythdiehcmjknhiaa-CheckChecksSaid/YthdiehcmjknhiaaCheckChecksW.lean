/-
  CheckChecks: the walk.
-/
import Derived.Test.YthdiehcmjknhiaaCkL
set_option linter.unusedSimpArgs false
set_option linter.unusedVariables false
set_option maxRecDepth 100000
namespace Go.Proofs.Ythdiehcmjknhiaa
open Go.RowKit Go.Shelf

set_option maxRecDepth 100000 in
set_option maxHeartbeats 8000000 in
theorem CheckChecks.core (l r s : Int) (v1 : Value) (hl1 : List HV) (v2 : Value) (xs2 : List Int) (a3 : Int) (a4 : Int) (a5 : Int) (a6 : Bool) (a7 : Bool) (w : World) (l0 : 0 ≤ l) (l1 : l ≤ 65535) (r0 : 0 ≤ r) (r1 : r ≤ 65535) (s0 : 0 ≤ s) (s1 : s ≤ 65535) (hm1 : RdH w v1 hl1) (ho1 : ∀ x ∈ hl1, x.Ok) (hn1 : hl1.length ≤ maxLen) (hr2 : Rd w v2 (xs2.map (Value.int .u16))) (hb2 : ∀ x ∈ xs2, 0 ≤ x ∧ x ≤ 65535) (hn2 : xs2.length ≤ maxLen) (a30 : 0 ≤ a3) (a31 : a3 ≤ 255) (a40 : 0 ≤ a4) (a41 : a4 ≤ 65535) (a50 : 0 ≤ a5) (a51 : a5 ≤ 18446744073709551615) :
    Calls Try.prog 9 #[.agg #[.int .u16 l, .int .u16 r, .int .u16 s], v1, v2, .int .u8 a3, .int .u16 a4, .int .u64 a5, .bool a6, .bool a7] w fun e w' => e = .returned (.bool true) ∧ Keep w.heap.size [] w w' := by
  simp only [maxLen] at hn1 hn2
  obtain ⟨q4, rfl⟩ : ∃ q : Nat, a4 = (q : Int) := ⟨a4.toNat, by omega⟩
  obtain ⟨q5, rfl⟩ : ∃ q : Nat, a5 = (q : Int) := ⟨a5.toNat, by omega⟩
  have HS := Lib.hid ((Sep.start w []).new 24 #[.int .u16 l, .int .u16 r, .int .u16 s])
  obtain ⟨hk, hkL, hkR, hkS⟩ := kOf_ok (l := l) (r := r) (s := s) l0 r0 s0
  have hla := fun w hm hml hr hnl => linked_any l r s (a3) v1 v2 hl1 xs2 w l0 l1 r0 r1 s0 s1 hm ho1 hml hr hb2 hnl a30 a31
  have hpl := placed_length ((kOf l r s).from_ 0) (kOf l r s).S hl1 0
  generalize kOf l r s = k at *
  obtain ⟨os, hos⟩ : ∃ os, placed (k.from_ 0) k.S hl1 0 = os := ⟨_, rfl⟩
  obtain ⟨u, hu⟩ : ∃ u, usedOf k.S hl1 0 = u := ⟨_, rfl⟩
  simp only [hos, hu] at hla hpl
  have HLA := Lib.hid hla
  have HK := Lib.hid hk
  have HM := Lib.hid hm1
  have HRD := Lib.hid hr2
  have hS8 : 8 ≤ k.S := hk.s0
  have hw2 : k.words ≤ 10000 := (Kfg.words_le hk).2
  have hw1 : k.act + 2 + k.R ≤ k.words := (Kfg.words_le hk).1
  obtain ⟨HA, HC, hv1, hvv⟩ := hm1
  subst hv1
  obtain ⟨NA, NC, hv2, hvv2⟩ := hr2.cells
  subst hv2
  clear hla hk hos hu hvv hvv2 hr2
  by_cases hb1 : 25 < hl1.length
  · have hbI : (25 : Int) < hl1.length := by omega
    go_enter Try.func9, Try.ntmps9
    go_wp2_with fail
    generalize w.alloc _ = w2 at *
    refine (awake12_any _).mono ?_
    rintro e w1 ⟨rfl, hk⟩
    replace HS := Lib.hid (HS.out.grow hk)
    clear hk
    go_wp2
    go_ret
    exact ⟨rfl, HS.out.keep⟩
  have hx2 : ((25 : Int) < hl1.length) = False := by rw [eq_iff_iff, iff_false]; omega
  have hx3 : (25 < hl1.length) = False := by rw [eq_iff_iff, iff_false]; omega
  by_cases hb3 : 60 < xs2.length
  · have hbI : (60 : Int) < xs2.length := by omega
    go_enter Try.func9, Try.ntmps9
    go_wp2_with fail
    generalize w.alloc _ = w2 at *
    refine (awake12_any _).mono ?_
    rintro e w1 ⟨rfl, hk⟩
    replace HS := Lib.hid (HS.out.grow hk)
    clear hk
    go_wp2
    go_ret
    exact ⟨rfl, HS.out.keep⟩
  have hx4 : ((60 : Int) < xs2.length) = False := by rw [eq_iff_iff, iff_false]; omega
  have hx5 : (60 < xs2.length) = False := by rw [eq_iff_iff, iff_false]; omega
  go_enter Try.func9, Try.ntmps9
  go_wp2_with fail
  generalize w.alloc _ = w2 at *
  generalize w.heap.size = gx at *
  refine (awake12_any _).mono ?_
  rintro e w1 ⟨rfl, hk⟩
  replace HS := Lib.hid (HS.out.grow hk)
  clear hk
  have c0 := (HS.out.blk 0 rfl).cell 0
  simp at c0
  have c1 := (HS.out.blk 0 rfl).cell 1
  simp at c1
  have c2 := (HS.out.blk 0 rfl).cell 2
  simp at c2
  go_wp2_with fail
  refine (HLA.out _ (HM.out.keep HS.out.keep) (by omega) (HRD.out.keep HS.out.keep) (by omega)).mono ?_
  rintro e w3 ⟨d, t, rv, ov, rfl, hf, hS⟩
  obtain ⟨OA, OC, hov⟩ := rowR_val (hS.row 1 rfl)
  obtain ⟨RA, RC, hrv⟩ := rowR_val (hS.row 2 rfl)
  rw [atsOf_length] at hov
  obtain ⟨rs, hrs⟩ : ∃ rs, rootsOf t k k.R = rs := ⟨_, rfl⟩
  rw [hrs] at hrv hS
  obtain ⟨RL, hRL⟩ : ∃ RL, (uw rs).length = RL := ⟨_, rfl⟩
  rw [hRL] at hrv
  subst hov hrv
  have hadds := HS.out.adds hS
  replace HS := Lib.hid hadds
  have HL := Lib.hid hf
  simp only [Kfg.cells, rbC]
  clear hS hadds hf hrs hRL c0 c1 c2 HLA HM HRD
  go_upto_region 8 with fail
  replace HS := Lib.hid ((HS.out.new 30 #[.int .i64 (k.L : Int), .int .i64 (k.R : Int), .int .i64 (k.S : Int)]).new 33 #[.int .i64 0, .int .i64 (u : Int), .slice RA RL RC])
  simp only [World.size_alloc] at HS
  generalize (w3.alloc _).alloc _ = w4 at *
  generalize w3.heap.size = gk at *
  generalize gk + 1 = gb at *
  replace HS : Hid (Sep w [] [blkR gx 24 #[.int .u16 l, .int .u16 r, .int .u16 s], devR d (t), rowR 3 (.slice OA os.length OC) (atsOf os), rowR 26 (.slice RA RL RC) (uw rs), blkR gk 30 #[.int .i64 (k.L : Int), .int .i64 (k.R : Int), .int .i64 (k.S : Int)], blkR gb 33 #[.int .i64 0, .int .i64 (u : Int), .slice RA RL RC]] w4) := HS
  clear hx2 hx3 hx4 hx5
  have hI := HL.out.fill.use.is
  have hna : k.act + 2 + k.R ≤ k.words := hw1
  have hcases : ∃ m5 : Nat, m5 = q5 % (k.words + 3) := ⟨_, rfl⟩
  obtain ⟨m5, hm5⟩ := hcases
  have hm5l : m5 < k.words + 3 := by rw [hm5]; exact Nat.mod_lt _ (by omega)
  have hrem5 : ((q5 : Int)).tmod ((k.words : Int) + 3) = (m5 : Int) := by rw [show ((k.words : Int) + 3) = ((k.words + 3 : Nat) : Int) by omega, tmod_natN, hm5]
  have hz5 : ((k.words : Int) + 3 = 0) = False := by simp; omega
  have hz5' : (k.words + 3 = 0) = False := by simp
  have hw5 : IntKind.i64.wrap ((k.words : Int) + 3) = (k.words : Int) + 3 := IntWalk.i64_in _ (by omega)
  have hw6 : IntKind.u64.wrap ((k.words : Int) + 3) = (k.words : Int) + 3 := by rw [IntKind.wrap_u64]; omega
  obtain ⟨df, hdf⟩ : ∃ df, k.words - k.act = df := ⟨_, rfl⟩
  have hdf0 : 0 < df := by omega
  obtain ⟨m4, hm4⟩ : ∃ m4, q4 % df = m4 := ⟨_, rfl⟩
  have hm4l : m4 < df := by rw [← hm4]; exact Nat.mod_lt _ hdf0
  obtain ⟨rr, hrr⟩ : ∃ rr, k.act + m4 = rr := ⟨_, rfl⟩
  have hrem4 : ((q4 : Int)).tmod (df : Int) = (m4 : Int) := by rw [tmod_natN, hm4]
  have hz4 : ((df : Int) = 0) = False := by simp; omega
  have hz4' : (df = 0) = False := by simp; omega
  have hz4b : ((df : Int) == 0) = false := by simp; omega
  have hw7 : IntKind.i64.wrap ((k.words : Int) - (k.act : Int)) = (df : Int) := by rw [IntWalk.i64_in _ (by omega)]; omega
  have hw8 : IntKind.i64.wrap ((k.act : Int) + (m4 : Int)) = (rr : Int) := by rw [IntWalk.i64_in _ (by omega)]; omega
  have hq4w : IntKind.i64.wrap (q4 : Int) = (q4 : Int) := IntWalk.i64_in _ (by omega)
  have hrrl : rr < k.words := by omega
  have HKA := Lib.hid (fun w => kactive k w HK.out)
  have HKW := Lib.hid (fun w => kwords k w HK.out)
  simp only [Kfg.cells] at HKA HKW
  have HI := Lib.hid hI
  have HLIM := Lib.hid HL.out.fill.use.lim
  have HRG := Lib.hid HL.out.rng
  clear hI hm5 hm4 hrr HL
  cases a7 with
  | false =>
    cases a6 with
    | false =>
      go_upto_region 12 with fail
      have HIT := Lib.hid HI.out.now
      have HRT := Lib.hid HRG.out
      obtain ⟨Z, hz1, hz2⟩ := both_checks d t k HK.out HIT.out HRT.out
      have HZ1 := Lib.hid hz1
      have HZ2 := Lib.hid hz2
      clear hz1 hz2
      refine wp_region_st3 (W := w) (S := []) (by kernel_rfl) (by kernel_rfl) (by kernel_rfl) (fun D uu => [blkR gx 24 #[.int .u16 l, .int .u16 r, .int .u16 s], devR d (t), rowR 3 (.slice OA os.length OC) (atsOf os), rowR 26 (.slice RA RL RC) (uw rs), blkR gk 30 #[.int .i64 (k.L : Int), .int .i64 (k.R : Int), .int .i64 (k.S : Int)], blkR gb 33 #[.int .i64 0, .int .i64 (u : Int), .slice RA RL RC]])
        (fun j v => match j with
          | 0 => v = .pointer (some ⟨d.b, 0, none⟩)
          | 1 => v = .agg #[.int .i64 (k.L : Int), .int .i64 (k.R : Int), .int .i64 (k.S : Int)]
          | 2 => v = .int .i64 Z
          | 3 => v = .pointer (some ⟨d.b, 0, none⟩)
          | 4 => v = .agg #[.int .i64 (k.L : Int), .int .i64 (k.R : Int), .int .i64 (k.S : Int)]
          | 5 => v = .int .i64 Z
          | 6 => v = .bool true
          | 7 => v = .bool true
          | _ => True) ?start ?step ?fin
      case start => exact fun u => HS.out
      case step =>
        clear HS
        refine ⟨?_, ?_, ?_, ?_, ?_, ?_, ?_, ?_, trivial⟩
        · intro D uu w' K hD hF hl hS hK
          simp only [puts, Act.put, List.setIfInBounds_toArray, List.set_cons_succ, List.set_cons_zero, Nat.zero_add, Nat.reduceAdd]
          go_simp
          simp only [yUpon]
          exact hK _ _ rfl hS
        · intro D uu w' K hD hF hl hS hK
          simp only [puts, Act.put, List.setIfInBounds_toArray, List.set_cons_succ, List.set_cons_zero, Nat.zero_add, Nat.reduceAdd]
          have x0 := (hS.blk 4 rfl).cell 0
          have x1 := (hS.blk 4 rfl).cell 1
          have x2 := (hS.blk 4 rfl).cell 2
          simp at x0 x1 x2
          go_simp
          simp only [yUpon]
          exact hK _ _ rfl hS
        · intro D uu w' K hD hF hl hS hK
          have f0 := (hF 0 (by kernel_rfl)).2
          simp only at f0
          have f1 := (hF 1 (by kernel_rfl)).2
          simp only at f1
          simp only [puts, Act.put, List.setIfInBounds_toArray, List.set_cons_succ, List.set_cons_zero, Nat.zero_add, Nat.reduceAdd]
          simp only [f0, f1]
          go_simp
          simp only [yUpon]
          refine (HZ1.out _ (hS.dev 1 rfl)).mono ?_
          rintro e w1 ⟨rfl, hs⟩
          exact hK _ _ rfl (hS.grow hs.keep)
        · intro D uu w' K hD hF hl hS hK
          simp only [puts, Act.put, List.setIfInBounds_toArray, List.set_cons_succ, List.set_cons_zero, Nat.zero_add, Nat.reduceAdd]
          go_simp
          simp only [yUpon]
          exact hK _ _ rfl hS
        · intro D uu w' K hD hF hl hS hK
          simp only [puts, Act.put, List.setIfInBounds_toArray, List.set_cons_succ, List.set_cons_zero, Nat.zero_add, Nat.reduceAdd]
          have x0 := (hS.blk 4 rfl).cell 0
          have x1 := (hS.blk 4 rfl).cell 1
          have x2 := (hS.blk 4 rfl).cell 2
          simp at x0 x1 x2
          go_simp
          simp only [yUpon]
          exact hK _ _ rfl hS
        · intro D uu w' K hD hF hl hS hK
          have f3 := (hF 3 (by kernel_rfl)).2
          simp only at f3
          have f4 := (hF 4 (by kernel_rfl)).2
          simp only at f4
          simp only [puts, Act.put, List.setIfInBounds_toArray, List.set_cons_succ, List.set_cons_zero, Nat.zero_add, Nat.reduceAdd]
          simp only [f3, f4]
          go_simp
          simp only [yUpon]
          refine (HZ2.out _ (hS.dev 1 rfl)).mono ?_
          rintro e w1 ⟨rfl, hs⟩
          exact hK _ _ rfl (hS.grow hs.keep)
        · intro D uu w' K hD hF hl hS hK
          have f2 := (hF 2 (by kernel_rfl)).2
          simp only at f2
          have f5 := (hF 5 (by kernel_rfl)).2
          simp only at f5
          simp only [puts, Act.put, List.setIfInBounds_toArray, List.set_cons_succ, List.set_cons_zero, Nat.zero_add, Nat.reduceAdd]
          simp only [f2, f5]
          go_simp
          simp only [yUpon]
          exact hK _ _ rfl hS
        · intro D uu w' K hD hF hl hS hK
          have f6 := (hF 6 (by kernel_rfl)).2
          simp only at f6
          simp only [puts, Act.put, List.setIfInBounds_toArray, List.set_cons_succ, List.set_cons_zero, Nat.zero_add, Nat.reduceAdd]
          simp only [f6]
          go_simp
          simp only [yUpon]
          exact hK _ _ rfl hS
      case fin =>
        clear HS
        intro D uu wf hall hS
        have v7 := (hall 7 (by simp)).2
        simp only at v7
        have HS := Lib.hid hS
        clear hall hS
        simp only [puts, Act.put, List.setIfInBounds_toArray, List.set_cons_succ, List.set_cons_zero, Nat.zero_add, Nat.reduceAdd]
        simp only [v7]
        clear v7
        go_wp2
        go_ret
        exact ⟨rfl, HS.out.keep⟩
    | true =>
      go_upto_region 11 with fail
      refine wp_region_st3 (W := w) (S := []) (by kernel_rfl) (by kernel_rfl) (by kernel_rfl) (fun D uu => [blkR gx 24 #[.int .u16 l, .int .u16 r, .int .u16 s], devR d (bif D 13 then t.store rr (q5 : Int) else t), rowR 3 (.slice OA os.length OC) (atsOf os), rowR 26 (.slice RA RL RC) (uw rs), blkR gk 30 #[.int .i64 (k.L : Int), .int .i64 (k.R : Int), .int .i64 (k.S : Int)], blkR gb 33 #[.int .i64 0, .int .i64 (u : Int), .slice RA RL RC]])
        (fun j v => match j with
          | 0 => v = .pointer (some ⟨d.b, 0, none⟩)
          | 1 => v = .agg #[.int .i64 (k.L : Int), .int .i64 (k.R : Int), .int .i64 (k.S : Int)]
          | 2 => v = .int .i64 (k.act : Int)
          | 3 => v = .int .u16 (q4 : Int)
          | 4 => v = .int .i64 (q4 : Int)
          | 5 => v = .agg #[.int .i64 (k.L : Int), .int .i64 (k.R : Int), .int .i64 (k.S : Int)]
          | 6 => v = .int .i64 (k.words : Int)
          | 7 => v = .agg #[.int .i64 (k.L : Int), .int .i64 (k.R : Int), .int .i64 (k.S : Int)]
          | 8 => v = .int .i64 (k.act : Int)
          | 9 => v = .int .i64 (df : Int)
          | 10 => v = .int .i64 (m4 : Int)
          | 11 => v = .int .i64 (rr : Int)
          | 12 => v = .int .u64 (q5 : Int)
          | _ => True) ?start ?step ?fin
      case start => exact fun u => HS.out
      case step =>
        clear HS
        refine ⟨?_, ?_, ?_, ?_, ?_, ?_, ?_, ?_, ?_, ?_, ?_, ?_, ?_, ?_, trivial⟩
        · intro D uu w' K hD hF hl hS hK
          simp only [puts, Act.put, List.setIfInBounds_toArray, List.set_cons_succ, List.set_cons_zero, Nat.zero_add, Nat.reduceAdd]
          go_simp
          simp only [yUpon]
          exact hK _ _ rfl hS
        · intro D uu w' K hD hF hl hS hK
          simp only [puts, Act.put, List.setIfInBounds_toArray, List.set_cons_succ, List.set_cons_zero, Nat.zero_add, Nat.reduceAdd]
          have x0 := (hS.blk 4 rfl).cell 0
          have x1 := (hS.blk 4 rfl).cell 1
          have x2 := (hS.blk 4 rfl).cell 2
          simp at x0 x1 x2
          go_simp
          simp only [yUpon]
          exact hK _ _ rfl hS
        · intro D uu w' K hD hF hl hS hK
          have f1 := (hF 1 (by kernel_rfl)).2
          simp only at f1
          simp only [puts, Act.put, List.setIfInBounds_toArray, List.set_cons_succ, List.set_cons_zero, Nat.zero_add, Nat.reduceAdd]
          simp only [f1]
          go_simp
          simp only [yUpon]
          refine (HKA.out _).mono ?_
          rintro e w1 ⟨rfl, hkk⟩
          exact hK _ _ rfl (hS.grow hkk)
        · intro D uu w' K hD hF hl hS hK
          simp only [puts, Act.put, List.setIfInBounds_toArray, List.set_cons_succ, List.set_cons_zero, Nat.zero_add, Nat.reduceAdd]
          go_simp
          simp only [yUpon]
          exact hK _ _ rfl hS
        · intro D uu w' K hD hF hl hS hK
          have f3 := (hF 3 (by kernel_rfl)).2
          simp only at f3
          simp only [puts, Act.put, List.setIfInBounds_toArray, List.set_cons_succ, List.set_cons_zero, Nat.zero_add, Nat.reduceAdd]
          simp only [f3]
          go_simp
          simp only [yUpon]
          exact hK _ _ rfl hS
        · intro D uu w' K hD hF hl hS hK
          simp only [puts, Act.put, List.setIfInBounds_toArray, List.set_cons_succ, List.set_cons_zero, Nat.zero_add, Nat.reduceAdd]
          have x0 := (hS.blk 4 rfl).cell 0
          have x1 := (hS.blk 4 rfl).cell 1
          have x2 := (hS.blk 4 rfl).cell 2
          simp at x0 x1 x2
          go_simp
          simp only [yUpon]
          exact hK _ _ rfl hS
        · intro D uu w' K hD hF hl hS hK
          have f5 := (hF 5 (by kernel_rfl)).2
          simp only at f5
          simp only [puts, Act.put, List.setIfInBounds_toArray, List.set_cons_succ, List.set_cons_zero, Nat.zero_add, Nat.reduceAdd]
          simp only [f5]
          go_simp
          simp only [yUpon]
          refine (HKW.out _).mono ?_
          rintro e w1 ⟨rfl, hkk⟩
          exact hK _ _ rfl (hS.grow hkk)
        · intro D uu w' K hD hF hl hS hK
          simp only [puts, Act.put, List.setIfInBounds_toArray, List.set_cons_succ, List.set_cons_zero, Nat.zero_add, Nat.reduceAdd]
          have x0 := (hS.blk 4 rfl).cell 0
          have x1 := (hS.blk 4 rfl).cell 1
          have x2 := (hS.blk 4 rfl).cell 2
          simp at x0 x1 x2
          go_simp
          simp only [yUpon]
          exact hK _ _ rfl hS
        · intro D uu w' K hD hF hl hS hK
          have f7 := (hF 7 (by kernel_rfl)).2
          simp only at f7
          simp only [puts, Act.put, List.setIfInBounds_toArray, List.set_cons_succ, List.set_cons_zero, Nat.zero_add, Nat.reduceAdd]
          simp only [f7]
          go_simp
          simp only [yUpon]
          refine (HKA.out _).mono ?_
          rintro e w1 ⟨rfl, hkk⟩
          exact hK _ _ rfl (hS.grow hkk)
        · intro D uu w' K hD hF hl hS hK
          have f6 := (hF 6 (by kernel_rfl)).2
          simp only at f6
          have f8 := (hF 8 (by kernel_rfl)).2
          simp only at f8
          simp only [puts, Act.put, List.setIfInBounds_toArray, List.set_cons_succ, List.set_cons_zero, Nat.zero_add, Nat.reduceAdd]
          simp only [f6, f8]
          go_simp
          simp only [yUpon]
          exact hK _ _ rfl hS
        · intro D uu w' K hD hF hl hS hK
          have f4 := (hF 4 (by kernel_rfl)).2
          simp only at f4
          have f9 := (hF 9 (by kernel_rfl)).2
          simp only at f9
          simp only [puts, Act.put, List.setIfInBounds_toArray, List.set_cons_succ, List.set_cons_zero, Nat.zero_add, Nat.reduceAdd]
          simp only [f4, f9]
          go_simp
          simp only [yUpon]
          exact hK _ _ rfl hS
        · intro D uu w' K hD hF hl hS hK
          have f2 := (hF 2 (by kernel_rfl)).2
          simp only at f2
          have f10 := (hF 10 (by kernel_rfl)).2
          simp only at f10
          simp only [puts, Act.put, List.setIfInBounds_toArray, List.set_cons_succ, List.set_cons_zero, Nat.zero_add, Nat.reduceAdd]
          simp only [f2, f10]
          go_simp
          simp only [yUpon]
          exact hK _ _ rfl hS
        · intro D uu w' K hD hF hl hS hK
          simp only [puts, Act.put, List.setIfInBounds_toArray, List.set_cons_succ, List.set_cons_zero, Nat.zero_add, Nat.reduceAdd]
          go_simp
          simp only [yUpon]
          exact hK _ _ rfl hS
        · intro D uu w' K hD hF hl hS hK
          have f0 := (hF 0 (by kernel_rfl)).2
          simp only at f0
          have f11 := (hF 11 (by kernel_rfl)).2
          simp only at f11
          have f12 := (hF 12 (by kernel_rfl)).2
          simp only at f12
          simp only [puts, Act.put, List.setIfInBounds_toArray, List.set_cons_succ, List.set_cons_zero, Nat.zero_add, Nat.reduceAdd]
          simp only [f0, f11, f12]
          simp only [hD, cond_false] at hS
          have e1 : (fset D 13 true) 13 = true := rfl
          go_simp
          simp only [yUpon]
          refine (store_free d t rr (q5 : Int) _ (hS.dev 1 rfl) HLIM.out (by rw [HI.out.now]; exact hrrl)).mono ?_
          rintro e w1 ⟨rfl, hd, hkk⟩
          refine hK _ _ trivial ?_
          simp only [e1, cond_true]
          exact hS.did (i := 1) rfl hd hkk
      case fin =>
        clear HS
        intro D uu wf hall hS
        have f13 := (hall 13 (by simp)).1
        simp only [f13, cond_true] at hS
        have HS := Lib.hid hS
        clear hall hS f13
        simp only [puts, Act.put, List.setIfInBounds_toArray, List.set_cons_succ, List.set_cons_zero, Nat.zero_add, Nat.reduceAdd]
        go_upto_region 12 with fail
        have HIT := Lib.hid (HI.out.store rr (q5 : Int)).now
        have HRT := Lib.hid (HRG.out.store (k := rr) (v := (q5 : Int)) ⟨by omega, by omega⟩)
        generalize t.store rr (q5 : Int) = t2 at *
        obtain ⟨Z, hz1, hz2⟩ := both_checks d t2 k HK.out HIT.out HRT.out
        have HZ1 := Lib.hid hz1
        have HZ2 := Lib.hid hz2
        clear hz1 hz2
        refine wp_region_st3 (W := w) (S := []) (by kernel_rfl) (by kernel_rfl) (by kernel_rfl) (fun D uu => [blkR gx 24 #[.int .u16 l, .int .u16 r, .int .u16 s], devR d (t2), rowR 3 (.slice OA os.length OC) (atsOf os), rowR 26 (.slice RA RL RC) (uw rs), blkR gk 30 #[.int .i64 (k.L : Int), .int .i64 (k.R : Int), .int .i64 (k.S : Int)], blkR gb 33 #[.int .i64 0, .int .i64 (u : Int), .slice RA RL RC]])
          (fun j v => match j with
            | 0 => v = .pointer (some ⟨d.b, 0, none⟩)
            | 1 => v = .agg #[.int .i64 (k.L : Int), .int .i64 (k.R : Int), .int .i64 (k.S : Int)]
            | 2 => v = .int .i64 Z
            | 3 => v = .pointer (some ⟨d.b, 0, none⟩)
            | 4 => v = .agg #[.int .i64 (k.L : Int), .int .i64 (k.R : Int), .int .i64 (k.S : Int)]
            | 5 => v = .int .i64 Z
            | 6 => v = .bool true
            | 7 => v = .bool true
            | _ => True) ?start ?step ?fin
        case start => exact fun u => HS.out
        case step =>
          clear HS
          refine ⟨?_, ?_, ?_, ?_, ?_, ?_, ?_, ?_, trivial⟩
          · intro D uu w' K hD hF hl hS hK
            simp only [puts, Act.put, List.setIfInBounds_toArray, List.set_cons_succ, List.set_cons_zero, Nat.zero_add, Nat.reduceAdd]
            go_simp
            simp only [yUpon]
            exact hK _ _ rfl hS
          · intro D uu w' K hD hF hl hS hK
            simp only [puts, Act.put, List.setIfInBounds_toArray, List.set_cons_succ, List.set_cons_zero, Nat.zero_add, Nat.reduceAdd]
            have x0 := (hS.blk 4 rfl).cell 0
            have x1 := (hS.blk 4 rfl).cell 1
            have x2 := (hS.blk 4 rfl).cell 2
            simp at x0 x1 x2
            go_simp
            simp only [yUpon]
            exact hK _ _ rfl hS
          · intro D uu w' K hD hF hl hS hK
            have f0 := (hF 0 (by kernel_rfl)).2
            simp only at f0
            have f1 := (hF 1 (by kernel_rfl)).2
            simp only at f1
            simp only [puts, Act.put, List.setIfInBounds_toArray, List.set_cons_succ, List.set_cons_zero, Nat.zero_add, Nat.reduceAdd]
            simp only [f0, f1]
            go_simp
            simp only [yUpon]
            refine (HZ1.out _ (hS.dev 1 rfl)).mono ?_
            rintro e w1 ⟨rfl, hs⟩
            exact hK _ _ rfl (hS.grow hs.keep)
          · intro D uu w' K hD hF hl hS hK
            simp only [puts, Act.put, List.setIfInBounds_toArray, List.set_cons_succ, List.set_cons_zero, Nat.zero_add, Nat.reduceAdd]
            go_simp
            simp only [yUpon]
            exact hK _ _ rfl hS
          · intro D uu w' K hD hF hl hS hK
            simp only [puts, Act.put, List.setIfInBounds_toArray, List.set_cons_succ, List.set_cons_zero, Nat.zero_add, Nat.reduceAdd]
            have x0 := (hS.blk 4 rfl).cell 0
            have x1 := (hS.blk 4 rfl).cell 1
            have x2 := (hS.blk 4 rfl).cell 2
            simp at x0 x1 x2
            go_simp
            simp only [yUpon]
            exact hK _ _ rfl hS
          · intro D uu w' K hD hF hl hS hK
            have f3 := (hF 3 (by kernel_rfl)).2
            simp only at f3
            have f4 := (hF 4 (by kernel_rfl)).2
            simp only at f4
            simp only [puts, Act.put, List.setIfInBounds_toArray, List.set_cons_succ, List.set_cons_zero, Nat.zero_add, Nat.reduceAdd]
            simp only [f3, f4]
            go_simp
            simp only [yUpon]
            refine (HZ2.out _ (hS.dev 1 rfl)).mono ?_
            rintro e w1 ⟨rfl, hs⟩
            exact hK _ _ rfl (hS.grow hs.keep)
          · intro D uu w' K hD hF hl hS hK
            have f2 := (hF 2 (by kernel_rfl)).2
            simp only at f2
            have f5 := (hF 5 (by kernel_rfl)).2
            simp only at f5
            simp only [puts, Act.put, List.setIfInBounds_toArray, List.set_cons_succ, List.set_cons_zero, Nat.zero_add, Nat.reduceAdd]
            simp only [f2, f5]
            go_simp
            simp only [yUpon]
            exact hK _ _ rfl hS
          · intro D uu w' K hD hF hl hS hK
            have f6 := (hF 6 (by kernel_rfl)).2
            simp only at f6
            simp only [puts, Act.put, List.setIfInBounds_toArray, List.set_cons_succ, List.set_cons_zero, Nat.zero_add, Nat.reduceAdd]
            simp only [f6]
            go_simp
            simp only [yUpon]
            exact hK _ _ rfl hS
        case fin =>
          clear HS
          intro D uu wf hall hS
          have v7 := (hall 7 (by simp)).2
          simp only at v7
          have HS := Lib.hid hS
          clear hall hS
          simp only [puts, Act.put, List.setIfInBounds_toArray, List.set_cons_succ, List.set_cons_zero, Nat.zero_add, Nat.reduceAdd]
          simp only [v7]
          clear v7
          go_wp2
          go_ret
          exact ⟨rfl, HS.out.keep⟩
  | true =>
    have c0 := (HS.out.blk 4 rfl).cell 0
    simp at c0
    have c1 := (HS.out.blk 4 rfl).cell 1
    simp at c1
    have c2 := (HS.out.blk 4 rfl).cell 2
    simp at c2
    go_wp2_with fail
    refine (HKW.out _).mono ?_
    rintro e9 w5 ⟨rfl, hkk⟩
    replace HS := Lib.hid (HS.out.grow hkk)
    clear hkk c0 c1 c2
    cases a6 with
    | false =>
      go_upto_region 12 with fail
      have HIT := Lib.hid HI.out.now
      have HRT := Lib.hid HRG.out
      obtain ⟨Z, hz1, hz2⟩ := both_checks d t k HK.out HIT.out HRT.out
      have HZ1 := Lib.hid hz1
      have HZ2 := Lib.hid hz2
      clear hz1 hz2
      refine wp_region_st3 (W := w) (S := []) (by kernel_rfl) (by kernel_rfl) (by kernel_rfl) (fun D uu => [blkR gx 24 #[.int .u16 l, .int .u16 r, .int .u16 s], devR d (t), rowR 3 (.slice OA os.length OC) (atsOf os), rowR 26 (.slice RA RL RC) (uw rs), blkR gk 30 #[.int .i64 (k.L : Int), .int .i64 (k.R : Int), .int .i64 (k.S : Int)], blkR gb 33 #[.int .i64 0, .int .i64 (u : Int), .slice RA RL RC]])
        (fun j v => match j with
          | 0 => v = .pointer (some ⟨d.b, 0, none⟩)
          | 1 => v = .agg #[.int .i64 (k.L : Int), .int .i64 (k.R : Int), .int .i64 (k.S : Int)]
          | 2 => v = .int .i64 Z
          | 3 => v = .pointer (some ⟨d.b, 0, none⟩)
          | 4 => v = .agg #[.int .i64 (k.L : Int), .int .i64 (k.R : Int), .int .i64 (k.S : Int)]
          | 5 => v = .int .i64 Z
          | 6 => v = .bool true
          | 7 => v = .bool true
          | _ => True) ?start ?step ?fin
      case start => exact fun u => HS.out
      case step =>
        clear HS
        refine ⟨?_, ?_, ?_, ?_, ?_, ?_, ?_, ?_, trivial⟩
        · intro D uu w' K hD hF hl hS hK
          simp only [puts, Act.put, List.setIfInBounds_toArray, List.set_cons_succ, List.set_cons_zero, Nat.zero_add, Nat.reduceAdd]
          go_simp
          simp only [yUpon]
          exact hK _ _ rfl hS
        · intro D uu w' K hD hF hl hS hK
          simp only [puts, Act.put, List.setIfInBounds_toArray, List.set_cons_succ, List.set_cons_zero, Nat.zero_add, Nat.reduceAdd]
          have x0 := (hS.blk 4 rfl).cell 0
          have x1 := (hS.blk 4 rfl).cell 1
          have x2 := (hS.blk 4 rfl).cell 2
          simp at x0 x1 x2
          go_simp
          simp only [yUpon]
          exact hK _ _ rfl hS
        · intro D uu w' K hD hF hl hS hK
          have f0 := (hF 0 (by kernel_rfl)).2
          simp only at f0
          have f1 := (hF 1 (by kernel_rfl)).2
          simp only at f1
          simp only [puts, Act.put, List.setIfInBounds_toArray, List.set_cons_succ, List.set_cons_zero, Nat.zero_add, Nat.reduceAdd]
          simp only [f0, f1]
          go_simp
          simp only [yUpon]
          refine (HZ1.out _ (hS.dev 1 rfl)).mono ?_
          rintro e w1 ⟨rfl, hs⟩
          exact hK _ _ rfl (hS.grow hs.keep)
        · intro D uu w' K hD hF hl hS hK
          simp only [puts, Act.put, List.setIfInBounds_toArray, List.set_cons_succ, List.set_cons_zero, Nat.zero_add, Nat.reduceAdd]
          go_simp
          simp only [yUpon]
          exact hK _ _ rfl hS
        · intro D uu w' K hD hF hl hS hK
          simp only [puts, Act.put, List.setIfInBounds_toArray, List.set_cons_succ, List.set_cons_zero, Nat.zero_add, Nat.reduceAdd]
          have x0 := (hS.blk 4 rfl).cell 0
          have x1 := (hS.blk 4 rfl).cell 1
          have x2 := (hS.blk 4 rfl).cell 2
          simp at x0 x1 x2
          go_simp
          simp only [yUpon]
          exact hK _ _ rfl hS
        · intro D uu w' K hD hF hl hS hK
          have f3 := (hF 3 (by kernel_rfl)).2
          simp only at f3
          have f4 := (hF 4 (by kernel_rfl)).2
          simp only at f4
          simp only [puts, Act.put, List.setIfInBounds_toArray, List.set_cons_succ, List.set_cons_zero, Nat.zero_add, Nat.reduceAdd]
          simp only [f3, f4]
          go_simp
          simp only [yUpon]
          refine (HZ2.out _ (hS.dev 1 rfl)).mono ?_
          rintro e w1 ⟨rfl, hs⟩
          exact hK _ _ rfl (hS.grow hs.keep)
        · intro D uu w' K hD hF hl hS hK
          have f2 := (hF 2 (by kernel_rfl)).2
          simp only at f2
          have f5 := (hF 5 (by kernel_rfl)).2
          simp only at f5
          simp only [puts, Act.put, List.setIfInBounds_toArray, List.set_cons_succ, List.set_cons_zero, Nat.zero_add, Nat.reduceAdd]
          simp only [f2, f5]
          go_simp
          simp only [yUpon]
          exact hK _ _ rfl hS
        · intro D uu w' K hD hF hl hS hK
          have f6 := (hF 6 (by kernel_rfl)).2
          simp only at f6
          simp only [puts, Act.put, List.setIfInBounds_toArray, List.set_cons_succ, List.set_cons_zero, Nat.zero_add, Nat.reduceAdd]
          simp only [f6]
          go_simp
          simp only [yUpon]
          exact hK _ _ rfl hS
      case fin =>
        clear HS
        intro D uu wf hall hS
        have v7 := (hall 7 (by simp)).2
        simp only at v7
        have HS := Lib.hid hS
        clear hall hS
        simp only [puts, Act.put, List.setIfInBounds_toArray, List.set_cons_succ, List.set_cons_zero, Nat.zero_add, Nat.reduceAdd]
        simp only [v7]
        clear v7
        go_wp2
        go_ret
        exact ⟨rfl, HS.out.keep⟩
    | true =>
      go_upto_region 11 with fail
      refine wp_region_st3 (W := w) (S := []) (by kernel_rfl) (by kernel_rfl) (by kernel_rfl) (fun D uu => [blkR gx 24 #[.int .u16 l, .int .u16 r, .int .u16 s], devR d (bif D 13 then t.store rr (m5 : Int) else t), rowR 3 (.slice OA os.length OC) (atsOf os), rowR 26 (.slice RA RL RC) (uw rs), blkR gk 30 #[.int .i64 (k.L : Int), .int .i64 (k.R : Int), .int .i64 (k.S : Int)], blkR gb 33 #[.int .i64 0, .int .i64 (u : Int), .slice RA RL RC]])
        (fun j v => match j with
          | 0 => v = .pointer (some ⟨d.b, 0, none⟩)
          | 1 => v = .agg #[.int .i64 (k.L : Int), .int .i64 (k.R : Int), .int .i64 (k.S : Int)]
          | 2 => v = .int .i64 (k.act : Int)
          | 3 => v = .int .u16 (q4 : Int)
          | 4 => v = .int .i64 (q4 : Int)
          | 5 => v = .agg #[.int .i64 (k.L : Int), .int .i64 (k.R : Int), .int .i64 (k.S : Int)]
          | 6 => v = .int .i64 (k.words : Int)
          | 7 => v = .agg #[.int .i64 (k.L : Int), .int .i64 (k.R : Int), .int .i64 (k.S : Int)]
          | 8 => v = .int .i64 (k.act : Int)
          | 9 => v = .int .i64 (df : Int)
          | 10 => v = .int .i64 (m4 : Int)
          | 11 => v = .int .i64 (rr : Int)
          | 12 => v = .int .u64 (m5 : Int)
          | _ => True) ?start ?step ?fin
      case start => exact fun u => HS.out
      case step =>
        clear HS
        refine ⟨?_, ?_, ?_, ?_, ?_, ?_, ?_, ?_, ?_, ?_, ?_, ?_, ?_, ?_, trivial⟩
        · intro D uu w' K hD hF hl hS hK
          simp only [puts, Act.put, List.setIfInBounds_toArray, List.set_cons_succ, List.set_cons_zero, Nat.zero_add, Nat.reduceAdd]
          go_simp
          simp only [yUpon]
          exact hK _ _ rfl hS
        · intro D uu w' K hD hF hl hS hK
          simp only [puts, Act.put, List.setIfInBounds_toArray, List.set_cons_succ, List.set_cons_zero, Nat.zero_add, Nat.reduceAdd]
          have x0 := (hS.blk 4 rfl).cell 0
          have x1 := (hS.blk 4 rfl).cell 1
          have x2 := (hS.blk 4 rfl).cell 2
          simp at x0 x1 x2
          go_simp
          simp only [yUpon]
          exact hK _ _ rfl hS
        · intro D uu w' K hD hF hl hS hK
          have f1 := (hF 1 (by kernel_rfl)).2
          simp only at f1
          simp only [puts, Act.put, List.setIfInBounds_toArray, List.set_cons_succ, List.set_cons_zero, Nat.zero_add, Nat.reduceAdd]
          simp only [f1]
          go_simp
          simp only [yUpon]
          refine (HKA.out _).mono ?_
          rintro e w1 ⟨rfl, hkk⟩
          exact hK _ _ rfl (hS.grow hkk)
        · intro D uu w' K hD hF hl hS hK
          simp only [puts, Act.put, List.setIfInBounds_toArray, List.set_cons_succ, List.set_cons_zero, Nat.zero_add, Nat.reduceAdd]
          go_simp
          simp only [yUpon]
          exact hK _ _ rfl hS
        · intro D uu w' K hD hF hl hS hK
          have f3 := (hF 3 (by kernel_rfl)).2
          simp only at f3
          simp only [puts, Act.put, List.setIfInBounds_toArray, List.set_cons_succ, List.set_cons_zero, Nat.zero_add, Nat.reduceAdd]
          simp only [f3]
          go_simp
          simp only [yUpon]
          exact hK _ _ rfl hS
        · intro D uu w' K hD hF hl hS hK
          simp only [puts, Act.put, List.setIfInBounds_toArray, List.set_cons_succ, List.set_cons_zero, Nat.zero_add, Nat.reduceAdd]
          have x0 := (hS.blk 4 rfl).cell 0
          have x1 := (hS.blk 4 rfl).cell 1
          have x2 := (hS.blk 4 rfl).cell 2
          simp at x0 x1 x2
          go_simp
          simp only [yUpon]
          exact hK _ _ rfl hS
        · intro D uu w' K hD hF hl hS hK
          have f5 := (hF 5 (by kernel_rfl)).2
          simp only at f5
          simp only [puts, Act.put, List.setIfInBounds_toArray, List.set_cons_succ, List.set_cons_zero, Nat.zero_add, Nat.reduceAdd]
          simp only [f5]
          go_simp
          simp only [yUpon]
          refine (HKW.out _).mono ?_
          rintro e w1 ⟨rfl, hkk⟩
          exact hK _ _ rfl (hS.grow hkk)
        · intro D uu w' K hD hF hl hS hK
          simp only [puts, Act.put, List.setIfInBounds_toArray, List.set_cons_succ, List.set_cons_zero, Nat.zero_add, Nat.reduceAdd]
          have x0 := (hS.blk 4 rfl).cell 0
          have x1 := (hS.blk 4 rfl).cell 1
          have x2 := (hS.blk 4 rfl).cell 2
          simp at x0 x1 x2
          go_simp
          simp only [yUpon]
          exact hK _ _ rfl hS
        · intro D uu w' K hD hF hl hS hK
          have f7 := (hF 7 (by kernel_rfl)).2
          simp only at f7
          simp only [puts, Act.put, List.setIfInBounds_toArray, List.set_cons_succ, List.set_cons_zero, Nat.zero_add, Nat.reduceAdd]
          simp only [f7]
          go_simp
          simp only [yUpon]
          refine (HKA.out _).mono ?_
          rintro e w1 ⟨rfl, hkk⟩
          exact hK _ _ rfl (hS.grow hkk)
        · intro D uu w' K hD hF hl hS hK
          have f6 := (hF 6 (by kernel_rfl)).2
          simp only at f6
          have f8 := (hF 8 (by kernel_rfl)).2
          simp only at f8
          simp only [puts, Act.put, List.setIfInBounds_toArray, List.set_cons_succ, List.set_cons_zero, Nat.zero_add, Nat.reduceAdd]
          simp only [f6, f8]
          go_simp
          simp only [yUpon]
          exact hK _ _ rfl hS
        · intro D uu w' K hD hF hl hS hK
          have f4 := (hF 4 (by kernel_rfl)).2
          simp only at f4
          have f9 := (hF 9 (by kernel_rfl)).2
          simp only at f9
          simp only [puts, Act.put, List.setIfInBounds_toArray, List.set_cons_succ, List.set_cons_zero, Nat.zero_add, Nat.reduceAdd]
          simp only [f4, f9]
          go_simp
          simp only [yUpon]
          exact hK _ _ rfl hS
        · intro D uu w' K hD hF hl hS hK
          have f2 := (hF 2 (by kernel_rfl)).2
          simp only at f2
          have f10 := (hF 10 (by kernel_rfl)).2
          simp only at f10
          simp only [puts, Act.put, List.setIfInBounds_toArray, List.set_cons_succ, List.set_cons_zero, Nat.zero_add, Nat.reduceAdd]
          simp only [f2, f10]
          go_simp
          simp only [yUpon]
          exact hK _ _ rfl hS
        · intro D uu w' K hD hF hl hS hK
          simp only [puts, Act.put, List.setIfInBounds_toArray, List.set_cons_succ, List.set_cons_zero, Nat.zero_add, Nat.reduceAdd]
          go_simp
          simp only [yUpon]
          exact hK _ _ rfl hS
        · intro D uu w' K hD hF hl hS hK
          have f0 := (hF 0 (by kernel_rfl)).2
          simp only at f0
          have f11 := (hF 11 (by kernel_rfl)).2
          simp only at f11
          have f12 := (hF 12 (by kernel_rfl)).2
          simp only at f12
          simp only [puts, Act.put, List.setIfInBounds_toArray, List.set_cons_succ, List.set_cons_zero, Nat.zero_add, Nat.reduceAdd]
          simp only [f0, f11, f12]
          simp only [hD, cond_false] at hS
          have e1 : (fset D 13 true) 13 = true := rfl
          go_simp
          simp only [yUpon]
          refine (store_free d t rr (m5 : Int) _ (hS.dev 1 rfl) HLIM.out (by rw [HI.out.now]; exact hrrl)).mono ?_
          rintro e w1 ⟨rfl, hd, hkk⟩
          refine hK _ _ trivial ?_
          simp only [e1, cond_true]
          exact hS.did (i := 1) rfl hd hkk
      case fin =>
        clear HS
        intro D uu wf hall hS
        have f13 := (hall 13 (by simp)).1
        simp only [f13, cond_true] at hS
        have HS := Lib.hid hS
        clear hall hS f13
        simp only [puts, Act.put, List.setIfInBounds_toArray, List.set_cons_succ, List.set_cons_zero, Nat.zero_add, Nat.reduceAdd]
        go_upto_region 12 with fail
        have HIT := Lib.hid (HI.out.store rr (m5 : Int)).now
        have HRT := Lib.hid (HRG.out.store (k := rr) (v := (m5 : Int)) ⟨by omega, by omega⟩)
        generalize t.store rr (m5 : Int) = t2 at *
        obtain ⟨Z, hz1, hz2⟩ := both_checks d t2 k HK.out HIT.out HRT.out
        have HZ1 := Lib.hid hz1
        have HZ2 := Lib.hid hz2
        clear hz1 hz2
        refine wp_region_st3 (W := w) (S := []) (by kernel_rfl) (by kernel_rfl) (by kernel_rfl) (fun D uu => [blkR gx 24 #[.int .u16 l, .int .u16 r, .int .u16 s], devR d (t2), rowR 3 (.slice OA os.length OC) (atsOf os), rowR 26 (.slice RA RL RC) (uw rs), blkR gk 30 #[.int .i64 (k.L : Int), .int .i64 (k.R : Int), .int .i64 (k.S : Int)], blkR gb 33 #[.int .i64 0, .int .i64 (u : Int), .slice RA RL RC]])
          (fun j v => match j with
            | 0 => v = .pointer (some ⟨d.b, 0, none⟩)
            | 1 => v = .agg #[.int .i64 (k.L : Int), .int .i64 (k.R : Int), .int .i64 (k.S : Int)]
            | 2 => v = .int .i64 Z
            | 3 => v = .pointer (some ⟨d.b, 0, none⟩)
            | 4 => v = .agg #[.int .i64 (k.L : Int), .int .i64 (k.R : Int), .int .i64 (k.S : Int)]
            | 5 => v = .int .i64 Z
            | 6 => v = .bool true
            | 7 => v = .bool true
            | _ => True) ?start ?step ?fin
        case start => exact fun u => HS.out
        case step =>
          clear HS
          refine ⟨?_, ?_, ?_, ?_, ?_, ?_, ?_, ?_, trivial⟩
          · intro D uu w' K hD hF hl hS hK
            simp only [puts, Act.put, List.setIfInBounds_toArray, List.set_cons_succ, List.set_cons_zero, Nat.zero_add, Nat.reduceAdd]
            go_simp
            simp only [yUpon]
            exact hK _ _ rfl hS
          · intro D uu w' K hD hF hl hS hK
            simp only [puts, Act.put, List.setIfInBounds_toArray, List.set_cons_succ, List.set_cons_zero, Nat.zero_add, Nat.reduceAdd]
            have x0 := (hS.blk 4 rfl).cell 0
            have x1 := (hS.blk 4 rfl).cell 1
            have x2 := (hS.blk 4 rfl).cell 2
            simp at x0 x1 x2
            go_simp
            simp only [yUpon]
            exact hK _ _ rfl hS
          · intro D uu w' K hD hF hl hS hK
            have f0 := (hF 0 (by kernel_rfl)).2
            simp only at f0
            have f1 := (hF 1 (by kernel_rfl)).2
            simp only at f1
            simp only [puts, Act.put, List.setIfInBounds_toArray, List.set_cons_succ, List.set_cons_zero, Nat.zero_add, Nat.reduceAdd]
            simp only [f0, f1]
            go_simp
            simp only [yUpon]
            refine (HZ1.out _ (hS.dev 1 rfl)).mono ?_
            rintro e w1 ⟨rfl, hs⟩
            exact hK _ _ rfl (hS.grow hs.keep)
          · intro D uu w' K hD hF hl hS hK
            simp only [puts, Act.put, List.setIfInBounds_toArray, List.set_cons_succ, List.set_cons_zero, Nat.zero_add, Nat.reduceAdd]
            go_simp
            simp only [yUpon]
            exact hK _ _ rfl hS
          · intro D uu w' K hD hF hl hS hK
            simp only [puts, Act.put, List.setIfInBounds_toArray, List.set_cons_succ, List.set_cons_zero, Nat.zero_add, Nat.reduceAdd]
            have x0 := (hS.blk 4 rfl).cell 0
            have x1 := (hS.blk 4 rfl).cell 1
            have x2 := (hS.blk 4 rfl).cell 2
            simp at x0 x1 x2
            go_simp
            simp only [yUpon]
            exact hK _ _ rfl hS
          · intro D uu w' K hD hF hl hS hK
            have f3 := (hF 3 (by kernel_rfl)).2
            simp only at f3
            have f4 := (hF 4 (by kernel_rfl)).2
            simp only at f4
            simp only [puts, Act.put, List.setIfInBounds_toArray, List.set_cons_succ, List.set_cons_zero, Nat.zero_add, Nat.reduceAdd]
            simp only [f3, f4]
            go_simp
            simp only [yUpon]
            refine (HZ2.out _ (hS.dev 1 rfl)).mono ?_
            rintro e w1 ⟨rfl, hs⟩
            exact hK _ _ rfl (hS.grow hs.keep)
          · intro D uu w' K hD hF hl hS hK
            have f2 := (hF 2 (by kernel_rfl)).2
            simp only at f2
            have f5 := (hF 5 (by kernel_rfl)).2
            simp only at f5
            simp only [puts, Act.put, List.setIfInBounds_toArray, List.set_cons_succ, List.set_cons_zero, Nat.zero_add, Nat.reduceAdd]
            simp only [f2, f5]
            go_simp
            simp only [yUpon]
            exact hK _ _ rfl hS
          · intro D uu w' K hD hF hl hS hK
            have f6 := (hF 6 (by kernel_rfl)).2
            simp only at f6
            simp only [puts, Act.put, List.setIfInBounds_toArray, List.set_cons_succ, List.set_cons_zero, Nat.zero_add, Nat.reduceAdd]
            simp only [f6]
            go_simp
            simp only [yUpon]
            exact hK _ _ rfl hS
        case fin =>
          clear HS
          intro D uu wf hall hS
          have v7 := (hall 7 (by simp)).2
          simp only at v7
          have HS := Lib.hid hS
          clear hall hS
          simp only [puts, Act.put, List.setIfInBounds_toArray, List.set_cons_succ, List.set_cons_zero, Nat.zero_add, Nat.reduceAdd]
          simp only [v7]
          clear v7
          go_wp2
          go_ret
          exact ⟨rfl, HS.out.keep⟩

theorem CheckChecks.walk {v1 v2 : Value} {w : World} (l r s : Int) (h : (lowest .u16 ≤ l ∧ l ≤ greatest .u16) ∧ (lowest .u16 ≤ r ∧ r ≤ greatest .u16) ∧ (lowest .u16 ≤ s ∧ s ≤ greatest .u16)) (hl1 : List HV) (hm1 : RdH w v1 hl1) (ho1 : ∀ x ∈ hl1, x.Ok) (hn1 : hl1.length ≤ maxLen) (xs2 : List Int) (hr2 : Rd w v2 (xs2.map (Value.int .u16))) (hb2 : ∀ x ∈ xs2, lowest .u16 ≤ x ∧ x ≤ greatest .u16) (hn2 : xs2.length ≤ maxLen) (a3 : Int) (a30 : lowest .u8 ≤ a3) (a31 : a3 ≤ greatest .u8) (a4 : Int) (a40 : lowest .u16 ≤ a4) (a41 : a4 ≤ greatest .u16) (a5 : Int) (a50 : lowest .u64 ≤ a5) (a51 : a5 ≤ greatest .u64) (a6 : Bool) (a7 : Bool) :
    Calls Try.prog 9 #[.agg #[.int .u16 l, .int .u16 r, .int .u16 s], v1, v2, .int .u8 a3, .int .u16 a4, .int .u64 a5, .bool a6, .bool a7] w fun e w' => e = .returned (.bool true) ∧ Below w.heap.size w w' := by
  obtain ⟨⟨l0, l1⟩, ⟨r0, r1⟩, s0, s1⟩ := h
  have hb2' : ∀ x ∈ xs2, 0 ≤ x ∧ x ≤ 65535 := fun x hx => by have := hb2 x hx; simpa [lowest, greatest] using this
  simp [lowest, greatest] at l0 l1 r0 r1 s0 s1 a30 a31 a40 a41 a50 a51
  exact (CheckChecks.core l r s v1 hl1 v2 xs2 a3 a4 a5 a6 a7 w l0 l1 r0 r1 s0 s1 hm1 ho1 hn1 hr2 hb2' hn2 a30 a31 a40 a41 a50 a51).mono fun e w' ⟨he, hk⟩ => ⟨he, hk.below⟩
end Go.Proofs.Ythdiehcmjknhiaa
