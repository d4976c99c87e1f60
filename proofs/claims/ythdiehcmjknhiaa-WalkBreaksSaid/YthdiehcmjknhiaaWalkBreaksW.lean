/-
  WalkBreaks: the walk.
-/
import Derived.Test.YthdiehcmjknhiaaAwk11
import Derived.Test.YthdiehcmjknhiaaLoopF
import Derived.Test.YthdiehcmjknhiaaRelIn
import Derived.Sort.CutIn
set_option linter.unusedSimpArgs false
set_option linter.unusedVariables false
set_option maxRecDepth 100000
namespace Go.Proofs.Ythdiehcmjknhiaa
open Go.RowKit Go.Shelf

attribute [local go_sem] Oper.semAt_some

set_option maxRecDepth 100000 in
set_option maxHeartbeats 8000000 in
theorem WalkBreaks.core (l r s : Int) (v1 : Value) (hl1 : List HV) (a2 : Int) (w : World) (l0 : 0 ≤ l) (l1 : l ≤ 65535) (r0 : 0 ≤ r) (r1 : r ≤ 65535) (s0 : 0 ≤ s) (s1 : s ≤ 65535) (hm1 : RdH w v1 hl1) (ho1 : ∀ x ∈ hl1, x.Ok) (hn1 : hl1.length ≤ maxLen) (a20 : 0 ≤ a2) (a21 : a2 ≤ 255) :
    Calls Try.prog 4 #[.agg #[.int .u16 l, .int .u16 r, .int .u16 s], v1, .int .u8 a2] w fun e w' => e = .returned (.bool true) ∧ Keep w.heap.size [] w w' := by
  simp only [maxLen] at hn1
  obtain ⟨q, rfl⟩ : ∃ q : Nat, a2 = (q : Int) := ⟨a2.toNat, by omega⟩
  have HS := Lib.hid ((((Sep.start w []).new 24 #[.int .u16 l, .int .u16 r, .int .u16 s]).new 5 #[.int .u8 (q : Int)]).new 4 #[.bool false])
  simp only [World.size_alloc] at HS
  obtain ⟨hk, hkL, hkR, hkS⟩ := kOf_ok (l := l) (r := r) (s := s) l0 r0 s0
  have hfa := fun w hm hml => filled_any l r s v1 hl1 w l0 l1 r0 r1 s0 s1 hm ho1 hml
  have hpl := placed_length ((kOf l r s).from_ 0) (kOf l r s).S hl1 0
  generalize kOf l r s = k at *
  obtain ⟨os, hos⟩ : ∃ os, placed (k.from_ 0) k.S hl1 0 = os := ⟨_, rfl⟩
  obtain ⟨u, hu⟩ : ∃ u, usedOf k.S hl1 0 = u := ⟨_, rfl⟩
  simp only [hos, hu] at hfa hpl
  have HFA := Lib.hid hfa
  have HK := Lib.hid hk
  have HM := Lib.hid hm1
  have hS8 : 8 ≤ k.S := hk.s0
  have hw2 : k.words ≤ 10000 := (Kfg.words_le hk).2
  have hw1 : k.act + 2 + k.R ≤ k.words := (Kfg.words_le hk).1
  clear hfa hk hos hu
  obtain ⟨HA, HC, hv1, hvv⟩ := hm1
  subst hv1
  clear hvv
  refine Calls.mono (R := fun e w' => e = .returned (.bool true) ∧ Sep w [] [] w') ?_ fun e w' h => ⟨h.1, h.2.keep⟩
  refine calls_of_wpFr Try.func4 rfl ?_
  simp only [Try.ntmps4, List.size_toArray, List.length_cons, List.length_nil, Nat.reduceAdd, Nat.reduceSub, Array.replicate_succ,
     Array.replicate_zero, List.push_toArray, List.append_toArray, List.nil_append, List.cons_append]
  refine wpFr_seq (wpFr_of_wp ?_)
  go_wp2
  generalize ((w.alloc _).alloc _).alloc _ = w2 at *
  generalize w.heap.size = gx at *
  generalize gx + 1 = gs at *
  generalize gs + 1 = gr at *
  refine wpFr_seq (wpFr_of_wp ?_)
  go_wp2_with fail
  refine (awake11_any _).mono ?_
  rintro e w1 ⟨rfl, hk⟩
  replace HS := Lib.hid (HS.out.grow hk)
  clear hk
  go_wp2
  refine wpFr_seq (wpFr_of_wp ?_)
  by_cases hb1 : 30 < hl1.length
  · have hbI : (30 : Int) < hl1.length := by omega
    have r0 := (HS.out.blk 2 rfl).cell 0
    simp at r0
    have z2 := (HS.out.blk 2 rfl).frozen 0
    have hs2 := HS.out.put (i := 2) rfl 0 (.bool true)
    have HS2 := Lib.hid hs2
    clear hs2
    go_wp2
    have ld := loadVar_one (P := Try.prog) (ty := 4) (a := ⟨gr, 0, none⟩) (v := .bool true) (d := .bool) (by kernel_rfl) rfl (by rw [(HS2.out.blk 2 rfl).cell 0]; rfl)
    exact leave_none (results_c (fn := Try.f4) (p := 6) (ty := 4) (a1 := ⟨gr, 0, none⟩) rfl _ _ _ rfl ld) ⟨rfl, HS2.out.take 0⟩
  have hx2 : ((30 : Int) < hl1.length) = False := by rw [eq_iff_iff, iff_false]; omega
  have hx3 : (30 < hl1.length) = False := by rw [eq_iff_iff, iff_false]; omega
  go_wp2
  clear hx2 hx3
  refine wpFr_seq (wpFr_of_wp ?_)
  have c0 := (HS.out.blk 0 rfl).cell 0
  simp at c0
  have c1 := (HS.out.blk 0 rfl).cell 1
  simp at c1
  have c2 := (HS.out.blk 0 rfl).cell 2
  simp at c2
  go_wp2_with fail
  refine (HFA.out _ (HM.out.keep HS.out.keep) (by omega)).mono ?_
  rintro e w3 ⟨d, t, rv, ov, rfl, hf, hb, hS⟩
  obtain ⟨OA, OC, hov⟩ := rowR_val (hS.row 1 rfl)
  obtain ⟨RA, RC, hrv⟩ := rowR_val (hS.row 2 rfl)
  rw [atsOf_length] at hov
  obtain ⟨rs, hrs⟩ : ∃ rs, rootsOf t k k.R = rs := ⟨_, rfl⟩
  rw [hrs] at hrv hS
  obtain ⟨RL, hRL⟩ : ∃ RL, (uw rs).length = RL := ⟨_, rfl⟩
  rw [hRL] at hrv
  subst hov hrv
  have hadds := HS.out.adds hS
  replace HS := Lib.hid hadds
  have HF := Lib.hid hf
  have HB := Lib.hid hb
  simp only [Kfg.cells, rbC]
  clear hS hadds hf hb hrs hRL c0 c1 c2 HFA HM
  go_wp2
  replace HS := Lib.hid (((HS.out.new 30 #[.int .i64 (k.L : Int), .int .i64 (k.R : Int), .int .i64 (k.S : Int)]).new 33 #[.int .i64 0, .int .i64 (u : Int), .slice RA RL RC]).new 34 #[.slice OA os.length OC])
  simp only [World.size_alloc] at HS
  generalize ((w3.alloc _).alloc _).alloc _ = w4 at *
  generalize w3.heap.size = gk at *
  generalize gk + 1 = gb at *
  generalize gb + 1 = gp at *
  refine wpFr_seq (wpFr_of_wp ?_)
  go_wp2
  refine wpFr_seq (wpFr_of_wp ?_)
  have c0 := (HS.out.blk 6 rfl).cell 0
  simp at c0
  have c1 := (HS.out.blk 6 rfl).cell 1
  simp at c1
  have c2 := (HS.out.blk 6 rfl).cell 2
  simp at c2
  have b0 := (HS.out.blk 7 rfl).cell 0
  simp at b0
  have b1 := (HS.out.blk 7 rfl).cell 1
  simp at b1
  have b2 := (HS.out.blk 7 rfl).cell 2
  simp at b2
  go_wp2_with fail
  refine (objects_any _ _ _ _ _ _ _ _ ⟨_, rfl⟩ ⟨_, _, _, rfl, rfl, rfl⟩ ⟨_, _, _, _, _, rfl, rfl, rfl⟩).mono ?_
  rintro e1 w5 ⟨rfl, rfl⟩
  replace HS := Lib.hid (((HS.out.new 28 #[.pointer (some ⟨d.b, 0, none⟩)]).new 30 #[.int .i64 (k.L : Int), .int .i64 (k.R : Int), .int .i64 (k.S : Int)]).new 33 #[.int .i64 0, .int .i64 (u : Int), .slice RA RL RC])
  simp only [World.size_alloc] at HS
  generalize ((w4.alloc _).alloc _).alloc _ = w5 at *
  generalize w4.heap.size = g1 at *
  generalize g1 + 1 = g2 at *
  generalize g2 + 1 = g3 at *
  clear c0 c1 c2 b0 b1 b2
  go_wp2
  obtain ⟨f, hf0⟩ : ∃ f, k.from_ 0 = f := ⟨_, rfl⟩
  have hsq := fun gb gk gd => objs_seq d t k 0 u (f + u) f gb gk gd RA RL RC HK.out (by decide) HF.out.le hf0 rfl HB.out.rng
  have hscn := HF.out.scan
  rw [hf0] at hscn
  rw [hscn] at hsq
  have HSQ := Lib.hid hsq
  have hosl : os.length ≤ 1000 := by omega
  obtain ⟨Z, hZ⟩ : ∃ Z, q % 20 = Z := ⟨_, rfl⟩
  have hrow : ∀ m (ob : Ob), os[m]? = some ob → ∀ (wz : World) (hrow : wz.ownsRow 0 3 1 (.slice OA os.length OC) (atsOf os).length (atsOf os)), ∃ g, OA = some ⟨g, 0, none⟩ ∧ wz.cell? ⟨g, m, none⟩ = some (.int .i64 (ob.at_ : Int)) := fun m ob hob wz hrow => by
    have hml := (List.getElem?_eq_some_iff.1 hob).1
    rcases hrow.2 with ⟨hv, h0⟩ | ⟨g, cap, cur, hv, _⟩
    · rw [atsOf_length] at h0; omega
    · injection hv with e1 e2 e3
      refine ⟨g, e1, ?_⟩
      subst e1
      have := hrow.cells (g := g) rfl m (.int .i64 (ob.at_ : Int)) (by simp [atsOf, hob])
      rwa [show (⟨g, 0, none⟩ : Addr).add m = ⟨g, m, none⟩ by unfold Addr.add; split <;> simp_all] at this
  have HROW := Lib.hid hrow
  obtain ⟨Z1, hZ1⟩ : ∃ Z1, Z + 1 = Z1 := ⟨_, rfl⟩
  have hZp : 0 < Z1 := by omega
  have hZl : Z1 ≤ 20 := by omega
  have hrem : ((q : Int)).tmod 20 = (Z : Int) := by rw [show (20 : Int) = ((20 : Nat) : Int) from rfl, tmod_natN, hZ]
  have hz1 : IntKind.i64.wrap (Z : Int) = (Z : Int) := IntWalk.i64_in _ (by omega)
  have hz2 : IntKind.i64.wrap (1 + (Z : Int)) = (Z1 : Int) := by rw [IntWalk.i64_in _ (by omega)]; omega
  clear hf0 hsq hscn hrow hZ hZ1
  refine wpFr_seq (wpFr_seq (wpFr_of_wp ?_))
  go_wp2
  refine wpFr_block (wpFr_loopN 3 ?_)
  refine (show wpFr _ _ _ (Exit.then (loopN _ _ _ _ 2) _) _ _ from ?_)
  refine wpFr_seq (wpFr_of_wp ?_)
  go_wp2
  refine wpFr_seq (wpFr_of_wp ?_)
  go_wp2
  refine wpFr_seq (wpFr_block (wpFr_seq (wpFr_of_wp ?_)))
  go_wp2
  replace HS := Lib.hid (HS.out.new 3 #[.int .i64 ((0 : Nat) : Int)])
  generalize w5.alloc _ = w5' at *
  generalize w5.heap.size = gn0 at *
  replace HS : Hid (Sep w [] [blkR gx 24 #[.int .u16 l, .int .u16 r, .int .u16 s], blkR gs 5 #[.int .u8 (q : Int)], blkR gr 4 #[.bool false], devR d t, rowR 3 (.slice OA os.length OC) (atsOf os), rowR 26 (.slice RA RL RC) (uw rs), blkR gk 30 #[.int .i64 (k.L : Int), .int .i64 (k.R : Int), .int .i64 (k.S : Int)], blkR gb 33 #[.int .i64 0, .int .i64 (u : Int), .slice RA RL RC], blkR gp 34 #[.slice OA os.length OC], blkR g1 28 #[.pointer (some ⟨d.b, 0, none⟩)], blkR g2 30 #[.int .i64 (k.L : Int), .int .i64 (k.R : Int), .int .i64 (k.S : Int)], blkR g3 33 #[.int .i64 0, .int .i64 (u : Int), .slice RA RL RC], blkR gn0 3 #[.int .i64 (((0) : Nat) : Int)]] w5') := HS
  refine wpFr_seq (wpFr_seq (wpFr_of_wp ?_))
  go_wp2
  refine wpFr_rangeB HS.out rfl (enters_of Try.func58 (by kernel_rfl) rfl) (HSQ.out g3 g2 g1) (fun _ => rfl)
    (fun m L => L = [blkR gx 24 #[.int .u16 l, .int .u16 r, .int .u16 s], blkR gs 5 #[.int .u8 (q : Int)], blkR gr 4 #[.bool false], devR d t, rowR 3 (.slice OA os.length OC) (atsOf os), rowR 26 (.slice RA RL RC) (uw rs), blkR gk 30 #[.int .i64 (k.L : Int), .int .i64 (k.R : Int), .int .i64 (k.S : Int)], blkR gb 33 #[.int .i64 0, .int .i64 (u : Int), .slice RA RL RC], blkR gp 34 #[.slice OA os.length OC], blkR g1 28 #[.pointer (some ⟨d.b, 0, none⟩)], blkR g2 30 #[.int .i64 (k.L : Int), .int .i64 (k.R : Int), .int .i64 (k.S : Int)], blkR g3 33 #[.int .i64 0, .int .i64 (u : Int), .slice RA RL RC], blkR gn0 3 #[.int .i64 (((m) : Nat) : Int)]] ∧ m < Z1) (fun L => L = [blkR gx 24 #[.int .u16 l, .int .u16 r, .int .u16 s], blkR gs 5 #[.int .u8 (q : Int)], blkR gr 4 #[.bool false], devR d t, rowR 3 (.slice OA os.length OC) (atsOf os), rowR 26 (.slice RA RL RC) (uw rs), blkR gk 30 #[.int .i64 (k.L : Int), .int .i64 (k.R : Int), .int .i64 (k.S : Int)], blkR gb 33 #[.int .i64 0, .int .i64 (u : Int), .slice RA RL RC], blkR gp 34 #[.slice OA os.length OC], blkR g1 28 #[.pointer (some ⟨d.b, 0, none⟩)], blkR g2 30 #[.int .i64 (k.L : Int), .int .i64 (k.R : Int), .int .i64 (k.S : Int)], blkR g3 33 #[.int .i64 0, .int .i64 (u : Int), .slice RA RL RC], blkR gn0 3 #[.int .i64 (((Z1) : Nat) : Int)]] ∧ Z1 ≤ os.length) (fun L => L = [blkR gx 24 #[.int .u16 l, .int .u16 r, .int .u16 s], blkR gs 5 #[.int .u8 (q : Int)], blkR gr 4 #[.bool false], devR d t, rowR 3 (.slice OA os.length OC) (atsOf os), rowR 26 (.slice RA RL RC) (uw rs), blkR gk 30 #[.int .i64 (k.L : Int), .int .i64 (k.R : Int), .int .i64 (k.S : Int)], blkR gb 33 #[.int .i64 0, .int .i64 (u : Int), .slice RA RL RC], blkR gp 34 #[.slice OA os.length OC], blkR g1 28 #[.pointer (some ⟨d.b, 0, none⟩)], blkR g2 30 #[.int .i64 (k.L : Int), .int .i64 (k.R : Int), .int .i64 (k.S : Int)], blkR g3 33 #[.int .i64 0, .int .i64 (u : Int), .slice RA RL RC], blkR gn0 3 #[.int .i64 (((min os.length Z1) : Nat) : Int)]])
    ⟨rfl, hZp⟩ (fun L h => by rw [h.1, show min os.length Z1 = os.length by have := h.2; rw [List.length_map] at this; omega, List.length_map]) (fun L h => by rw [h.1, show min os.length Z1 = Z1 by have := h.2; omega]) ?_ ?_ ?_
  · rintro m L X W' hm ⟨rfl, _⟩ hs
    exact ⟨hs.blk 11 rfl, hs.blk 10 rfl, hs.blk 9 rfl, hs.dev 3 rfl⟩
  · rintro l9 m L X r1 r2 W' hm ⟨rfl, hmz⟩ hs
    rw [List.length_map] at hm
    obtain ⟨ob, hob⟩ : ∃ ob, os[m]? = some ob := ⟨_, List.getElem?_eq_getElem hm⟩
    have hgd : (os.map (fun o => (⟨o.at_, o.n, o.b, 0⟩ : It))).getD m It0 = ⟨ob.at_, ob.n, ob.b, 0⟩ := by rw [List.getD_eq_getElem?_getD, List.getElem?_map, hob]; rfl
    rw [hgd]
    have hrc := HROW.out m ob hob
    have HRC := Lib.hid hrc
    clear hgd HS hob hrc
    obtain ⟨at_, mm, bb⟩ := ob
    simp only [itV, obV]
    gi_wp2
    refine ⟨[blkR gx 24 #[.int .u16 l, .int .u16 r, .int .u16 s], blkR gs 5 #[.int .u8 (q : Int)], blkR gr 4 #[.bool false], devR d t, rowR 3 (.slice OA os.length OC) (atsOf os), rowR 26 (.slice RA RL RC) (uw rs), blkR gk 30 #[.int .i64 (k.L : Int), .int .i64 (k.R : Int), .int .i64 (k.S : Int)], blkR gb 33 #[.int .i64 0, .int .i64 (u : Int), .slice RA RL RC], blkR gp 34 #[.slice OA os.length OC], blkR g1 28 #[.pointer (some ⟨d.b, 0, none⟩)], blkR g2 30 #[.int .i64 (k.L : Int), .int .i64 (k.R : Int), .int .i64 (k.S : Int)], blkR g3 33 #[.int .i64 0, .int .i64 (u : Int), .slice RA RL RC], blkR gn0 3 #[.int .i64 (((m) : Nat) : Int)]] ++ [blkR W'.heap.size 44 #[.int .i64 (mm : Int), .int .i64 (bb : Int), .int .i64 (at_ : Int)]], Sep.bring _ _ (hs.new 44 #[.int .i64 (mm : Int), .int .i64 (bb : Int), .int .i64 (at_ : Int)]), ?_⟩
    clear hs
    generalize W'.heap.size = go at *
    rintro q2 W2 hs
    have HS := Lib.hid hs
    clear hs
    obtain ⟨g, hOA, hcell⟩ := HRC.out W2 (HS.out.row 4 rfl)
    subst hOA
    have hltI : (m : Int) < (os.length : Int) := by omega
    have hge : decide ((m : Int) ≥ (os.length : Int)) = false := by rw [decide_eq_false_iff_not]; omega
    have hge2 : decide (os.length ≤ m) = false := by rw [decide_eq_false_iff_not]; omega
    gi_upto_region 15 with fail
    refine wpIn_region_st3 (W := w) (S := []) (by kernel_rfl) (by kernel_rfl) (by kernel_rfl) (by kernel_rfl) (fun D uu => ([blkR gx 24 #[.int .u16 l, .int .u16 r, .int .u16 s], blkR gs 5 #[.int .u8 (q : Int)], blkR gr 4 #[.bool false], devR d t, rowR 3 (.slice (some ⟨g, 0, none⟩) os.length OC) (atsOf os), rowR 26 (.slice RA RL RC) (uw rs), blkR gk 30 #[.int .i64 (k.L : Int), .int .i64 (k.R : Int), .int .i64 (k.S : Int)], blkR gb 33 #[.int .i64 0, .int .i64 (u : Int), .slice RA RL RC], blkR gp 34 #[.slice (some ⟨g, 0, none⟩) os.length OC], blkR g1 28 #[.pointer (some ⟨d.b, 0, none⟩)], blkR g2 30 #[.int .i64 (k.L : Int), .int .i64 (k.R : Int), .int .i64 (k.S : Int)], blkR g3 33 #[.int .i64 0, .int .i64 (u : Int), .slice RA RL RC], blkR gn0 3 #[.int .i64 (((m) : Nat) : Int)]] ++ [blkR go 44 #[.int .i64 (mm : Int), .int .i64 (bb : Int), .int .i64 (at_ : Int)]] ++ r1 :: q2 :: X))
      (fun j v => match j with
        | 0 => v = .int .i64 0
        | 1 => v = .bool false
        | 2 => v = .bool false
        | 3 => v = .int .i64 (m : Int)
        | 4 => v = .slice (some ⟨g, 0, none⟩) os.length OC
        | 5 => v = .int .i64 (os.length : Int)
        | 6 => v = .bool false
        | 7 => v = .bool false
        | 8 => v = .bool false
        | 9 => v = .pointer (some ⟨go, 2, none⟩)
        | 10 => v = .int .i64 (at_ : Int)
        | 11 => v = .slice (some ⟨g, 0, none⟩) os.length OC
        | 12 => v = .int .i64 (m : Int)
        | 13 => v = .pointer (some ⟨g, m, none⟩)
        | 14 => v = .int .i64 (at_ : Int)
        | 15 => v = .bool false
        | 16 => v = .bool false
        | _ => True) ?start ?step ?fin
    case start => exact fun u => HS.out
    case step =>
      clear HS
      refine ⟨?_, ?_, ?_, ?_, ?_, ?_, ?_, ?_, ?_, ?_, ?_, ?_, ?_, ?_, ?_, ?_, ?_, trivial⟩
      · intro D uu w' K hD hF hl hS hK
        simp only [puts, Act.put, List.setIfInBounds_toArray, List.set_cons_succ, List.set_cons_zero, Nat.zero_add, Nat.reduceAdd]
        go_simp
        simp only [yUpon]
        exact hK _ _ rfl hS
      · intro D uu w' K hD hF hl hS hK
        have f0 := (hF 0 (by kernel_rfl)).2
        simp only at f0
        simp only [puts, Act.put, List.setIfInBounds_toArray, List.set_cons_succ, List.set_cons_zero, Nat.zero_add, Nat.reduceAdd]
        simp only [f0]
        go_simp
        simp only [yUpon]
        exact hK _ _ rfl hS
      · intro D uu w' K hD hF hl hS hK
        have f1 := (hF 1 (by kernel_rfl)).2
        simp only at f1
        simp only [puts, Act.put, List.setIfInBounds_toArray, List.set_cons_succ, List.set_cons_zero, Nat.zero_add, Nat.reduceAdd]
        simp only [f1]
        go_simp
        simp only [yUpon]
        exact hK _ _ rfl hS
      · intro D uu w' K hD hF hl hS hK
        have f2 := (hF 2 (by kernel_rfl)).2
        simp only at f2
        simp only [puts, Act.put, List.setIfInBounds_toArray, List.set_cons_succ, List.set_cons_zero, Nat.zero_add, Nat.reduceAdd]
        simp only [f2]
        have x0 := (hS.blk 12 rfl).cell 0
        simp at x0
        go_simp
        simp only [yUpon]
        exact hK _ _ rfl hS
      · intro D uu w' K hD hF hl hS hK
        have f2 := (hF 2 (by kernel_rfl)).2
        simp only at f2
        simp only [puts, Act.put, List.setIfInBounds_toArray, List.set_cons_succ, List.set_cons_zero, Nat.zero_add, Nat.reduceAdd]
        simp only [f2]
        have x0 := (hS.blk 8 rfl).cell 0
        simp at x0
        go_simp
        simp only [yUpon]
        exact hK _ _ rfl hS
      · intro D uu w' K hD hF hl hS hK
        have f2 := (hF 2 (by kernel_rfl)).2
        simp only at f2
        have f4 := (hF 4 (by kernel_rfl)).2
        simp only at f4
        simp only [puts, Act.put, List.setIfInBounds_toArray, List.set_cons_succ, List.set_cons_zero, Nat.zero_add, Nat.reduceAdd]
        simp only [f2, f4]
        go_simp
        simp only [yUpon]
        exact hK _ _ rfl hS
      · intro D uu w' K hD hF hl hS hK
        have f2 := (hF 2 (by kernel_rfl)).2
        simp only at f2
        have f3 := (hF 3 (by kernel_rfl)).2
        simp only at f3
        have f5 := (hF 5 (by kernel_rfl)).2
        simp only at f5
        simp only [puts, Act.put, List.setIfInBounds_toArray, List.set_cons_succ, List.set_cons_zero, Nat.zero_add, Nat.reduceAdd]
        simp only [f2, f3, f5]
        go_simp
        simp only [yUpon]
        exact hK _ _ rfl hS
      · intro D uu w' K hD hF hl hS hK
        have f2 := (hF 2 (by kernel_rfl)).2
        simp only at f2
        have f6 := (hF 6 (by kernel_rfl)).2
        simp only at f6
        simp only [puts, Act.put, List.setIfInBounds_toArray, List.set_cons_succ, List.set_cons_zero, Nat.zero_add, Nat.reduceAdd]
        simp only [f2, f6]
        go_simp
        simp only [yUpon]
        exact hK _ _ rfl hS
      · intro D uu w' K hD hF hl hS hK
        have f7 := (hF 7 (by kernel_rfl)).2
        simp only at f7
        simp only [puts, Act.put, List.setIfInBounds_toArray, List.set_cons_succ, List.set_cons_zero, Nat.zero_add, Nat.reduceAdd]
        simp only [f7]
        go_simp
        simp only [yUpon]
        exact hK _ _ rfl hS
      · intro D uu w' K hD hF hl hS hK
        have f8 := (hF 8 (by kernel_rfl)).2
        simp only at f8
        simp only [puts, Act.put, List.setIfInBounds_toArray, List.set_cons_succ, List.set_cons_zero, Nat.zero_add, Nat.reduceAdd]
        simp only [f8]
        go_simp
        simp only [yUpon]
        exact hK _ _ rfl hS
      · intro D uu w' K hD hF hl hS hK
        have f8 := (hF 8 (by kernel_rfl)).2
        simp only at f8
        have f9 := (hF 9 (by kernel_rfl)).2
        simp only at f9
        simp only [puts, Act.put, List.setIfInBounds_toArray, List.set_cons_succ, List.set_cons_zero, Nat.zero_add, Nat.reduceAdd]
        simp only [f8, f9]
        have x2 := (hS.blk 13 rfl).cell 2
        simp at x2
        go_simp
        simp only [yUpon]
        exact hK _ _ rfl hS
      · intro D uu w' K hD hF hl hS hK
        have f8 := (hF 8 (by kernel_rfl)).2
        simp only at f8
        simp only [puts, Act.put, List.setIfInBounds_toArray, List.set_cons_succ, List.set_cons_zero, Nat.zero_add, Nat.reduceAdd]
        simp only [f8]
        have x0 := (hS.blk 8 rfl).cell 0
        simp at x0
        go_simp
        simp only [yUpon]
        exact hK _ _ rfl hS
      · intro D uu w' K hD hF hl hS hK
        have f8 := (hF 8 (by kernel_rfl)).2
        simp only at f8
        simp only [puts, Act.put, List.setIfInBounds_toArray, List.set_cons_succ, List.set_cons_zero, Nat.zero_add, Nat.reduceAdd]
        simp only [f8]
        have x0 := (hS.blk 12 rfl).cell 0
        simp at x0
        go_simp
        simp only [yUpon]
        exact hK _ _ rfl hS
      · intro D uu w' K hD hF hl hS hK
        have f8 := (hF 8 (by kernel_rfl)).2
        simp only at f8
        have f11 := (hF 11 (by kernel_rfl)).2
        simp only at f11
        have f12 := (hF 12 (by kernel_rfl)).2
        simp only at f12
        simp only [puts, Act.put, List.setIfInBounds_toArray, List.set_cons_succ, List.set_cons_zero, Nat.zero_add, Nat.reduceAdd]
        simp only [f8, f11, f12]
        go_simp
        simp only [yUpon]
        exact hK _ _ rfl hS
      · intro D uu w' K hD hF hl hS hK
        have f8 := (hF 8 (by kernel_rfl)).2
        simp only at f8
        have f13 := (hF 13 (by kernel_rfl)).2
        simp only at f13
        simp only [puts, Act.put, List.setIfInBounds_toArray, List.set_cons_succ, List.set_cons_zero, Nat.zero_add, Nat.reduceAdd]
        simp only [f8, f13]
        obtain ⟨gq, hgq, xc⟩ := HRC.out _ (hS.row 4 rfl)
        cases hgq
        go_simp
        simp only [yUpon]
        exact hK _ _ rfl hS
      · intro D uu w' K hD hF hl hS hK
        have f8 := (hF 8 (by kernel_rfl)).2
        simp only at f8
        have f10 := (hF 10 (by kernel_rfl)).2
        simp only at f10
        have f14 := (hF 14 (by kernel_rfl)).2
        simp only at f14
        simp only [puts, Act.put, List.setIfInBounds_toArray, List.set_cons_succ, List.set_cons_zero, Nat.zero_add, Nat.reduceAdd]
        simp only [f8, f10, f14]
        go_simp
        simp only [yUpon]
        exact hK _ _ rfl hS
      · intro D uu w' K hD hF hl hS hK
        have f8 := (hF 8 (by kernel_rfl)).2
        simp only at f8
        have f15 := (hF 15 (by kernel_rfl)).2
        simp only at f15
        simp only [puts, Act.put, List.setIfInBounds_toArray, List.set_cons_succ, List.set_cons_zero, Nat.zero_add, Nat.reduceAdd]
        simp only [f8, f15]
        go_simp
        simp only [yUpon]
        exact hK _ _ rfl hS
    case fin =>
      intro D uu wf hall hS
      have v16 := (hall 16 (by simp)).2
      simp only at v16
      have HS := Lib.hid hS
      clear hall hS
      simp only [puts, Act.put, List.setIfInBounds_toArray, List.set_cons_succ, List.set_cons_zero, Nat.zero_add, Nat.reduceAdd]
      simp only [v16]
      clear v16 hge hge2 hltI
      obtain ⟨m1, hm1⟩ : ∃ m1, m + 1 = m1 := ⟨_, rfl⟩
      have hmw : IntKind.i64.wrap ((m : Int) + 1) = (m1 : Int) := by rw [IntWalk.i64_in _ (by omega)]; omega
      have n0 := (HS.out.blk 12 rfl).cell 0
      simp at n0
      have s0 := (HS.out.blk 1 rfl).cell 0
      simp at s0
      have z0 := (HS.out.blk 12 rfl).frozen 0
      have hs2 := HS.out.put (i := 12) rfl 0 (.int .i64 (m1 : Int))
      have HS2 := Lib.hid hs2
      have ngs := HS.out.ne 12 1 rfl rfl (by decide)
      have ngs2 := ngs.symm
      clear hs2
      by_cases hmz1 : m1 = Z1
      · subst hmz1
        gi_wp2
        subst hm1
        exact ⟨_, ⟨rfl, by omega⟩, Sep.dropMid (r := blkR go 44 #[.int .i64 (mm : Int), .int .i64 (bb : Int), .int .i64 (at_ : Int)]) _ _ HS2.out⟩
      · have e1 : decide (m1 = Z1) = false := decide_eq_false hmz1
        have e2 : decide ((m1 : Int) = (Z1 : Int)) = false := decide_eq_false (by omega)
        have e3 : ((m1 : Int) == (Z1 : Int)) = false := by rw [beq_eq_false_iff_ne]; omega
        have HNE := Lib.hid hmz1
        clear hmz1
        gi_wp2
        have hne := HNE.out
        subst hm1
        exact ⟨_, ⟨rfl, by omega⟩, Sep.dropMid (r := blkR go 44 #[.int .i64 (mm : Int), .int .i64 (bb : Int), .int .i64 (at_ : Int)]) _ _ HS2.out⟩
  · rintro D0 L r2 w6 rfl hs
    have HS := Lib.hid hs
    clear hs
    simp only [Exit.then]
    refine wpFr_of_wp ?_
    have n0 := (HS.out.blk 12 rfl).cell 0
    simp at n0
    have s0 := (HS.out.blk 1 rfl).cell 0
    simp at s0
    have p0 := (HS.out.blk 8 rfl).cell 0
    simp at p0
    go_wp2
    all_goals
      clear n0 s0 p0
      refine wpFr_of_wp ?_
      go_wp2
      have hs13 := (Sep.dropMid (r := blkR gn0 3 #[.int .i64 (((min os.length Z1) : Nat) : Int)]) [blkR gx 24 #[.int .u16 l, .int .u16 r, .int .u16 s], blkR gs 5 #[.int .u8 (q : Int)], blkR gr 4 #[.bool false], devR d t, rowR 3 (.slice OA os.length OC) (atsOf os), rowR 26 (.slice RA RL RC) (uw rs), blkR gk 30 #[.int .i64 (k.L : Int), .int .i64 (k.R : Int), .int .i64 (k.S : Int)], blkR gb 33 #[.int .i64 0, .int .i64 (u : Int), .slice RA RL RC], blkR gp 34 #[.slice OA os.length OC], blkR g1 28 #[.pointer (some ⟨d.b, 0, none⟩)], blkR g2 30 #[.int .i64 (k.L : Int), .int .i64 (k.R : Int), .int .i64 (k.S : Int)], blkR g3 33 #[.int .i64 0, .int .i64 (u : Int), .slice RA RL RC]] [objR D0 (.deferred (some [])), r2] HS.out).take 13
      replace HS : Hid (Sep w [] [blkR gx 24 #[.int .u16 l, .int .u16 r, .int .u16 s], blkR gs 5 #[.int .u8 (q : Int)], blkR gr 4 #[.bool false], devR d t, rowR 3 (.slice OA os.length OC) (atsOf os), rowR 26 (.slice RA RL RC) (uw rs), blkR gk 30 #[.int .i64 (k.L : Int), .int .i64 (k.R : Int), .int .i64 (k.S : Int)], blkR gb 33 #[.int .i64 0, .int .i64 (u : Int), .slice RA RL RC], blkR gp 34 #[.slice OA os.length OC], blkR g1 28 #[.pointer (some ⟨d.b, 0, none⟩)], blkR g2 30 #[.int .i64 (k.L : Int), .int .i64 (k.R : Int), .int .i64 (k.S : Int)], blkR g3 33 #[.int .i64 0, .int .i64 (u : Int), .slice RA RL RC], objR D0 (.deferred (some []))] w6) := Lib.hid hs13
      clear hs13
      refine (show wpFr _ _ _ (Exit.then (loopN _ _ _ _ 1) _) _ _ from ?_)
      refine wpFr_seq (wpFr_of_wp ?_)
      go_wp2
      refine wpFr_seq (wpFr_of_wp ?_)
      go_wp2
      refine wpFr_seq (wpFr_block (wpFr_seq (wpFr_of_wp ?_)))
      go_wp2
      replace HS := Lib.hid (HS.out.new 3 #[.int .i64 ((0 : Nat) : Int)])
      generalize w6.alloc _ = w6' at *
      generalize w6.heap.size = gn1 at *
      replace HS : Hid (Sep w [] [blkR gx 24 #[.int .u16 l, .int .u16 r, .int .u16 s], blkR gs 5 #[.int .u8 (q : Int)], blkR gr 4 #[.bool false], devR d t, rowR 3 (.slice OA os.length OC) (atsOf os), rowR 26 (.slice RA RL RC) (uw rs), blkR gk 30 #[.int .i64 (k.L : Int), .int .i64 (k.R : Int), .int .i64 (k.S : Int)], blkR gb 33 #[.int .i64 0, .int .i64 (u : Int), .slice RA RL RC], blkR gp 34 #[.slice OA os.length OC], blkR g1 28 #[.pointer (some ⟨d.b, 0, none⟩)], blkR g2 30 #[.int .i64 (k.L : Int), .int .i64 (k.R : Int), .int .i64 (k.S : Int)], blkR g3 33 #[.int .i64 0, .int .i64 (u : Int), .slice RA RL RC], objR D0 (.deferred (some [])), blkR gn1 3 #[.int .i64 (((0) : Nat) : Int)]] w6') := HS
      refine wpFr_seq (wpFr_seq (wpFr_of_wp ?_))
      go_wp2
      refine wpFr_rangeB HS.out rfl (enters_of Try.func58 (by kernel_rfl) rfl) (HSQ.out g3 g2 g1) (fun _ => rfl)
        (fun m L => L = [blkR gx 24 #[.int .u16 l, .int .u16 r, .int .u16 s], blkR gs 5 #[.int .u8 (q : Int)], blkR gr 4 #[.bool false], devR d t, rowR 3 (.slice OA os.length OC) (atsOf os), rowR 26 (.slice RA RL RC) (uw rs), blkR gk 30 #[.int .i64 (k.L : Int), .int .i64 (k.R : Int), .int .i64 (k.S : Int)], blkR gb 33 #[.int .i64 0, .int .i64 (u : Int), .slice RA RL RC], blkR gp 34 #[.slice OA os.length OC], blkR g1 28 #[.pointer (some ⟨d.b, 0, none⟩)], blkR g2 30 #[.int .i64 (k.L : Int), .int .i64 (k.R : Int), .int .i64 (k.S : Int)], blkR g3 33 #[.int .i64 0, .int .i64 (u : Int), .slice RA RL RC], objR D0 (.deferred (some [])), blkR gn1 3 #[.int .i64 (((m) : Nat) : Int)]] ∧ m < Z1) (fun L => L = [blkR gx 24 #[.int .u16 l, .int .u16 r, .int .u16 s], blkR gs 5 #[.int .u8 (q : Int)], blkR gr 4 #[.bool false], devR d t, rowR 3 (.slice OA os.length OC) (atsOf os), rowR 26 (.slice RA RL RC) (uw rs), blkR gk 30 #[.int .i64 (k.L : Int), .int .i64 (k.R : Int), .int .i64 (k.S : Int)], blkR gb 33 #[.int .i64 0, .int .i64 (u : Int), .slice RA RL RC], blkR gp 34 #[.slice OA os.length OC], blkR g1 28 #[.pointer (some ⟨d.b, 0, none⟩)], blkR g2 30 #[.int .i64 (k.L : Int), .int .i64 (k.R : Int), .int .i64 (k.S : Int)], blkR g3 33 #[.int .i64 0, .int .i64 (u : Int), .slice RA RL RC], objR D0 (.deferred (some [])), blkR gn1 3 #[.int .i64 (((Z1) : Nat) : Int)]] ∧ Z1 ≤ os.length) (fun L => L = [blkR gx 24 #[.int .u16 l, .int .u16 r, .int .u16 s], blkR gs 5 #[.int .u8 (q : Int)], blkR gr 4 #[.bool false], devR d t, rowR 3 (.slice OA os.length OC) (atsOf os), rowR 26 (.slice RA RL RC) (uw rs), blkR gk 30 #[.int .i64 (k.L : Int), .int .i64 (k.R : Int), .int .i64 (k.S : Int)], blkR gb 33 #[.int .i64 0, .int .i64 (u : Int), .slice RA RL RC], blkR gp 34 #[.slice OA os.length OC], blkR g1 28 #[.pointer (some ⟨d.b, 0, none⟩)], blkR g2 30 #[.int .i64 (k.L : Int), .int .i64 (k.R : Int), .int .i64 (k.S : Int)], blkR g3 33 #[.int .i64 0, .int .i64 (u : Int), .slice RA RL RC], objR D0 (.deferred (some [])), blkR gn1 3 #[.int .i64 (((min os.length Z1) : Nat) : Int)]])
        ⟨rfl, hZp⟩ (fun L h => by rw [h.1, show min os.length Z1 = os.length by have := h.2; rw [List.length_map] at this; omega, List.length_map]) (fun L h => by rw [h.1, show min os.length Z1 = Z1 by have := h.2; omega]) ?_ ?_ ?_
      · rintro m L X W' hm ⟨rfl, _⟩ hs
        exact ⟨hs.blk 11 rfl, hs.blk 10 rfl, hs.blk 9 rfl, hs.dev 3 rfl⟩
      · rintro l9 m L X r1 r2 W' hm ⟨rfl, hmz⟩ hs
        rw [List.length_map] at hm
        obtain ⟨ob, hob⟩ : ∃ ob, os[m]? = some ob := ⟨_, List.getElem?_eq_getElem hm⟩
        have hgd : (os.map (fun o => (⟨o.at_, o.n, o.b, 0⟩ : It))).getD m It0 = ⟨ob.at_, ob.n, ob.b, 0⟩ := by rw [List.getD_eq_getElem?_getD, List.getElem?_map, hob]; rfl
        rw [hgd]
        have hrc := HROW.out m ob hob
        have HRC := Lib.hid hrc
        clear hgd HS hob hrc
        obtain ⟨at_, mm, bb⟩ := ob
        simp only [itV, obV]
        gi_wp2
        refine ⟨[blkR gx 24 #[.int .u16 l, .int .u16 r, .int .u16 s], blkR gs 5 #[.int .u8 (q : Int)], blkR gr 4 #[.bool false], devR d t, rowR 3 (.slice OA os.length OC) (atsOf os), rowR 26 (.slice RA RL RC) (uw rs), blkR gk 30 #[.int .i64 (k.L : Int), .int .i64 (k.R : Int), .int .i64 (k.S : Int)], blkR gb 33 #[.int .i64 0, .int .i64 (u : Int), .slice RA RL RC], blkR gp 34 #[.slice OA os.length OC], blkR g1 28 #[.pointer (some ⟨d.b, 0, none⟩)], blkR g2 30 #[.int .i64 (k.L : Int), .int .i64 (k.R : Int), .int .i64 (k.S : Int)], blkR g3 33 #[.int .i64 0, .int .i64 (u : Int), .slice RA RL RC], objR D0 (.deferred (some [])), blkR gn1 3 #[.int .i64 (((m) : Nat) : Int)]] ++ [blkR W'.heap.size 44 #[.int .i64 (mm : Int), .int .i64 (bb : Int), .int .i64 (at_ : Int)]], Sep.bring _ _ (hs.new 44 #[.int .i64 (mm : Int), .int .i64 (bb : Int), .int .i64 (at_ : Int)]), ?_⟩
        clear hs
        generalize W'.heap.size = go at *
        rintro q2 W2 hs
        have HS := Lib.hid hs
        clear hs
        obtain ⟨g, hOA, hcell⟩ := HRC.out W2 (HS.out.row 4 rfl)
        subst hOA
        have hltI : (m : Int) < (os.length : Int) := by omega
        have hge : decide ((m : Int) ≥ (os.length : Int)) = false := by rw [decide_eq_false_iff_not]; omega
        have hge2 : decide (os.length ≤ m) = false := by rw [decide_eq_false_iff_not]; omega
        gi_upto_region 15 with fail
        refine wpIn_region_st3 (W := w) (S := []) (by kernel_rfl) (by kernel_rfl) (by kernel_rfl) (by kernel_rfl) (fun D uu => ([blkR gx 24 #[.int .u16 l, .int .u16 r, .int .u16 s], blkR gs 5 #[.int .u8 (q : Int)], blkR gr 4 #[.bool false], devR d t, rowR 3 (.slice (some ⟨g, 0, none⟩) os.length OC) (atsOf os), rowR 26 (.slice RA RL RC) (uw rs), blkR gk 30 #[.int .i64 (k.L : Int), .int .i64 (k.R : Int), .int .i64 (k.S : Int)], blkR gb 33 #[.int .i64 0, .int .i64 (u : Int), .slice RA RL RC], blkR gp 34 #[.slice (some ⟨g, 0, none⟩) os.length OC], blkR g1 28 #[.pointer (some ⟨d.b, 0, none⟩)], blkR g2 30 #[.int .i64 (k.L : Int), .int .i64 (k.R : Int), .int .i64 (k.S : Int)], blkR g3 33 #[.int .i64 0, .int .i64 (u : Int), .slice RA RL RC], objR D0 (.deferred (some [])), blkR gn1 3 #[.int .i64 (((m) : Nat) : Int)]] ++ [blkR go 44 #[.int .i64 (mm : Int), .int .i64 (bb : Int), .int .i64 (at_ : Int)]] ++ r1 :: q2 :: X))
          (fun j v => match j with
            | 0 => v = .int .i64 0
            | 1 => v = .bool false
            | 2 => v = .bool false
            | 3 => v = .int .i64 (m : Int)
            | 4 => v = .slice (some ⟨g, 0, none⟩) os.length OC
            | 5 => v = .int .i64 (os.length : Int)
            | 6 => v = .bool false
            | 7 => v = .bool false
            | 8 => v = .bool false
            | 9 => v = .pointer (some ⟨go, 2, none⟩)
            | 10 => v = .int .i64 (at_ : Int)
            | 11 => v = .slice (some ⟨g, 0, none⟩) os.length OC
            | 12 => v = .int .i64 (m : Int)
            | 13 => v = .pointer (some ⟨g, m, none⟩)
            | 14 => v = .int .i64 (at_ : Int)
            | 15 => v = .bool false
            | 16 => v = .bool false
            | _ => True) ?start ?step ?fin
        case start => exact fun u => HS.out
        case step =>
          clear HS
          refine ⟨?_, ?_, ?_, ?_, ?_, ?_, ?_, ?_, ?_, ?_, ?_, ?_, ?_, ?_, ?_, ?_, ?_, trivial⟩
          · intro D uu w' K hD hF hl hS hK
            simp only [puts, Act.put, List.setIfInBounds_toArray, List.set_cons_succ, List.set_cons_zero, Nat.zero_add, Nat.reduceAdd]
            go_simp
            simp only [yUpon]
            exact hK _ _ rfl hS
          · intro D uu w' K hD hF hl hS hK
            have f0 := (hF 0 (by kernel_rfl)).2
            simp only at f0
            simp only [puts, Act.put, List.setIfInBounds_toArray, List.set_cons_succ, List.set_cons_zero, Nat.zero_add, Nat.reduceAdd]
            simp only [f0]
            go_simp
            simp only [yUpon]
            exact hK _ _ rfl hS
          · intro D uu w' K hD hF hl hS hK
            have f1 := (hF 1 (by kernel_rfl)).2
            simp only at f1
            simp only [puts, Act.put, List.setIfInBounds_toArray, List.set_cons_succ, List.set_cons_zero, Nat.zero_add, Nat.reduceAdd]
            simp only [f1]
            go_simp
            simp only [yUpon]
            exact hK _ _ rfl hS
          · intro D uu w' K hD hF hl hS hK
            have f2 := (hF 2 (by kernel_rfl)).2
            simp only at f2
            simp only [puts, Act.put, List.setIfInBounds_toArray, List.set_cons_succ, List.set_cons_zero, Nat.zero_add, Nat.reduceAdd]
            simp only [f2]
            have x0 := (hS.blk 13 rfl).cell 0
            simp at x0
            go_simp
            simp only [yUpon]
            exact hK _ _ rfl hS
          · intro D uu w' K hD hF hl hS hK
            have f2 := (hF 2 (by kernel_rfl)).2
            simp only at f2
            simp only [puts, Act.put, List.setIfInBounds_toArray, List.set_cons_succ, List.set_cons_zero, Nat.zero_add, Nat.reduceAdd]
            simp only [f2]
            have x0 := (hS.blk 8 rfl).cell 0
            simp at x0
            go_simp
            simp only [yUpon]
            exact hK _ _ rfl hS
          · intro D uu w' K hD hF hl hS hK
            have f2 := (hF 2 (by kernel_rfl)).2
            simp only at f2
            have f4 := (hF 4 (by kernel_rfl)).2
            simp only at f4
            simp only [puts, Act.put, List.setIfInBounds_toArray, List.set_cons_succ, List.set_cons_zero, Nat.zero_add, Nat.reduceAdd]
            simp only [f2, f4]
            go_simp
            simp only [yUpon]
            exact hK _ _ rfl hS
          · intro D uu w' K hD hF hl hS hK
            have f2 := (hF 2 (by kernel_rfl)).2
            simp only at f2
            have f3 := (hF 3 (by kernel_rfl)).2
            simp only at f3
            have f5 := (hF 5 (by kernel_rfl)).2
            simp only at f5
            simp only [puts, Act.put, List.setIfInBounds_toArray, List.set_cons_succ, List.set_cons_zero, Nat.zero_add, Nat.reduceAdd]
            simp only [f2, f3, f5]
            go_simp
            simp only [yUpon]
            exact hK _ _ rfl hS
          · intro D uu w' K hD hF hl hS hK
            have f2 := (hF 2 (by kernel_rfl)).2
            simp only at f2
            have f6 := (hF 6 (by kernel_rfl)).2
            simp only at f6
            simp only [puts, Act.put, List.setIfInBounds_toArray, List.set_cons_succ, List.set_cons_zero, Nat.zero_add, Nat.reduceAdd]
            simp only [f2, f6]
            go_simp
            simp only [yUpon]
            exact hK _ _ rfl hS
          · intro D uu w' K hD hF hl hS hK
            have f7 := (hF 7 (by kernel_rfl)).2
            simp only at f7
            simp only [puts, Act.put, List.setIfInBounds_toArray, List.set_cons_succ, List.set_cons_zero, Nat.zero_add, Nat.reduceAdd]
            simp only [f7]
            go_simp
            simp only [yUpon]
            exact hK _ _ rfl hS
          · intro D uu w' K hD hF hl hS hK
            have f8 := (hF 8 (by kernel_rfl)).2
            simp only at f8
            simp only [puts, Act.put, List.setIfInBounds_toArray, List.set_cons_succ, List.set_cons_zero, Nat.zero_add, Nat.reduceAdd]
            simp only [f8]
            go_simp
            simp only [yUpon]
            exact hK _ _ rfl hS
          · intro D uu w' K hD hF hl hS hK
            have f8 := (hF 8 (by kernel_rfl)).2
            simp only at f8
            have f9 := (hF 9 (by kernel_rfl)).2
            simp only at f9
            simp only [puts, Act.put, List.setIfInBounds_toArray, List.set_cons_succ, List.set_cons_zero, Nat.zero_add, Nat.reduceAdd]
            simp only [f8, f9]
            have x2 := (hS.blk 14 rfl).cell 2
            simp at x2
            go_simp
            simp only [yUpon]
            exact hK _ _ rfl hS
          · intro D uu w' K hD hF hl hS hK
            have f8 := (hF 8 (by kernel_rfl)).2
            simp only at f8
            simp only [puts, Act.put, List.setIfInBounds_toArray, List.set_cons_succ, List.set_cons_zero, Nat.zero_add, Nat.reduceAdd]
            simp only [f8]
            have x0 := (hS.blk 8 rfl).cell 0
            simp at x0
            go_simp
            simp only [yUpon]
            exact hK _ _ rfl hS
          · intro D uu w' K hD hF hl hS hK
            have f8 := (hF 8 (by kernel_rfl)).2
            simp only at f8
            simp only [puts, Act.put, List.setIfInBounds_toArray, List.set_cons_succ, List.set_cons_zero, Nat.zero_add, Nat.reduceAdd]
            simp only [f8]
            have x0 := (hS.blk 13 rfl).cell 0
            simp at x0
            go_simp
            simp only [yUpon]
            exact hK _ _ rfl hS
          · intro D uu w' K hD hF hl hS hK
            have f8 := (hF 8 (by kernel_rfl)).2
            simp only at f8
            have f11 := (hF 11 (by kernel_rfl)).2
            simp only at f11
            have f12 := (hF 12 (by kernel_rfl)).2
            simp only at f12
            simp only [puts, Act.put, List.setIfInBounds_toArray, List.set_cons_succ, List.set_cons_zero, Nat.zero_add, Nat.reduceAdd]
            simp only [f8, f11, f12]
            go_simp
            simp only [yUpon]
            exact hK _ _ rfl hS
          · intro D uu w' K hD hF hl hS hK
            have f8 := (hF 8 (by kernel_rfl)).2
            simp only at f8
            have f13 := (hF 13 (by kernel_rfl)).2
            simp only at f13
            simp only [puts, Act.put, List.setIfInBounds_toArray, List.set_cons_succ, List.set_cons_zero, Nat.zero_add, Nat.reduceAdd]
            simp only [f8, f13]
            obtain ⟨gq, hgq, xc⟩ := HRC.out _ (hS.row 4 rfl)
            cases hgq
            go_simp
            simp only [yUpon]
            exact hK _ _ rfl hS
          · intro D uu w' K hD hF hl hS hK
            have f8 := (hF 8 (by kernel_rfl)).2
            simp only at f8
            have f10 := (hF 10 (by kernel_rfl)).2
            simp only at f10
            have f14 := (hF 14 (by kernel_rfl)).2
            simp only at f14
            simp only [puts, Act.put, List.setIfInBounds_toArray, List.set_cons_succ, List.set_cons_zero, Nat.zero_add, Nat.reduceAdd]
            simp only [f8, f10, f14]
            go_simp
            simp only [yUpon]
            exact hK _ _ rfl hS
          · intro D uu w' K hD hF hl hS hK
            have f8 := (hF 8 (by kernel_rfl)).2
            simp only at f8
            have f15 := (hF 15 (by kernel_rfl)).2
            simp only at f15
            simp only [puts, Act.put, List.setIfInBounds_toArray, List.set_cons_succ, List.set_cons_zero, Nat.zero_add, Nat.reduceAdd]
            simp only [f8, f15]
            go_simp
            simp only [yUpon]
            exact hK _ _ rfl hS
        case fin =>
          intro D uu wf hall hS
          have v16 := (hall 16 (by simp)).2
          simp only at v16
          have HS := Lib.hid hS
          clear hall hS
          simp only [puts, Act.put, List.setIfInBounds_toArray, List.set_cons_succ, List.set_cons_zero, Nat.zero_add, Nat.reduceAdd]
          simp only [v16]
          clear v16 hge hge2 hltI
          obtain ⟨m1, hm1⟩ : ∃ m1, m + 1 = m1 := ⟨_, rfl⟩
          have hmw : IntKind.i64.wrap ((m : Int) + 1) = (m1 : Int) := by rw [IntWalk.i64_in _ (by omega)]; omega
          have n0 := (HS.out.blk 13 rfl).cell 0
          simp at n0
          have s0 := (HS.out.blk 1 rfl).cell 0
          simp at s0
          have z0 := (HS.out.blk 13 rfl).frozen 0
          have hs2 := HS.out.put (i := 13) rfl 0 (.int .i64 (m1 : Int))
          have HS2 := Lib.hid hs2
          have ngs := HS.out.ne 13 1 rfl rfl (by decide)
          have ngs2 := ngs.symm
          clear hs2
          by_cases hmz1 : m1 = Z1
          · subst hmz1
            gi_wp2
            subst hm1
            exact ⟨_, ⟨rfl, by omega⟩, Sep.dropMid (r := blkR go 44 #[.int .i64 (mm : Int), .int .i64 (bb : Int), .int .i64 (at_ : Int)]) _ _ HS2.out⟩
          · have e1 : decide (m1 = Z1) = false := decide_eq_false hmz1
            have e2 : decide ((m1 : Int) = (Z1 : Int)) = false := decide_eq_false (by omega)
            have e3 : ((m1 : Int) == (Z1 : Int)) = false := by rw [beq_eq_false_iff_ne]; omega
            have HNE := Lib.hid hmz1
            clear hmz1
            gi_wp2
            have hne := HNE.out
            subst hm1
            exact ⟨_, ⟨rfl, by omega⟩, Sep.dropMid (r := blkR go 44 #[.int .i64 (mm : Int), .int .i64 (bb : Int), .int .i64 (at_ : Int)]) _ _ HS2.out⟩
      · rintro D1 L r2 w7 rfl hs
        have HS := Lib.hid hs
        clear hs
        simp only [Exit.then]
        refine wpFr_of_wp ?_
        have n0 := (HS.out.blk 13 rfl).cell 0
        simp at n0
        have s0 := (HS.out.blk 1 rfl).cell 0
        simp at s0
        have p0 := (HS.out.blk 8 rfl).cell 0
        simp at p0
        go_wp2
        all_goals
          clear n0 s0 p0
          refine wpFr_of_wp ?_
          go_wp2
          refine (show wpFr _ _ _ (Exit.then (loopN _ _ _ _ 0) _) _ _ from ?_)
          refine wpFr_seq (wpFr_of_wp ?_)
          go_wp2
          refine wpFr_seq (wpFr_of_wp ?_)
          go_wp2
          refine wpFr_of_wp ?_
          have r0 := (HS.out.blk 2 rfl).cell 0
          simp at r0
          have z2 := (HS.out.blk 2 rfl).frozen 0
          have hs2 := HS.out.put (i := 2) rfl 0 (.bool true)
          have HS2 := Lib.hid hs2
          clear hs2
          go_wp2
          have hp1 := HS2.out.putObj (i := 14) rfl (.deferred none)
          have hp2 := hp1.putObj (i := 12) rfl (.deferred none)
          have ld := loadVar_one (P := Try.prog) (ty := 4) (a := ⟨gr, 0, none⟩) (v := .bool true) (d := .bool) (by kernel_rfl) rfl (by rw [(hp2.blk 2 rfl).cell 0]; rfl)
          exact leave_more (HS2.out.all 14 _ rfl) (leave_mark (hp1.all 12 _ rfl) (results_c (fn := Try.f4) (p := 6) (ty := 4) (a1 := ⟨gr, 0, none⟩) rfl _ _ _ rfl ld) ⟨rfl, hp2.take 0⟩)

theorem WalkBreaks.walk {v1 : Value} {w : World} (l r s : Int) (h : (lowest .u16 ≤ l ∧ l ≤ greatest .u16) ∧ (lowest .u16 ≤ r ∧ r ≤ greatest .u16) ∧ (lowest .u16 ≤ s ∧ s ≤ greatest .u16)) (hl1 : List HV) (hm1 : RdH w v1 hl1) (ho1 : ∀ x ∈ hl1, x.Ok) (hn1 : hl1.length ≤ maxLen) (a2 : Int) (a20 : lowest .u8 ≤ a2) (a21 : a2 ≤ greatest .u8) :
    Calls Try.prog 4 #[.agg #[.int .u16 l, .int .u16 r, .int .u16 s], v1, .int .u8 a2] w fun e w' => e = .returned (.bool true) ∧ Below w.heap.size w w' := by
  obtain ⟨⟨l0, l1⟩, ⟨r0, r1⟩, s0, s1⟩ := h
  simp [lowest, greatest] at l0 l1 r0 r1 s0 s1 a20 a21
  exact (WalkBreaks.core l r s v1 hl1 a2 w l0 l1 r0 r1 s0 s1 hm1 ho1 hn1 a20 a21).mono fun e w' ⟨he, hk⟩ => ⟨he, hk.below⟩
end Go.Proofs.Ythdiehcmjknhiaa
