/-
  WalkSums: the walk.
-/
import Derived.Test.YthdiehcmjknhiaaAwk11
import Derived.Test.YthdiehcmjknhiaaLoopF
import Derived.Test.YthdiehcmjknhiaaRelIn
import Derived.Test.YthdiehcmjknhiaaIter
import Derived.Sort.CutIn
set_option linter.unusedSimpArgs false
set_option linter.unusedVariables false
set_option maxRecDepth 100000
namespace Go.Proofs.Ythdiehcmjknhiaa
open Go.RowKit Go.Shelf

attribute [local go_sem] Oper.semAt_some

/-- How long objects are. -/
def lens (os : List Ob) : Nat := (os.map fun o => o.n + 1).sum
theorem Chain.at_sum {o : Ob} : ∀ {os : List Ob} {p q j : Nat}, Chain p os q → os[j]? = some o → o.at_ = p + lens (os.take j)
  | [], p, q, j, _, hj => by simp at hj
  | y :: os, p, q, 0, h, hj => by simp at hj; subst hj; simp [lens, h.1]
  | y :: os, p, q, j + 1, h, hj => by
    have := Chain.at_sum h.2 (j := j) (by simpa using hj)
    rw [this]
    simp only [lens, List.take_succ_cons, List.map_cons, List.sum_cons]
    omega
theorem Chain.sum : ∀ {os : List Ob} {p q : Nat}, Chain p os q → q = p + lens os
  | [], p, q, h => by have : p = q := h; subst this; simp [lens]
  | y :: os, p, q, h => by
    have := Chain.sum h.2
    simp only [lens, List.map_cons, List.sum_cons] at this ⊢
    omega
theorem lens_succ {os : List Ob} {j : Nat} {o : Ob} (h : os[j]? = some o) : lens (os.take (j + 1)) = lens (os.take j) + (o.n + 1) := by
  rw [List.take_add_one, h]
  simp [lens]
theorem lens_le (os : List Ob) (j : Nat) : lens (os.take j) ≤ lens os := by
  have h1 : lens (os.take j) + lens (os.drop j) = lens os := by
    unfold lens
    rw [← List.sum_append, ← List.map_append, List.take_append_drop]
  omega
theorem Chain.rise : ∀ {os : List Ob} {p q : Nat}, Chain p os q → os.Pairwise (fun a b => a.at_ < b.at_)
  | [], p, q, _ => List.Pairwise.nil
  | y :: os, p, q, h => List.pairwise_cons.2 ⟨fun o ho => by have := Chain.mem h.2 ho; have := h.1; omega, Chain.rise h.2⟩
/-- What is still to come. -/
def remL (left : Int → Bool) (os : List Ob) : Nat := lens (os.filter fun o => left (o.at_ : Int))
theorem remL_all {left : Int → Bool} {os : List Ob} (h : ∀ o ∈ os, left (o.at_ : Int) = true) : remL left os = lens os := by
  unfold remL
  rw [List.filter_eq_self.2 h]
theorem remL_none {left : Int → Bool} {os : List Ob} (h : ∀ k, left k = false) : remL left os = 0 := by
  unfold remL
  rw [List.filter_eq_nil_iff.2 (fun o _ => by rw [h]; decide)]
  rfl
theorem remL_step {left : Int → Bool} {ob : Ob} : ∀ {os : List Ob}, os.Pairwise (fun a b => a.at_ < b.at_) → ob ∈ os → left (ob.at_ : Int) = true → remL left os = remL (fun z => left z && !(z == (ob.at_ : Int))) os + (ob.n + 1)
  | [], _, h, _ => by simp at h
  | y :: os, hp, h, hl => by
    obtain ⟨h1, h2⟩ := List.pairwise_cons.1 hp
    rcases List.mem_cons.1 h with rfl | h3
    · have e : ∀ o ∈ os, (left (o.at_ : Int) && !((o.at_ : Int) == (ob.at_ : Int))) = left (o.at_ : Int) := fun o ho => by
        have := h1 o ho
        rw [show ((o.at_ : Int) == (ob.at_ : Int)) = false by rw [beq_eq_false_iff_ne]; omega]
        simp
      show lens (List.filter (fun o : Ob => left (o.at_ : Int)) (ob :: os)) = lens (List.filter (fun o : Ob => left (o.at_ : Int) && !((o.at_ : Int) == (ob.at_ : Int))) (ob :: os)) + (ob.n + 1)
      rw [List.filter_cons_of_pos (p := fun o : Ob => left (o.at_ : Int)) hl, List.filter_cons_of_neg (p := fun o : Ob => left (o.at_ : Int) && !((o.at_ : Int) == (ob.at_ : Int))) (by simp), List.filter_congr e]
      simp [lens]
      omega
    · have ih := remL_step h2 h3 hl
      have hlt := h1 ob h3
      replace ih : lens (List.filter (fun o : Ob => left (o.at_ : Int)) os) = lens (List.filter (fun o : Ob => left (o.at_ : Int) && !((o.at_ : Int) == (ob.at_ : Int))) os) + (ob.n + 1) := ih
      show lens (List.filter (fun o : Ob => left (o.at_ : Int)) (y :: os)) = lens (List.filter (fun o : Ob => left (o.at_ : Int) && !((o.at_ : Int) == (ob.at_ : Int))) (y :: os)) + (ob.n + 1)
      have e : (left (y.at_ : Int) && !((y.at_ : Int) == (ob.at_ : Int))) = left (y.at_ : Int) := by
        rw [show ((y.at_ : Int) == (ob.at_ : Int)) = false by rw [beq_eq_false_iff_ne]; omega]
        simp
      by_cases hy : left (y.at_ : Int) = true
      · rw [List.filter_cons_of_pos (p := fun o : Ob => left (o.at_ : Int)) hy, List.filter_cons_of_pos (p := fun o : Ob => left (o.at_ : Int) && !((o.at_ : Int) == (ob.at_ : Int))) (by rw [e]; exact hy)]
        simp only [lens, List.map_cons, List.sum_cons] at ih ⊢
        omega
      · rw [List.filter_cons_of_neg (p := fun o : Ob => left (o.at_ : Int)) hy, List.filter_cons_of_neg (p := fun o : Ob => left (o.at_ : Int) && !((o.at_ : Int) == (ob.at_ : Int))) (by rw [e]; exact hy)]
        exact ih

set_option maxRecDepth 100000 in
set_option maxHeartbeats 8000000 in
theorem WalkSums.core (l r s : Int) (v1 : Value) (hl1 : List HV) (v2 : Value) (xs2 : List Int) (w : World) (l0 : 0 ≤ l) (l1 : l ≤ 65535) (r0 : 0 ≤ r) (r1 : r ≤ 65535) (s0 : 0 ≤ s) (s1 : s ≤ 65535) (hm1 : RdH w v1 hl1) (ho1 : ∀ x ∈ hl1, x.Ok) (hn1 : hl1.length ≤ maxLen) (hr2 : Rd w v2 (xs2.map (Value.int .u16))) (hb2 : ∀ x ∈ xs2, 0 ≤ x ∧ x ≤ 65535) (hn2 : xs2.length ≤ maxLen) :
    Calls Try.prog 5 #[.agg #[.int .u16 l, .int .u16 r, .int .u16 s], v1, v2] w fun e w' => e = .returned (.bool true) ∧ Keep w.heap.size [] w w' := by
  simp only [maxLen] at hn1 hn2
  have HS := Lib.hid (((Sep.start w []).new 24 #[.int .u16 l, .int .u16 r, .int .u16 s]).new 4 #[.bool false])
  simp only [World.size_alloc] at HS
  obtain ⟨hk, hkL, hkR, hkS⟩ := kOf_ok (l := l) (r := r) (s := s) l0 r0 s0
  have hla := fun w hm hml hr hnl => linked_any l r s (0) v1 v2 hl1 xs2 w l0 l1 r0 r1 s0 s1 hm ho1 hml hr hb2 hnl (by decide) (by decide)
  have hpl := placed_length ((kOf l r s).from_ 0) (kOf l r s).S hl1 0
  generalize kOf l r s = k at *
  obtain ⟨os, hos⟩ : ∃ os, placed (k.from_ 0) k.S hl1 0 = os := ⟨_, rfl⟩
  obtain ⟨u, hu⟩ : ∃ u, usedOf k.S hl1 0 = u := ⟨_, rfl⟩
  simp only [hos, hu] at hla hpl
  have HLA := Lib.hid hla
  have HK := Lib.hid hk
  have HM := Lib.hid hm1
  have HRD := Lib.hid hr2
  have hS8 : 8 ≤ k.S := hk.s0
  have hw2 : k.words ≤ 10000 := (Kfg.words_le hk).2
  have hw1 : k.act + 2 + k.R ≤ k.words := (Kfg.words_le hk).1
  obtain ⟨HA, HC, hv1, hvv⟩ := hm1
  subst hv1
  obtain ⟨NA, NC, hv2, hvv2⟩ := hr2.cells
  subst hv2
  clear hla hk hos hu hvv hvv2 hr2
  refine Calls.mono (R := fun e w' => e = .returned (.bool true) ∧ Sep w [] [] w') ?_ fun e w' h => ⟨h.1, h.2.keep⟩
  refine calls_of_wpFr Try.func5 rfl ?_
  simp only [Try.ntmps5, List.size_toArray, List.length_cons, List.length_nil, Nat.reduceAdd, Nat.reduceSub, Array.replicate_succ,
     Array.replicate_zero, List.push_toArray, List.append_toArray, List.nil_append, List.cons_append]
  refine wpFr_seq (wpFr_of_wp ?_)
  go_wp2
  generalize (w.alloc _).alloc _ = w2 at *
  generalize w.heap.size = gx at *
  generalize gx + 1 = gr at *
  refine wpFr_seq (wpFr_of_wp ?_)
  go_wp2_with fail
  refine (awake11_any _).mono ?_
  rintro e w1 ⟨rfl, hk⟩
  replace HS := Lib.hid (HS.out.grow hk)
  clear hk
  go_wp2
  refine wpFr_seq (wpFr_of_wp ?_)
  by_cases hb1 : 30 < hl1.length
  · have hbI : (30 : Int) < hl1.length := by omega
    have r0 := (HS.out.blk 1 rfl).cell 0
    simp at r0
    have z2 := (HS.out.blk 1 rfl).frozen 0
    have hs2 := HS.out.put (i := 1) rfl 0 (.bool true)
    have HS2 := Lib.hid hs2
    clear hs2
    go_wp2
    have ld := loadVar_one (P := Try.prog) (ty := 4) (a := ⟨gr, 0, none⟩) (v := .bool true) (d := .bool) (by kernel_rfl) rfl (by rw [(HS2.out.blk 1 rfl).cell 0]; rfl)
    exact leave_none (results_c (fn := Try.f5) (p := 6) (ty := 4) (a1 := ⟨gr, 0, none⟩) rfl _ _ _ rfl ld) ⟨rfl, HS2.out.take 0⟩
  have hx2 : ((30 : Int) < hl1.length) = False := by rw [eq_iff_iff, iff_false]; omega
  have hx3 : (30 < hl1.length) = False := by rw [eq_iff_iff, iff_false]; omega
  by_cases hb3 : 60 < xs2.length
  · have hbI : (60 : Int) < xs2.length := by omega
    have r0 := (HS.out.blk 1 rfl).cell 0
    simp at r0
    have z2 := (HS.out.blk 1 rfl).frozen 0
    have hs2 := HS.out.put (i := 1) rfl 0 (.bool true)
    have HS2 := Lib.hid hs2
    clear hs2
    go_wp2
    have ld := loadVar_one (P := Try.prog) (ty := 4) (a := ⟨gr, 0, none⟩) (v := .bool true) (d := .bool) (by kernel_rfl) rfl (by rw [(HS2.out.blk 1 rfl).cell 0]; rfl)
    exact leave_none (results_c (fn := Try.f5) (p := 6) (ty := 4) (a1 := ⟨gr, 0, none⟩) rfl _ _ _ rfl ld) ⟨rfl, HS2.out.take 0⟩
  have hx4 : ((60 : Int) < xs2.length) = False := by rw [eq_iff_iff, iff_false]; omega
  have hx5 : (60 < xs2.length) = False := by rw [eq_iff_iff, iff_false]; omega
  go_wp2
  clear hx2 hx3 hx4 hx5
  refine wpFr_seq (wpFr_of_wp ?_)
  have c0 := (HS.out.blk 0 rfl).cell 0
  simp at c0
  have c1 := (HS.out.blk 0 rfl).cell 1
  simp at c1
  have c2 := (HS.out.blk 0 rfl).cell 2
  simp at c2
  go_wp2_with fail
  refine (HLA.out _ (HM.out.keep HS.out.keep) (by omega) (HRD.out.keep HS.out.keep) (by omega)).mono ?_
  rintro e w3 ⟨d, t, rv, ov, rfl, hf, hS⟩
  obtain ⟨OA, OC, hov⟩ := rowR_val (hS.row 1 rfl)
  obtain ⟨RA, RC, hrv⟩ := rowR_val (hS.row 2 rfl)
  rw [atsOf_length] at hov
  obtain ⟨rs, hrs⟩ : ∃ rs, rootsOf t k k.R = rs := ⟨_, rfl⟩
  rw [hrs] at hrv hS
  obtain ⟨RL, hRL⟩ : ∃ RL, (uw rs).length = RL := ⟨_, rfl⟩
  rw [hRL] at hrv
  subst hov hrv
  have hadds := HS.out.adds hS
  replace HS := Lib.hid hadds
  have HL := Lib.hid hf
  simp only [Kfg.cells, rbC]
  clear hS hadds hf hrs hRL c0 c1 c2 HLA HM HRD
  go_wp2
  replace HS := Lib.hid ((HS.out.new 30 #[.int .i64 (k.L : Int), .int .i64 (k.R : Int), .int .i64 (k.S : Int)]).new 33 #[.int .i64 0, .int .i64 (u : Int), .slice RA RL RC])
  simp only [World.size_alloc] at HS
  generalize (w3.alloc _).alloc _ = w4 at *
  generalize w3.heap.size = gk at *
  generalize gk + 1 = gb at *
  refine wpFr_seq (wpFr_of_wp ?_)
  go_wp2
  obtain ⟨f, hf0⟩ : ∃ f, k.from_ 0 = f := ⟨_, rfl⟩
  have hus : u ≤ k.S := HL.out.fill.le
  have hfw := Kfg.from_words HK.out (a := 0) (by decide)
  rw [hf0] at hfw
  have hosl : os.length ≤ 1000 := by omega
  have hch := HL.out.fill.chain
  rw [hf0] at hch
  have hsum := Chain.sum hch
  have hlu : lens os = u := by omega
  have hu97 : u ≤ 97 := by omega
  have hsq := fun gb gk gd => objs_seq d t k 0 u (f + u) f gb gk gd RA RL RC HK.out (by decide) hus hf0 rfl HL.out.rng
  have hsc := HL.out.fill.scan
  rw [hf0] at hsc
  have hst := fun w hd => starts_any d t k 0 u (f + u) f RA RL RC w hd HK.out (by decide) hus hf0 rfl HL.out.rng
  have herr : errAt (scan t (f + u) f) = 0 := errAt_zero fun x hx => by
    rw [hsc] at hx
    obtain ⟨o, _, rfl⟩ := List.mem_map.1 hx
    rfl
  rw [herr] at hst
  have hmg : ∀ j v, mapOf (scan t (f + u) f) j = some v → ∃ o ∈ os, (o.at_ : Int) = j ∧ v = .agg #[.int .i64 (o.n : Int), .int .i64 (o.b : Int), .int .i64 (o.at_ : Int)] := fun j v hv => by
    obtain ⟨x, hx, _, h2, h3⟩ := (mapOf_get (scan_rise t (f + u) f)).1 hv
    rw [hsc] at hx
    obtain ⟨o, ho, rfl⟩ := List.mem_map.1 hx
    exact ⟨o, ho, h2, h3⟩
  have hms : ∀ o ∈ os, (mapOf (scan t (f + u) f) (o.at_ : Int)).isSome = true := fun o ho => by
    rw [mapOf_some (scan_rise t (f + u) f), hsc]
    exact List.mem_map.2 ⟨⟨o.at_, o.n, o.b, 0⟩, List.mem_filter.2 ⟨List.mem_map.2 ⟨o, ho, rfl⟩, by simp⟩, rfl⟩
  obtain ⟨M, hM⟩ : ∃ M, mapOf (scan t (f + u) f) = M := ⟨_, rfl⟩
  rw [hM] at hst hmg hms
  rw [hsc] at hsq
  have hpl0 := fun w => place_is k 0 u 0 f (.slice RA RL RC) w HK.out (by decide) hf0 (by decide)
  have hplu := fun w => place_is k 0 u u (f + u) (.slice RA RL RC) w HK.out (by decide) (by rw [hf0]) (by omega)
  simp only [rbC, Kfg.cells] at hpl0 hplu
  have HSQ := Lib.hid hsq
  have HST := Lib.hid hst
  have HMG := Lib.hid hmg
  have HMS := Lib.hid hms
  have HP0 := Lib.hid hpl0
  have HPU := Lib.hid hplu
  have HCH := Lib.hid hch
  have HSMO := Lib.hid HL.out.fill.small
  have HLU := Lib.hid hlu
  clear hf0 hus hch hsum hsq hsc hst herr hmg hms hpl0 hplu hM hlu HL
  refine wpFr_seq (wpFr_of_wp ?_)
  have c0 := (HS.out.blk 5 rfl).cell 0
  simp at c0
  have c1 := (HS.out.blk 5 rfl).cell 1
  simp at c1
  have c2 := (HS.out.blk 5 rfl).cell 2
  simp at c2
  have b0 := (HS.out.blk 6 rfl).cell 0
  simp at b0
  have b1 := (HS.out.blk 6 rfl).cell 1
  simp at b1
  have b2 := (HS.out.blk 6 rfl).cell 2
  simp at b2
  go_wp2_with fail
  refine (HP0.out _).mono ?_
  rintro e1 w5 ⟨rfl, hkk⟩
  replace HS := Lib.hid ((HS.out.grow hkk).new 3 #[.int .i64 (((f + lens (os.take 0)) : Nat) : Int)])
  rw [show ((f + lens (os.take 0) : Nat) : Int) = (f : Int) by simp [lens]] at HS
  clear hkk c0 c1 c2 b0 b1 b2
  go_wp2
  generalize w5.alloc _ = w6 at *
  generalize w5.heap.size = ga at *
  refine wpFr_seq (wpFr_seq (wpFr_of_wp ?_))
  have c0 := (HS.out.blk 5 rfl).cell 0
  simp at c0
  have c1 := (HS.out.blk 5 rfl).cell 1
  simp at c1
  have c2 := (HS.out.blk 5 rfl).cell 2
  simp at c2
  have b0 := (HS.out.blk 6 rfl).cell 0
  simp at b0
  have b1 := (HS.out.blk 6 rfl).cell 1
  simp at b1
  have b2 := (HS.out.blk 6 rfl).cell 2
  simp at b2
  go_wp2_with fail
  refine (objects_any _ _ _ _ _ _ _ _ ⟨_, rfl⟩ ⟨_, _, _, rfl, rfl, rfl⟩ ⟨_, _, _, _, _, rfl, rfl, rfl⟩).mono ?_
  rintro e1 w7 ⟨rfl, rfl⟩
  replace HS := Lib.hid (((HS.out.new 28 #[.pointer (some ⟨d.b, 0, none⟩)]).new 30 #[.int .i64 (k.L : Int), .int .i64 (k.R : Int), .int .i64 (k.S : Int)]).new 33 #[.int .i64 0, .int .i64 (u : Int), .slice RA RL RC])
  simp only [World.size_alloc] at HS
  generalize ((w6.alloc _).alloc _).alloc _ = w7 at *
  generalize w6.heap.size = g1 at *
  generalize g1 + 1 = g2 at *
  generalize g2 + 1 = g3 at *
  clear c0 c1 c2 b0 b1 b2
  go_wp2
  replace HS : Hid (Sep w [] [blkR gx 24 #[.int .u16 l, .int .u16 r, .int .u16 s], blkR gr 4 #[.bool false], devR d t, rowR 3 (.slice OA os.length OC) (atsOf os), rowR 26 (.slice RA RL RC) (uw rs), blkR gk 30 #[.int .i64 (k.L : Int), .int .i64 (k.R : Int), .int .i64 (k.S : Int)], blkR gb 33 #[.int .i64 0, .int .i64 (u : Int), .slice RA RL RC], blkR ga 3 #[.int .i64 (((f + lens (os.take 0)) : Nat) : Int)], blkR g1 28 #[.pointer (some ⟨d.b, 0, none⟩)], blkR g2 30 #[.int .i64 (k.L : Int), .int .i64 (k.R : Int), .int .i64 (k.S : Int)], blkR g3 33 #[.int .i64 0, .int .i64 (u : Int), .slice RA RL RC]] w7) := by
    rw [show ((f + lens (os.take 0) : Nat) : Int) = (f : Int) by simp [lens]]
    exact HS
  refine wpFr_rangeB HS.out rfl (enters_of Try.func58 (by kernel_rfl) rfl) (HSQ.out g3 g2 g1) (fun _ => rfl)
    (fun m L => L = [blkR gx 24 #[.int .u16 l, .int .u16 r, .int .u16 s], blkR gr 4 #[.bool false], devR d t, rowR 3 (.slice OA os.length OC) (atsOf os), rowR 26 (.slice RA RL RC) (uw rs), blkR gk 30 #[.int .i64 (k.L : Int), .int .i64 (k.R : Int), .int .i64 (k.S : Int)], blkR gb 33 #[.int .i64 0, .int .i64 (u : Int), .slice RA RL RC], blkR ga 3 #[.int .i64 (((f + lens (os.take m)) : Nat) : Int)], blkR g1 28 #[.pointer (some ⟨d.b, 0, none⟩)], blkR g2 30 #[.int .i64 (k.L : Int), .int .i64 (k.R : Int), .int .i64 (k.S : Int)], blkR g3 33 #[.int .i64 0, .int .i64 (u : Int), .slice RA RL RC]]) (fun L => False) (fun L => L = [blkR gx 24 #[.int .u16 l, .int .u16 r, .int .u16 s], blkR gr 4 #[.bool false], devR d t, rowR 3 (.slice OA os.length OC) (atsOf os), rowR 26 (.slice RA RL RC) (uw rs), blkR gk 30 #[.int .i64 (k.L : Int), .int .i64 (k.R : Int), .int .i64 (k.S : Int)], blkR gb 33 #[.int .i64 0, .int .i64 (u : Int), .slice RA RL RC], blkR ga 3 #[.int .i64 (((f + u) : Nat) : Int)], blkR g1 28 #[.pointer (some ⟨d.b, 0, none⟩)], blkR g2 30 #[.int .i64 (k.L : Int), .int .i64 (k.R : Int), .int .i64 (k.S : Int)], blkR g3 33 #[.int .i64 0, .int .i64 (u : Int), .slice RA RL RC]])
    rfl (fun L h => by rw [h, List.length_map, List.take_length, HLU.out]) (fun L h => h.elim) ?_ ?_ ?_
  · rintro m L X W' hm rfl hs
    exact ⟨hs.blk 10 rfl, hs.blk 9 rfl, hs.blk 8 rfl, hs.dev 2 rfl⟩
  · rintro l9 m L X r1 r2 W' hm rfl hs
    rw [List.length_map] at hm
    obtain ⟨ob, hob⟩ : ∃ ob, os[m]? = some ob := ⟨_, List.getElem?_eq_getElem hm⟩
    have hgd : (os.map (fun o => (⟨o.at_, o.n, o.b, 0⟩ : It))).getD m It0 = ⟨ob.at_, ob.n, ob.b, 0⟩ := by rw [List.getD_eq_getElem?_getD, List.getElem?_map, hob]; rfl
    rw [hgd]
    have hat := Chain.at_sum HCH.out hob
    have hsu := lens_succ hob
    have hsmo := HSMO.out ob (List.mem_of_getElem? hob)
    have hle := lens_le os (m + 1)
    have hlu := HLU.out
    obtain ⟨a0, ha0⟩ : ∃ a0, f + lens (os.take m) = a0 := ⟨_, rfl⟩
    obtain ⟨a1, ha1⟩ : ∃ a1, f + lens (os.take (m + 1)) = a1 := ⟨_, rfl⟩
    have hal : a1 ≤ 20000 := by omega
    have haa : ob.at_ = a0 ∧ a1 = a0 + (ob.n + 1) := by omega
    have HA1 := Lib.hid ha1
    rw [ha0] at hs
    clear hgd HS hob hat hsu hle hlu ha0 ha1
    obtain ⟨at_, mm, bb⟩ := ob
    obtain ⟨haa1, haa2⟩ := haa
    simp only at haa1 haa2 hsmo
    subst haa1
    obtain ⟨hm8, hbm⟩ := hsmo
    have hsz := fun w => hsize_eq (mm : Int) (bb : Int) ((mm : Int) + 1) w (by omega) (by omega) rfl
    have HSZ := Lib.hid hsz
    have hw1 : IntKind.i64.wrap ((at_ : Int) + ((mm : Int) + 1)) = (a1 : Int) := by rw [IntWalk.i64_in _ (by omega)]; omega
    clear hsz haa2
    simp only [itV, obV]
    gi_wp2
    refine ⟨[blkR gx 24 #[.int .u16 l, .int .u16 r, .int .u16 s], blkR gr 4 #[.bool false], devR d t, rowR 3 (.slice OA os.length OC) (atsOf os), rowR 26 (.slice RA RL RC) (uw rs), blkR gk 30 #[.int .i64 (k.L : Int), .int .i64 (k.R : Int), .int .i64 (k.S : Int)], blkR gb 33 #[.int .i64 0, .int .i64 (u : Int), .slice RA RL RC], blkR ga 3 #[.int .i64 (((at_) : Nat) : Int)], blkR g1 28 #[.pointer (some ⟨d.b, 0, none⟩)], blkR g2 30 #[.int .i64 (k.L : Int), .int .i64 (k.R : Int), .int .i64 (k.S : Int)], blkR g3 33 #[.int .i64 0, .int .i64 (u : Int), .slice RA RL RC]] ++ [blkR W'.heap.size 44 #[.int .i64 (mm : Int), .int .i64 (bb : Int), .int .i64 (at_ : Int)]], Sep.bring _ _ (hs.new 44 #[.int .i64 (mm : Int), .int .i64 (bb : Int), .int .i64 (at_ : Int)]), ?_⟩
    clear hs
    generalize W'.heap.size = go at *
    rintro q2 W2 hs
    have HS := Lib.hid hs
    clear hs
    have a0 := (HS.out.blk 7 rfl).cell 0
    simp at a0
    have o2 := (HS.out.blk 11 rfl).cell 2
    simp at o2
    gi_upto_region 14 with fail
    clear a0 o2
    refine wpIn_region_st3 (W := w) (S := []) (by kernel_rfl) (by kernel_rfl) (by kernel_rfl) (by kernel_rfl) (fun D uu => ([blkR gx 24 #[.int .u16 l, .int .u16 r, .int .u16 s], blkR gr 4 #[.bool false], devR d t, rowR 3 (.slice OA os.length OC) (atsOf os), rowR 26 (.slice RA RL RC) (uw rs), blkR gk 30 #[.int .i64 (k.L : Int), .int .i64 (k.R : Int), .int .i64 (k.S : Int)], blkR gb 33 #[.int .i64 0, .int .i64 (u : Int), .slice RA RL RC], blkR ga 3 #[bif D 5 then .int .i64 (a1 : Int) else .int .i64 (at_ : Int)], blkR g1 28 #[.pointer (some ⟨d.b, 0, none⟩)], blkR g2 30 #[.int .i64 (k.L : Int), .int .i64 (k.R : Int), .int .i64 (k.S : Int)], blkR g3 33 #[.int .i64 0, .int .i64 (u : Int), .slice RA RL RC]] ++ [blkR go 44 #[.int .i64 (mm : Int), .int .i64 (bb : Int), .int .i64 (at_ : Int)]] ++ r1 :: q2 :: X))
      (fun j v => match j with
        | 0 => v = .int .i64 (at_ : Int)
        | 1 => v = .pointer (some ⟨go, 0, none⟩)
        | 2 => v = .agg #[.int .i64 (mm : Int), .int .i64 (bb : Int)]
        | 3 => v = .int .i64 ((mm : Int) + 1)
        | 4 => v = .int .i64 (a1 : Int)
        | _ => True) ?start ?step ?fin
    case start => exact fun u => HS.out
    case step =>
      clear HS
      refine ⟨?_, ?_, ?_, ?_, ?_, ?_, trivial⟩
      · intro D uu w' K hD hF hl hS hK
        simp only [puts, Act.put, List.setIfInBounds_toArray, List.set_cons_succ, List.set_cons_zero, Nat.zero_add, Nat.reduceAdd]
        have hlate := hl 5 (by kernel_rfl)
        simp only [hlate, cond_false] at hS
        have x0 := (hS.blk 7 rfl).cell 0
        simp at x0
        go_simp
        simp only [yUpon]
        refine hK _ _ rfl ?_
        have e1 : (fset D 0 true) 5 = false := hlate
        simp only [e1, cond_false]
        exact hS
      · intro D uu w' K hD hF hl hS hK
        simp only [puts, Act.put, List.setIfInBounds_toArray, List.set_cons_succ, List.set_cons_zero, Nat.zero_add, Nat.reduceAdd]
        go_simp
        simp only [yUpon]
        exact hK _ _ rfl hS
      · intro D uu w' K hD hF hl hS hK
        have f1 := (hF 1 (by kernel_rfl)).2
        simp only at f1
        simp only [puts, Act.put, List.setIfInBounds_toArray, List.set_cons_succ, List.set_cons_zero, Nat.zero_add, Nat.reduceAdd]
        simp only [f1]
        have x0 := (hS.blk 11 rfl).cell 0
        have x1 := (hS.blk 11 rfl).cell 1
        simp at x0 x1
        go_simp
        simp only [yUpon]
        exact hK _ _ rfl hS
      · intro D uu w' K hD hF hl hS hK
        have f2 := (hF 2 (by kernel_rfl)).2
        simp only at f2
        simp only [puts, Act.put, List.setIfInBounds_toArray, List.set_cons_succ, List.set_cons_zero, Nat.zero_add, Nat.reduceAdd]
        simp only [f2]
        go_simp
        simp only [yUpon]
        refine (HSZ.out _).mono ?_
        rintro e w1 ⟨rfl, hkk⟩
        exact hK _ _ rfl (hS.grow hkk)
      · intro D uu w' K hD hF hl hS hK
        have f0 := (hF 0 (by kernel_rfl)).2
        simp only at f0
        have f3 := (hF 3 (by kernel_rfl)).2
        simp only at f3
        simp only [puts, Act.put, List.setIfInBounds_toArray, List.set_cons_succ, List.set_cons_zero, Nat.zero_add, Nat.reduceAdd]
        simp only [f0, f3]
        go_simp
        simp only [yUpon]
        exact hK _ _ rfl hS
      · intro D uu w' K hD hF hl hS hK
        have f4 := (hF 4 (by kernel_rfl)).2
        simp only at f4
        simp only [puts, Act.put, List.setIfInBounds_toArray, List.set_cons_succ, List.set_cons_zero, Nat.zero_add, Nat.reduceAdd]
        simp only [f4]
        simp only [hD, cond_false] at hS
        have x0 := (hS.blk 7 rfl).cell 0
        simp at x0
        have z0 := (hS.blk 7 rfl).frozen 0
        have hput := hS.put (i := 7) rfl 0 (.int .i64 (a1 : Int))
        have e1 : (fset D 5 true) 5 = true := rfl
        go_simp
        simp only [yUpon]
        refine hK _ _ trivial ?_
        simp only [e1, cond_true]
        exact hput
    case fin =>
      intro D uu wf hall hS
      have f5 := (hall 5 (by simp)).1
      simp only [f5, cond_true] at hS
      have HS := Lib.hid hS
      clear hall hS f5
      simp only [puts, Act.put, List.setIfInBounds_toArray, List.set_cons_succ, List.set_cons_zero, Nat.zero_add, Nat.reduceAdd]
      gi_wp2
      rw [show (f : Int) + (lens (os.take (m + 1)) : Int) = (a1 : Int) by have := HA1.out; omega]
      exact Sep.dropMid (r := blkR go 44 #[.int .i64 (mm : Int), .int .i64 (bb : Int), .int .i64 (at_ : Int)]) _ _ HS.out
  · rintro D0 L r2 w8 rfl hs
    have HS := Lib.hid hs
    clear hs HSQ
    replace HS : Hid (Sep w [] ([blkR gx 24 #[.int .u16 l, .int .u16 r, .int .u16 s], blkR gr 4 #[.bool false], devR d t, rowR 3 (.slice OA os.length OC) (atsOf os), rowR 26 (.slice RA RL RC) (uw rs), blkR gk 30 #[.int .i64 (k.L : Int), .int .i64 (k.R : Int), .int .i64 (k.S : Int)], blkR gb 33 #[.int .i64 0, .int .i64 (u : Int), .slice RA RL RC], blkR ga 3 #[.int .i64 (((f + u) : Nat) : Int)], blkR g1 28 #[.pointer (some ⟨d.b, 0, none⟩)], blkR g2 30 #[.int .i64 (k.L : Int), .int .i64 (k.R : Int), .int .i64 (k.S : Int)], blkR g3 33 #[.int .i64 0, .int .i64 (u : Int), .slice RA RL RC]] ++ [objR D0 (.deferred (some []))]) w8) := Lib.hid (HS.out.take 12)
    simp only [Exit.then]
    refine wpFr_of_wp ?_
    have c0 := (HS.out.blk 5 rfl).cell 0
    simp at c0
    have c1 := (HS.out.blk 5 rfl).cell 1
    simp at c1
    have c2 := (HS.out.blk 5 rfl).cell 2
    simp at c2
    have b0 := (HS.out.blk 6 rfl).cell 0
    simp at b0
    have b1 := (HS.out.blk 6 rfl).cell 1
    simp at b1
    have b2 := (HS.out.blk 6 rfl).cell 2
    simp at b2
    go_wp2_with fail
    refine (HST.out _ (HS.out.dev 2 rfl)).mono ?_
    rintro e1 w9 ⟨mr, rfl, hS⟩
    replace HS := Lib.hid (HS.out.adds hS)
    obtain ⟨w10, cnt0, hrg, hs10⟩ := HS.out.range (P := Try.prog) (i := 12) rfl u_starts
    replace HS := Lib.hid hs10
    obtain ⟨rr, hrr⟩ : ∃ rr, w9.heap.size = rr := ⟨_, rfl⟩
    rw [hrr] at hrg HS
    have hst0 : remL (fun k => (M k).isSome) os = u := by rw [remL_all HMS.out, HLU.out]
    have HST0 := Lib.hid hst0
    clear hS hs10 hrr c0 c1 c2 b0 b1 b2 HST hst0
    go_wp2_with fail
    clear hrg
    go_loopw [16, 18] (fun v16 _ wr => ∃ (left : Int → Bool) (cnt sm : Nat), v16 = .int .i64 (sm : Int) ∧ sm + remL left os = u ∧ Sep w [] ([blkR gx 24 #[.int .u16 l, .int .u16 r, .int .u16 s], blkR gr 4 #[.bool false], devR d t, rowR 3 (.slice OA os.length OC) (atsOf os), rowR 26 (.slice RA RL RC) (uw rs), blkR gk 30 #[.int .i64 (k.L : Int), .int .i64 (k.R : Int), .int .i64 (k.S : Int)], blkR gb 33 #[.int .i64 0, .int .i64 (u : Int), .slice RA RL RC], blkR ga 3 #[.int .i64 (((f + u) : Nat) : Int)], blkR g1 28 #[.pointer (some ⟨d.b, 0, none⟩)], blkR g2 30 #[.int .i64 (k.L : Int), .int .i64 (k.R : Int), .int .i64 (k.S : Int)], blkR g3 33 #[.int .i64 0, .int .i64 (u : Int), .slice RA RL RC]] ++ [objR D0 (.deferred (some [])), iterR mr rr .i64 M left cnt]) wr) (fun _ _ wr => wr.rangeLeft mr rr)
    case atStart => exact ⟨_, cnt0, 0, rfl, by rw [HST0.out]; omega, HS.out⟩
    case round =>
      clear HS HST0
      obtain ⟨left, cnt, sm, rfl, hsm, hs⟩ := hrel
      have hle := (hs.all 12 _ rfl : IterAt wr mr rr .i64 M left cnt).left_eq
      rcases hs.next (P := Try.prog) (i := 12) rfl with ⟨h0, hl0, hnx⟩ | ⟨kk, vv, w11, cnt', hMk, hlk, hlt, hs2, hnx, hen⟩
      · rw [remL_none hl0] at hsm
        obtain rfl : sm = u := by omega
        have HS := Lib.hid hs
        clear h0 hl0 hle hs
        go_upto_region 21 with fail
        clear hnx
        refine wp_region_st3 (W := w) (S := []) (by kernel_rfl) (by kernel_rfl) (by kernel_rfl) (fun D uu => ([blkR gx 24 #[.int .u16 l, .int .u16 r, .int .u16 s], blkR gr 4 #[bif D 17 then .bool true else .bool false], devR d t, rowR 3 (.slice OA os.length OC) (atsOf os), rowR 26 (.slice RA RL RC) (uw rs), blkR gk 30 #[.int .i64 (k.L : Int), .int .i64 (k.R : Int), .int .i64 (k.S : Int)], blkR gb 33 #[.int .i64 0, .int .i64 (sm : Int), .slice RA RL RC], blkR ga 3 #[.int .i64 (((f + sm) : Nat) : Int)], blkR g1 28 #[.pointer (some ⟨d.b, 0, none⟩)], blkR g2 30 #[.int .i64 (k.L : Int), .int .i64 (k.R : Int), .int .i64 (k.S : Int)], blkR g3 33 #[.int .i64 0, .int .i64 (sm : Int), .slice RA RL RC]] ++ [objR D0 (.deferred (some [])), iterR mr rr .i64 M left cnt]))
          (fun j v => match j with
            | 0 => v = .int .i64 ((f + sm : Nat) : Int)
            | 1 => v = .agg #[.int .i64 0, .int .i64 (sm : Int), .slice RA RL RC]
            | 2 => v = .agg #[.int .i64 (k.L : Int), .int .i64 (k.R : Int), .int .i64 (k.S : Int)]
            | 3 => v = .pointer (some ⟨gb, 1, none⟩)
            | 4 => v = .int .i64 (sm : Int)
            | 5 => v = .int .i64 ((f + sm : Nat) : Int)
            | 6 => v = .bool true
            | 7 => v = .bool true
            | 8 => v = .int .i64 0
            | 9 => v = .bool true
            | 10 => v = .bool true
            | 11 => v = .bool true
            | 12 => v = .int .i64 (sm : Int)
            | 13 => v = .pointer (some ⟨gb, 1, none⟩)
            | 14 => v = .int .i64 (sm : Int)
            | 15 => v = .bool true
            | 16 => v = .bool true
            | _ => True) ?start ?step ?fin
        case start => exact fun u => HS.out
        case step =>
          clear HS
          refine ⟨?_, ?_, ?_, ?_, ?_, ?_, ?_, ?_, ?_, ?_, ?_, ?_, ?_, ?_, ?_, ?_, ?_, ?_, trivial⟩
          · intro D uu w' K hD hF hl hS hK
            simp only [puts, Act.put, List.setIfInBounds_toArray, List.set_cons_succ, List.set_cons_zero, Nat.zero_add, Nat.reduceAdd]
            have x0 := (hS.blk 7 rfl).cell 0
            simp at x0
            go_simp
            simp only [yUpon]
            exact hK _ _ rfl hS
          · intro D uu w' K hD hF hl hS hK
            simp only [puts, Act.put, List.setIfInBounds_toArray, List.set_cons_succ, List.set_cons_zero, Nat.zero_add, Nat.reduceAdd]
            have x0 := (hS.blk 6 rfl).cell 0
            have x1 := (hS.blk 6 rfl).cell 1
            have x2 := (hS.blk 6 rfl).cell 2
            simp at x0 x1 x2
            go_simp
            simp only [yUpon]
            exact hK _ _ rfl hS
          · intro D uu w' K hD hF hl hS hK
            simp only [puts, Act.put, List.setIfInBounds_toArray, List.set_cons_succ, List.set_cons_zero, Nat.zero_add, Nat.reduceAdd]
            have x0 := (hS.blk 5 rfl).cell 0
            have x1 := (hS.blk 5 rfl).cell 1
            have x2 := (hS.blk 5 rfl).cell 2
            simp at x0 x1 x2
            go_simp
            simp only [yUpon]
            exact hK _ _ rfl hS
          · intro D uu w' K hD hF hl hS hK
            simp only [puts, Act.put, List.setIfInBounds_toArray, List.set_cons_succ, List.set_cons_zero, Nat.zero_add, Nat.reduceAdd]
            go_simp
            simp only [yUpon]
            exact hK _ _ rfl hS
          · intro D uu w' K hD hF hl hS hK
            have f3 := (hF 3 (by kernel_rfl)).2
            simp only at f3
            simp only [puts, Act.put, List.setIfInBounds_toArray, List.set_cons_succ, List.set_cons_zero, Nat.zero_add, Nat.reduceAdd]
            simp only [f3]
            have x1 := (hS.blk 6 rfl).cell 1
            simp at x1
            go_simp
            simp only [yUpon]
            exact hK _ _ rfl hS
          · intro D uu w' K hD hF hl hS hK
            have f1 := (hF 1 (by kernel_rfl)).2
            simp only at f1
            have f2 := (hF 2 (by kernel_rfl)).2
            simp only at f2
            have f4 := (hF 4 (by kernel_rfl)).2
            simp only at f4
            simp only [puts, Act.put, List.setIfInBounds_toArray, List.set_cons_succ, List.set_cons_zero, Nat.zero_add, Nat.reduceAdd]
            simp only [f1, f2, f4]
            go_simp
            simp only [yUpon]
            refine (HPU.out _).mono ?_
            rintro e w1 ⟨rfl, hkk⟩
            exact hK _ _ rfl (hS.grow hkk)
          · intro D uu w' K hD hF hl hS hK
            have f0 := (hF 0 (by kernel_rfl)).2
            simp only at f0
            have f5 := (hF 5 (by kernel_rfl)).2
            simp only at f5
            simp only [puts, Act.put, List.setIfInBounds_toArray, List.set_cons_succ, List.set_cons_zero, Nat.zero_add, Nat.reduceAdd]
            simp only [f0, f5]
            go_simp
            simp only [yUpon]
            exact hK _ _ rfl hS
          · intro D uu w' K hD hF hl hS hK
            have f6 := (hF 6 (by kernel_rfl)).2
            simp only at f6
            simp only [puts, Act.put, List.setIfInBounds_toArray, List.set_cons_succ, List.set_cons_zero, Nat.zero_add, Nat.reduceAdd]
            simp only [f6]
            go_simp
            simp only [yUpon]
            exact hK _ _ rfl hS
          · intro D uu w' K hD hF hl hS hK
            have f7 := (hF 7 (by kernel_rfl)).2
            simp only at f7
            simp only [puts, Act.put, List.setIfInBounds_toArray, List.set_cons_succ, List.set_cons_zero, Nat.zero_add, Nat.reduceAdd]
            simp only [f7]
            go_simp
            simp only [yUpon]
            exact hK _ _ rfl hS
          · intro D uu w' K hD hF hl hS hK
            have f7 := (hF 7 (by kernel_rfl)).2
            simp only at f7
            have f8 := (hF 8 (by kernel_rfl)).2
            simp only at f8
            simp only [puts, Act.put, List.setIfInBounds_toArray, List.set_cons_succ, List.set_cons_zero, Nat.zero_add, Nat.reduceAdd]
            simp only [f7, f8]
            go_simp
            simp only [yUpon]
            exact hK _ _ rfl hS
          · intro D uu w' K hD hF hl hS hK
            have f7 := (hF 7 (by kernel_rfl)).2
            simp only at f7
            have f9 := (hF 9 (by kernel_rfl)).2
            simp only at f9
            simp only [puts, Act.put, List.setIfInBounds_toArray, List.set_cons_succ, List.set_cons_zero, Nat.zero_add, Nat.reduceAdd]
            simp only [f7, f9]
            go_simp
            simp only [yUpon]
            exact hK _ _ rfl hS
          · intro D uu w' K hD hF hl hS hK
            have f10 := (hF 10 (by kernel_rfl)).2
            simp only at f10
            simp only [puts, Act.put, List.setIfInBounds_toArray, List.set_cons_succ, List.set_cons_zero, Nat.zero_add, Nat.reduceAdd]
            simp only [f10]
            go_simp
            simp only [yUpon]
            exact hK _ _ rfl hS
          · intro D uu w' K hD hF hl hS hK
            have f11 := (hF 11 (by kernel_rfl)).2
            simp only at f11
            simp only [puts, Act.put, List.setIfInBounds_toArray, List.set_cons_succ, List.set_cons_zero, Nat.zero_add, Nat.reduceAdd]
            simp only [f11]
            go_simp
            simp only [yUpon]
            exact hK _ _ rfl hS
          · intro D uu w' K hD hF hl hS hK
            have f11 := (hF 11 (by kernel_rfl)).2
            simp only at f11
            simp only [puts, Act.put, List.setIfInBounds_toArray, List.set_cons_succ, List.set_cons_zero, Nat.zero_add, Nat.reduceAdd]
            simp only [f11]
            go_simp
            simp only [yUpon]
            exact hK _ _ rfl hS
          · intro D uu w' K hD hF hl hS hK
            have f11 := (hF 11 (by kernel_rfl)).2
            simp only at f11
            have f13 := (hF 13 (by kernel_rfl)).2
            simp only at f13
            simp only [puts, Act.put, List.setIfInBounds_toArray, List.set_cons_succ, List.set_cons_zero, Nat.zero_add, Nat.reduceAdd]
            simp only [f11, f13]
            have x1 := (hS.blk 6 rfl).cell 1
            simp at x1
            go_simp
            simp only [yUpon]
            exact hK _ _ rfl hS
          · intro D uu w' K hD hF hl hS hK
            have f11 := (hF 11 (by kernel_rfl)).2
            simp only at f11
            have f12 := (hF 12 (by kernel_rfl)).2
            simp only at f12
            have f14 := (hF 14 (by kernel_rfl)).2
            simp only at f14
            simp only [puts, Act.put, List.setIfInBounds_toArray, List.set_cons_succ, List.set_cons_zero, Nat.zero_add, Nat.reduceAdd]
            simp only [f11, f12, f14]
            go_simp
            simp only [yUpon]
            exact hK _ _ rfl hS
          · intro D uu w' K hD hF hl hS hK
            have f11 := (hF 11 (by kernel_rfl)).2
            simp only at f11
            have f15 := (hF 15 (by kernel_rfl)).2
            simp only at f15
            simp only [puts, Act.put, List.setIfInBounds_toArray, List.set_cons_succ, List.set_cons_zero, Nat.zero_add, Nat.reduceAdd]
            simp only [f11, f15]
            go_simp
            simp only [yUpon]
            exact hK _ _ rfl hS
          · intro D uu w' K hD hF hl hS hK
            have f16 := (hF 16 (by kernel_rfl)).2
            simp only at f16
            simp only [puts, Act.put, List.setIfInBounds_toArray, List.set_cons_succ, List.set_cons_zero, Nat.zero_add, Nat.reduceAdd]
            simp only [f16]
            simp only [hD, cond_false] at hS
            have x0 := (hS.blk 1 rfl).cell 0
            simp at x0
            have z0 := (hS.blk 1 rfl).frozen 0
            have hput := hS.put (i := 1) rfl 0 (.bool true)
            have e1 : (fset D 17 true) 17 = true := rfl
            go_simp
            simp only [yUpon]
            refine hK _ _ trivial ?_
            simp only [e1, cond_true]
            exact hput
        case fin =>
          intro D uu wf hall hS
          have f17 := (hall 17 (by simp)).1
          simp only [f17, cond_true] at hS
          have HS := Lib.hid hS
          clear hall hS f17
          simp only [puts, Act.put, List.setIfInBounds_toArray, List.set_cons_succ, List.set_cons_zero, Nat.zero_add, Nat.reduceAdd]
          go_wp2
          have hp := HS.out.putObj (i := 11) rfl (.deferred none)
          have ld := loadVar_one (P := Try.prog) (ty := 4) (a := ⟨gr, 0, none⟩) (v := .bool true) (d := .bool) (by kernel_rfl) rfl (by rw [(hp.blk 1 rfl).cell 0]; rfl)
          exact leave_mark (HS.out.all 11 _ rfl) (results_c (fn := Try.f5) (p := 6) (ty := 4) (a1 := ⟨gr, 0, none⟩) rfl _ _ _ rfl ld) ⟨rfl, hp.take 0⟩
      · obtain ⟨ob, hmem, hat, rfl⟩ := HMG.out kk vv hMk
        subst hat
        have hrs := remL_step (Chain.rise HCH.out) hmem hlk
        have hsmo := HSMO.out ob hmem
        obtain ⟨at_, mm, bb⟩ := ob
        simp only at hrs hsmo hnx hen hs2
        obtain ⟨hm8, hbm⟩ := hsmo
        rw [hrs] at hsm
        have hsz := fun w => hsize_eq (mm : Int) (bb : Int) ((mm : Int) + 1) w (by omega) (by omega) rfl
        have HSZ := Lib.hid hsz
        have hw1 : IntKind.i64.wrap ((sm : Int) + ((mm : Int) + 1)) = ((sm + (mm + 1) : Nat) : Int) := by rw [IntWalk.i64_in _ (by omega)]; omega
        obtain ⟨s2, hs2e⟩ : ∃ s2, sm + (mm + 1) = s2 := ⟨_, rfl⟩
        rw [hs2e] at hw1
        have HS2E := Lib.hid hs2e
        have HSM := Lib.hid hsm
        have HLE := Lib.hid hle
        have HLT := Lib.hid hlt
        have HS := Lib.hid hs2
        clear hsz hs2e hsm hle hlt hs2 hs hrs hMk hlk hmem
        go_upto_region 20 with fail
        clear hnx hen
        replace HS := Lib.hid (HS.out.new 44 #[.int .i64 (mm : Int), .int .i64 (bb : Int), .int .i64 (at_ : Int)])
        generalize w11.alloc _ = w12 at *
        generalize w11.heap.size = go at *
        have o0 := (HS.out.blk 13 rfl).cell 0
        simp at o0
        have o1 := (HS.out.blk 13 rfl).cell 1
        simp at o1
        go_wp2_with fail
        refine (HSZ.out _).mono ?_
        rintro e1 w13 ⟨rfl, hkk⟩
        replace HS := Lib.hid (HS.out.grow hkk)
        clear hkk o0 o1
        have hit : IterAt w13 mr rr .i64 M (fun z => left z && !(z == (at_ : Int))) cnt' := HS.out.all 12 _ rfl
        have hl2 := hit.left_eq
        have HL2 := Lib.hid hl2
        clear hl2 hit
        go_wp2
        refine ⟨⟨fun z => left z && !(z == (at_ : Int)), cnt', s2, rfl, ?_, HS.out.take 13⟩, ?_⟩
        · have h1 := HSM.out
          have h2 := HS2E.out
          omega
        · rw [HL2.out, HLE.out]
          exact HLT.out

theorem WalkSums.walk {v1 v2 : Value} {w : World} (l r s : Int) (h : (lowest .u16 ≤ l ∧ l ≤ greatest .u16) ∧ (lowest .u16 ≤ r ∧ r ≤ greatest .u16) ∧ (lowest .u16 ≤ s ∧ s ≤ greatest .u16)) (hl1 : List HV) (hm1 : RdH w v1 hl1) (ho1 : ∀ x ∈ hl1, x.Ok) (hn1 : hl1.length ≤ maxLen) (xs2 : List Int) (hr2 : Rd w v2 (xs2.map (Value.int .u16))) (hb2 : ∀ x ∈ xs2, lowest .u16 ≤ x ∧ x ≤ greatest .u16) (hn2 : xs2.length ≤ maxLen) :
    Calls Try.prog 5 #[.agg #[.int .u16 l, .int .u16 r, .int .u16 s], v1, v2] w fun e w' => e = .returned (.bool true) ∧ Below w.heap.size w w' := by
  obtain ⟨⟨l0, l1⟩, ⟨r0, r1⟩, s0, s1⟩ := h
  have hb2' : ∀ x ∈ xs2, 0 ≤ x ∧ x ≤ 65535 := fun x hx => by have := hb2 x hx; simpa [lowest, greatest] using this
  simp [lowest, greatest] at l0 l1 r0 r1 s0 s1
  exact (WalkSums.core l r s v1 hl1 v2 xs2 w l0 l1 r0 r1 s0 s1 hm1 ho1 hn1 hr2 hb2' hn2).mono fun e w' ⟨he, hk⟩ => ⟨he, hk.below⟩
end Go.Proofs.Ythdiehcmjknhiaa
