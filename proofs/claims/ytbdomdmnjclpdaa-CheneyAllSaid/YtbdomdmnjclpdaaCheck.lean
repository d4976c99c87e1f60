/-
  Package check.
  Check, plain; tumuluslaw12.Awake.
-/
import Derived.Test.YtbdomdmnjclpdaaWalk
import Derived.Test.YtbdomdmnjclpdaaRelIn
import Derived.Test.YtbdomdmnjclpdaaRootsB
import Derived.WalkMore
import Derived.Sort.CutIn
import Derived.Laws.EntriesVeiled
import Derived.Test.YtbdomdmnjclpdaaAwk11
set_option linter.unusedSimpArgs false
set_option linter.unusedVariables false
set_option maxRecDepth 100000
namespace Go.Proofs.Ytbdomdmnjclpdaa
open Go.RowKit Go.Shelf

attribute [local go_sem] Oper.semAt_some

section
variable {Fr : FuncId → Prop} {P : Program} {b : Frame} {a : Act} {k : List Item} {cs : List Frame} {w : World} {Q : Exit → Act → World → Prop} {c : Code}
theorem stepR_scope : step P (lone (b.atR a (.code (.scope c) :: k)) cs w) = .next (lone (b.atR a (.code c :: .inScope c :: k)) cs w) :=
  step_lone_go (by simp [stepG, stepG.exec, Frame.atR])
theorem stepR_inScope : step P (lone (b.atR a (.inScope c :: k)) cs w) = .next (lone (b.atR a k) cs w) :=
  step_lone_go (by simp [stepG, stepG.exec, Frame.atR])
theorem wpFr_scope (h : wpFr Fr P c (Exit.noGoto Q) a w) : wpFr Fr P (.scope c) Q a w := by
  intro b k cs hro hb
  have h0 : (lone (b.atR a (.code (.scope c) :: k)) cs w).fenced P Fence.wide := fenced_wide _ _
  obtain ⟨e, a₁, w₁, hq, harr⟩ := h b (.inScope c :: k) cs hro hb
  cases e with
  | normal => exact ⟨.normal, a₁, w₁, hq, .head h0 stepR_scope (StepsIn.trans harr (.one (fenced_wide _ _) stepR_inScope))⟩
  | exit id =>
    have hx : exitTo id (.inScope c :: k) = exitTo id k := by simp [exitTo]
    exact ⟨.exit id, a₁, w₁, hq, fun k' hk => .head h0 stepR_scope (harr.1 k' (by rw [hx]; exact hk)),
      fun hr' hk => let ⟨k₁, h1, h2⟩ := harr.2 hr' (by rw [hx]; exact hk); ⟨k₁, h1, .head h0 stepR_scope h2⟩⟩
  | goto l => exact hq.elim
  | ret => exact ⟨_, a₁, w₁, hq, .of_steps (.one h0 stepR_scope) harr⟩
  | panic ch => exact ⟨_, a₁, w₁, hq, .of_steps (.one h0 stepR_scope) harr⟩
  | outgrown => exact ⟨_, a₁, w₁, hq, .of_steps (.one h0 stepR_scope) harr⟩
end
/-- Is a word nothing, or the place of an object? -/
def nmOk (k : Kfg) (a u : Nat) (M : Int → Option Value) (x : Int) : Bool := x == 0 || (hasB k a u x && (M x).isSome)

set_option maxHeartbeats 4000000 in
theorem names_cl (k : Kfg) (a u g5 g3 g7 mr : Nat) (M : Int → Option Value) (x : Int) (RA : Option Addr) (RL RC : Nat) (w : World) (hk : k.Ok) (ha : a ≤ 1) (hu : u ≤ k.S) (hx : 0 ≤ x ∧ x ≤ 18446744073709551615)
    (h5 : Blk w g5 33 #[.int .i64 (a : Int), .int .i64 (u : Int), .slice RA RL RC]) (h3 : Blk w g3 30 #[.int .i64 (k.L : Int), .int .i64 (k.R : Int), .int .i64 (k.S : Int)]) (h7 : Blk w g7 122 #[.map (some mr)]) (hm : IMap w mr .i64 M)
    (hM : ∀ j v, M j = some v → ∃ p q r, v = .agg #[.int .i64 p, .int .i64 q, .int .i64 r]) :
    Calls Try.prog 66 #[.int .u64 x, .pointer (some ⟨g5, 0, none⟩), .pointer (some ⟨g3, 0, none⟩), .pointer (some ⟨g7, 0, none⟩)] w fun e w' => e = .returned (.bool (nmOk k a u M x)) ∧ Keep w.heap.size [] w w' := by
  have HS := Lib.hid (Sep.start w [])
  have HK := Lib.hid hk
  have H5 := Lib.hid h5
  have H3 := Lib.hid h3
  have H7 := Lib.hid h7
  have HM := Lib.hid hm
  have HMM := Lib.hid hM
  have HX := Lib.hid hx
  obtain ⟨R, hR⟩ : ∃ R, nmOk k a u M x = R := ⟨_, rfl⟩
  rw [hR]
  have HR := Lib.hid hR
  have hus : u ≤ 1000000000 := by have := hk.s1; omega
  have hfw := Kfg.from_words hk (show a ≤ 2 by omega)
  have hwl := Kfg.words_le hk
  have hbi := hasB_iff k a u
  have HBI := Lib.hid hbi
  have hxI : hasB k a u x = true → IntKind.i64.wrap x = x := by
    intro h
    unfold hasB at h
    simp at h
    have := hk.s1
    exact IntWalk.i64_in _ (by omega)
  have HXI := Lib.hid hxI
  clear hk h5 h3 h7 hm hM hx hR hbi hxI
  by_cases hz : x = 0
  · have e1 : decide (x = 0) = true := by simpa using hz
    have e2 : (x == 0) = true := by simpa using hz
    have HZ := Lib.hid hz
    clear hz
    go_enter Try.func66, Try.ntmps66
    go_wp2
    go_ret
    exact ⟨by rw [← HR.out]; unfold nmOk; rw [e2]; rfl, HS.out.keep⟩
  · have e1 : decide (x = 0) = false := by simpa using hz
    have e2 : (x == 0) = false := by simpa using hz
    clear hz
    have c0 := H5.out.cell 0
    have d0 := H3.out.cell 0
    have c1 := H5.out.cell 1
    have d1 := H3.out.cell 1
    have c2 := H5.out.cell 2
    have d2 := H3.out.cell 2
    simp at c0 c1 c2 d0 d1 d2
    have HH := Lib.hid (has_is k a u x (.slice RA RL RC) w HK.out (by omega) hus HX.out)
    simp only [rbC, Kfg.cells] at HH
    go_enter Try.func66, Try.ntmps66
    go_wp2_with fail
    refine HH.out.mono ?_
    rintro e w1 ⟨rfl, hkk⟩
    have h7 := H7.out.keep hkk H7.out.lt (by simp)
    have hm := HM.out.keep hkk HM.out.lt (by simp)
    have H7' := Lib.hid h7
    have HM' := Lib.hid hm
    replace HS := Lib.hid (HS.out.grow hkk)
    clear HH hkk h7 hm c0 c1 c2 d0 d1 d2
    cases hh : hasB k a u x with
    | false =>
      have HHH := Lib.hid hh
      clear hh
      go_wp2
      go_ret
      exact ⟨by rw [← HR.out]; unfold nmOk; rw [e2, HHH.out]; rfl, HS.out.keep⟩
    | true =>
      have hw1 := HXI.out hh
      have HHH := Lib.hid hh
      clear hh
      have c7 := H7'.out.cell 0
      simp at c7
      have hl := lookup_ok (P := Try.prog) (w := w1) (T := 122) HM'.out u_starts underlying_int x (zero_ob w1)
      cases hMx : M x with
      | none =>
        rw [hMx] at hl
        simp only [Option.getD_none, Option.isSome_none] at hl
        have HN := Lib.hid hMx
        clear hMx
        go_wp2
        clear hl
        go_ret
        exact ⟨by rw [← HR.out]; unfold nmOk; rw [e2, HHH.out, HN.out]; rfl, (HS.out.new _ _).keep⟩
      | some v =>
        obtain ⟨p, q, r, rfl⟩ := HMM.out _ _ hMx
        rw [hMx] at hl
        simp only [Option.getD_some, Option.isSome_some] at hl
        have HN := Lib.hid hMx
        clear hMx
        go_wp2
        clear hl
        go_ret
        exact ⟨by rw [← HR.out]; unfold nmOk; rw [e2, HHH.out, HN.out]; rfl, (HS.out.new _ _).keep⟩

set_option maxRecDepth 100000 in
set_option maxHeartbeats 4000000 in
theorem heap_bad (d : DevI) (t : St) (k : Kfg) (a u : Int) (w : World) (hd : Dev w d t) (hk : k.Ok) (hl : t.now.length = k.words) (ha : t.nw k.act = a) (hu : t.nw (k.act + 1) = u) (hbad : 1 < a ∨ (k.S : Int) < u) :
    Calls Try.prog 56 #[.pointer (some ⟨d.b, 0, none⟩), .agg #[.int .i64 (k.L : Int), .int .i64 (k.R : Int), .int .i64 (k.S : Int)]] w fun e w' => e = .returned (.int .i64 10) ∧ Sep w [] [] w' := by
  have HRB := Lib.hid (fun w hd => rread_bad d t k a u w hd hk hl ha hu hbad)
  have HD := Lib.hid hd
  have HS := Lib.hid (Sep.start w [])
  clear hd hl ha hu hbad
  refine calls_of_wpFr Try.func56 rfl ?_
  simp only [Try.ntmps56, List.size_toArray, List.length_cons, List.length_nil, Nat.reduceAdd, Nat.reduceSub, Array.replicate_succ,
     Array.replicate_zero, List.push_toArray, List.append_toArray, List.nil_append, List.cons_append]
  refine wpFr_seq (wpFr_of_wp ?_)
  go_wp2
  replace HS := Lib.hid ((HS.out.new 28 #[.pointer (some ⟨d.b, 0, none⟩)]).new 30 #[.int .i64 (k.L : Int), .int .i64 (k.R : Int), .int .i64 (k.S : Int)])
  simp only [World.size_alloc] at HS
  generalize (w.alloc _).alloc _ = w1 at *
  generalize w.heap.size = g2 at *
  generalize g2 + 1 = g3 at *
  refine wpFr_scope (wpFr_seq (wpFr_of_wp ?_))
  have c0 := (HS.out.blk 1 rfl).cell 0
  simp at c0
  have c1 := (HS.out.blk 1 rfl).cell 1
  simp at c1
  have c2 := (HS.out.blk 1 rfl).cell 2
  simp at c2
  have b0 := (HS.out.blk 0 rfl).cell 0
  simp at b0
  go_wp2_with fail
  refine (HRB.out _ (HD.out.of_new HS.out.keep)).mono ?_
  rintro e w2 ⟨rfl, hkk⟩
  replace HS := Lib.hid (HS.out.grow hkk)
  clear hkk c0 c1 c2 b0
  go_wp2
  refine wpFr_seq (wpFr_of_wp ?_)
  go_wp2
  rw [Exit.noGoto_ret]
  exact leave_none (results_tmp rfl _ _ _) ⟨rfl, (HS.out.new _ _).take 0⟩

/-- Do all names of an object hold? -/
def refsOk (t : St) (ok : Int → Bool) (x : It) : Bool := (List.range x.b.toNat).all fun i => ok (t.nw (x.p + 1 + i))
def checkP (t : St) (k : Kfg) (a u : Nat) : Int :=
  if errAt (scan t (k.from_ a + u) (k.from_ a)) ≠ 0 then 8
  else if (List.range k.R).all (fun i => nmOk k a u (mapOf (scan t (k.from_ a + u) (k.from_ a))) (t.nw (k.act + 2 + i))) && (scan t (k.from_ a + u) (k.from_ a)).all (refsOk t (nmOk k a u (mapOf (scan t (k.from_ a + u) (k.from_ a))))) then 0 else 9
theorem scanF_small {t : St} {e : Nat} (hr : t.rng) : ∀ (f p : Nat), ∀ x ∈ scanF t e f p, 0 ≤ x.b ∧ x.b ≤ x.m ∧ x.m ≤ 64
  | 0, p => by simp [scanF]
  | f + 1, p => by
    simp only [scanF]
    split
    · simp
    · split
      · intro x hx
        rcases List.mem_cons.1 hx with rfl | hx
        · have := headOf_ok (x := t.nw p) (hr.nw p).1
          exact ⟨this.2.2.1, this.2.2.2, this.2.1⟩
        · exact scanF_small hr f _ x hx
      · intro x hx
        simp at hx
        subst hx
        simp
theorem scan_small {t : St} {e p : Nat} (hr : t.rng) {x : It} (h : x ∈ scan t e p) : 0 ≤ x.b ∧ x.b ≤ x.m ∧ x.m ≤ 64 := scanF_small hr _ _ x h

set_option maxRecDepth 100000 in
set_option maxHeartbeats 16000000 in
theorem heap_check (d : DevI) (t : St) (k : Kfg) (a u : Nat) (w : World) (hd : Dev w d t) (hk : k.Ok) (hl : t.now.length = k.words) (ha : t.nw k.act = (a : Int)) (hu : t.nw (k.act + 1) = (u : Int)) (ha1 : a ≤ 1) (hu1 : u ≤ k.S) (hrg : t.rng) :
    Calls Try.prog 56 #[.pointer (some ⟨d.b, 0, none⟩), .agg #[.int .i64 (k.L : Int), .int .i64 (k.R : Int), .int .i64 (k.S : Int)]] w fun e w' => e = .returned (.int .i64 (checkP t k a u)) ∧ Sep w [] [] w' := by
  have HRD := Lib.hid (fun w hd => rread_any d t k a u w hd hk hl ha hu ha1 hu1)
  have HD := Lib.hid hd
  have HS := Lib.hid (Sep.start w [])
  obtain ⟨RES, hres⟩ : ∃ RES, checkP t k a u = RES := ⟨_, rfl⟩
  rw [hres]
  unfold checkP at hres
  have hfw := (Kfg.from_words hk (show a ≤ 2 by omega)).2
  have hwl := Kfg.words_le hk
  obtain ⟨f, hf⟩ : ∃ f, k.from_ a = f := ⟨_, rfl⟩
  have hst := fun (f e RL RC : Nat) (RA : Option Addr) (w : World) hd (he : f + u = e) (hf : k.from_ a = f) => starts_any d t k a u e f RA RL RC w hd hk ha1 hu1 hf he hrg
  have hsq := fun (f e RL RC : Nat) (RA : Option Addr) (gb gk gd : Nat) (he : f + u = e) (hf : k.from_ a = f) => objs_seq d t k a u e f gb gk gd RA RL RC hk ha1 hu1 hf he hrg
  rw [hf] at hres hfw
  obtain ⟨e, he⟩ : ∃ e, f + u = e := ⟨_, rfl⟩
  rw [he] at hres
  have hST := fun RL RC RA w hd => hst f e RL RC RA w hd he hf
  have hSQ := fun RL RC RA gb gk gd => hsq f e RL RC RA gb gk gd he hf
  have hsm : ∀ x ∈ scan t e f, (0 ≤ x.b ∧ x.b ≤ x.m ∧ x.m ≤ 64) ∧ f ≤ x.p ∧ x.p < e := fun x hx => ⟨scan_small hrg hx, scan_in hx⟩
  have hMM : ∀ j v, mapOf (scan t e f) j = some v → ∃ p q r, v = .agg #[.int .i64 p, .int .i64 q, .int .i64 r] := fun j v hv => by
    obtain ⟨x, _, _, _, rfl⟩ := (mapOf_get (scan_rise t e f)).1 hv
    exact ⟨_, _, _, rfl⟩
  have he8 : errAt (scan t e f) ≠ 0 → errAt (scan t e f) = 8 := fun hne => by
    unfold errAt at hne ⊢
    cases hg : (scan t e f).getLast? with
    | none => rw [hg] at hne; exact absurd rfl hne
    | some x =>
      rw [hg] at hne
      rw [List.getLast?_eq_getElem?] at hg
      exact (scan_err hg hne).2
  obtain ⟨its, hits⟩ : ∃ its, scan t e f = its := ⟨_, rfl⟩
  obtain ⟨M, hMe⟩ : ∃ M, mapOf its = M := ⟨_, rfl⟩
  rw [hits] at hres hST hSQ hsm hMM he8
  rw [hMe] at hres hST hMM
  have hcl := fun (g5 g3 g7 mr RC : Nat) (RA : Option Addr) (x : Int) (w : World) hx h5 h3 h7 hm => names_cl k a u g5 g3 g7 mr M x RA k.R RC w hk ha1 hu1 hx h5 h3 h7 hm hMM
  obtain ⟨ok, hok⟩ : ∃ ok, nmOk k a u M = ok := ⟨_, rfl⟩
  simp only [hok] at hres hcl
  have hee : e ≤ 20000 := by have := hk.s1; omega
  have hR16 : k.R ≤ 16 := by have := hk.r1; omega
  have HRES := Lib.hid hres
  have HST := Lib.hid hST
  have HSQ := Lib.hid hSQ
  have HSM := Lib.hid hsm
  have HE8 := Lib.hid he8
  have HCL := Lib.hid hcl
  have HRG := Lib.hid hrg
  clear hd hl ha hu hrg hres hf he hits hMe hok hst hsq hST hSQ hsm hMM he8 hcl
  refine calls_of_wpFr Try.func56 rfl ?_
  simp only [Try.ntmps56, List.size_toArray, List.length_cons, List.length_nil, Nat.reduceAdd, Nat.reduceSub, Array.replicate_succ,
     Array.replicate_zero, List.push_toArray, List.append_toArray, List.nil_append, List.cons_append]
  refine wpFr_seq (wpFr_of_wp ?_)
  go_wp2
  replace HS := Lib.hid ((HS.out.new 28 #[.pointer (some ⟨d.b, 0, none⟩)]).new 30 #[.int .i64 (k.L : Int), .int .i64 (k.R : Int), .int .i64 (k.S : Int)])
  simp only [World.size_alloc] at HS
  generalize (w.alloc _).alloc _ = w1 at *
  generalize w.heap.size = g2 at *
  generalize g2 + 1 = g3 at *
  refine wpFr_scope (wpFr_seq (wpFr_of_wp ?_))
  have c0 := (HS.out.blk 1 rfl).cell 0
  simp at c0
  have c1 := (HS.out.blk 1 rfl).cell 1
  simp at c1
  have c2 := (HS.out.blk 1 rfl).cell 2
  simp at c2
  have b0 := (HS.out.blk 0 rfl).cell 0
  simp at b0
  go_wp2_with fail
  refine (HRD.out _ (HD.out.of_new HS.out.keep)).mono ?_
  rintro e1 w2 ⟨rv, rfl, hkk, hrow, hnew⟩
  obtain ⟨RA, RC, hv⟩ := rowR_val hrow
  have hrl : (uw (rootsOf t k k.R)).length = k.R := by rw [uw_length, rootsOf_length]
  rw [hrl] at hv
  subst hv
  simp only [rbC]
  have hrt : ∀ i, i < k.R → (uw (rootsOf t k k.R))[i]? = some (.int .u64 (t.nw (k.act + 2 + i))) := fun i hi => by
    simp [uw, rootsOf, hi]
  obtain ⟨rs, hrs⟩ : ∃ rs, rootsOf t k k.R = rs := ⟨_, rfl⟩
  rw [hrs] at hrow hrt
  replace HS := Lib.hid (HS.out.add hkk (r := rowR 38 (.slice RA k.R RC) (uw rs)) hrow hnew)
  have HRT := Lib.hid hrt
  clear hkk hrow hnew hrl hrt hrs c0 c1 c2 b0 HRD
  go_wp2
  replace HS := Lib.hid (HS.out.new 33 #[.int .i64 (a : Int), .int .i64 (u : Int), .slice RA k.R RC])
  generalize w2.alloc _ = w3 at *
  generalize w2.heap.size = g5 at *
  refine wpFr_seq (wpFr_of_wp ?_)
  go_wp2
  refine wpFr_seq (wpFr_of_wp ?_)
  have c0 := (HS.out.blk 1 rfl).cell 0
  simp at c0
  have c1 := (HS.out.blk 1 rfl).cell 1
  simp at c1
  have c2 := (HS.out.blk 1 rfl).cell 2
  simp at c2
  have d0 := (HS.out.blk 3 rfl).cell 0
  simp at d0
  have d1 := (HS.out.blk 3 rfl).cell 1
  simp at d1
  have d2 := (HS.out.blk 3 rfl).cell 2
  simp at d2
  have b0 := (HS.out.blk 0 rfl).cell 0
  simp at b0
  go_wp2_with fail
  refine (HST.out _ _ _ _ (HD.out.of_new HS.out.keep)).mono ?_
  rintro e1 w4 ⟨mr, rfl, hs1⟩
  have hadds := HS.out.adds hs1
  replace HS := Lib.hid hadds
  clear hs1 hadds c0 c1 c2 d0 d1 d2 b0 HST
  go_wp2
  replace HS := Lib.hid (HS.out.new 122 #[.map (some mr)])
  generalize w4.alloc _ = w5 at *
  generalize w4.heap.size = g7 at *
  by_cases hez : errAt its = 0
  rotate_left
  · have hz := HRES.out
    rw [if_pos hez] at hz
    have h8 := HE8.out hez
    have HEZ := Lib.hid hez
    have HZ := Lib.hid hz
    clear hez hz
    rw [h8]
    refine wpFr_seq (wpFr_of_wp ?_)
    go_wp2
    rw [Exit.noGoto_ret]
    exact leave_none (results_tmp rfl _ _ _) ⟨by rw [← HZ.out]; rfl, HS.out.take 0⟩
  have hz := HRES.out
  rw [if_neg (by simp [hez])] at hz
  have HZ := Lib.hid hz
  rw [hez]
  clear hez hz HRES HE8
  refine wpFr_seq (wpFr_of_wp ?_)
  go_wp2
  replace HS := Lib.hid (HS.out.new 54 #[.int .i64 0])
  refine wpFr_seq (wpFr_of_wp ?_)
  go_wp2
  generalize w5.alloc _ = w6 at *
  generalize w5.heap.size = g8 at *
  refine wpFr_seq (wpFr_of_wp ?_)
  go_wp2
  replace HS := Lib.hid (HS.out.new 126 #[.func (.func 66) #[] #[.pointer (some ⟨g5, 0, none⟩), .pointer (some ⟨g3, 0, none⟩), .pointer (some ⟨g7, 0, none⟩)]])
  generalize w6.alloc _ = w7 at *
  generalize w6.heap.size = g9 at *
  replace HS : Hid (Sep w [] [blkR g2 28 #[.pointer (some ⟨d.b, 0, none⟩)], blkR g3 30 #[.int .i64 (k.L : Int), .int .i64 (k.R : Int), .int .i64 (k.S : Int)], rowR 38 (.slice RA k.R RC) (uw rs), blkR g5 33 #[.int .i64 (a : Int), .int .i64 (u : Int), .slice RA k.R RC], mapR mr M, blkR g7 122 #[.map (some mr)], blkR g8 54 #[.int .i64 0], blkR g9 126 #[.func (.func 66) #[] #[.pointer (some ⟨g5, 0, none⟩), .pointer (some ⟨g3, 0, none⟩), .pointer (some ⟨g7, 0, none⟩)]]] w7) := HS
  refine wpFr_seq (wpFr_of_wp ?_)
  have c2 := (HS.out.blk 3 rfl).cell 2
  simp at c2
  go_wp2_with fail
  clear c2
  obtain ⟨Q0, hQ0⟩ : ∃ Q : Prop, Q = ((List.range k.R).all (fun i => ok (t.nw (k.act + 2 + i))) = true) := ⟨_, rfl⟩
  go_loopw [4, 11, 37] (fun _ _ v37 wr => ∃ j : Nat, j ≤ k.R ∧ v37 = .int .i64 (j : Int) ∧ (∀ i, i < j → ok (t.nw (k.act + 2 + i)) = true) ∧ Sep w [] [blkR g2 28 #[.pointer (some ⟨d.b, 0, none⟩)], blkR g3 30 #[.int .i64 (k.L : Int), .int .i64 (k.R : Int), .int .i64 (k.S : Int)], rowR 38 (.slice RA k.R RC) (uw rs), blkR g5 33 #[.int .i64 (a : Int), .int .i64 (u : Int), .slice RA k.R RC], mapR mr M, blkR g7 122 #[.map (some mr)], blkR g8 54 #[.int .i64 0], blkR g9 126 #[.func (.func 66) #[] #[.pointer (some ⟨g5, 0, none⟩), .pointer (some ⟨g3, 0, none⟩), .pointer (some ⟨g7, 0, none⟩)]]] wr) (fun _ _ v37 _ => k.R - (intOf v37).toNat)
  case atStart => exact ⟨0, by omega, rfl, fun i hi => by omega, HS.out⟩
  case round =>
    clear HS
    obtain ⟨j, hj, rfl, hall, hs⟩ := hrel
    have HS := Lib.hid hs
    have HA := Lib.hid hall
    clear hs hall
    by_cases hlt : j < k.R
    · have hltI : (j : Int) < (k.R : Int) := by omega
      obtain ⟨x, hx⟩ : ∃ x, t.nw (k.act + 2 + j) = x := ⟨_, rfl⟩
      have hxr := HRG.out.nw (k.act + 2 + j)
      rw [hx] at hxr
      obtain ⟨g, hRA, ha0⟩ : ∃ g, RA = some ⟨g, 0, none⟩ ∧ wr.cell? ⟨g, j, none⟩ = some (.int .u64 x) := by
        have hrow : wr.ownsRow 0 38 1 (.slice RA k.R RC) (uw rs).length (uw rs) := HS.out.row 2 rfl
        have hget := HRT.out j hlt
        rw [hx] at hget
        rcases hrow.2 with ⟨hv, h0⟩ | ⟨g, cap, cur, hv, _⟩
        · have := (List.getElem?_eq_some_iff.1 hget).1; omega
        · injection hv with e1 e2 e3
          refine ⟨g, e1, ?_⟩
          subst e1
          have := hrow.cells (g := g) rfl j (.int .u64 x) hget
          rwa [show (⟨g, 0, none⟩ : Addr).add j = ⟨g, j, none⟩ by unfold Addr.add; split <;> simp_all] at this
      subst hRA
      have HX := Lib.hid hx
      have HXR := Lib.hid hxr
      clear hx hxr
      have f0 := (HS.out.blk 7 rfl).cell 0
      simp at f0
      go_wp2_with fail
      refine (HCL.out g5 g3 g7 mr RC _ x wr (by have := HXR.out; unfold Wd at this; omega) (HS.out.blk 3 rfl) (HS.out.blk 1 rfl) (HS.out.blk 5 rfl) (HS.out.all 4 _ rfl)).mono ?_
      rintro e1 w8 ⟨rfl, hkk⟩
      replace HS := Lib.hid (HS.out.grow hkk)
      clear hkk f0 ha0
      cases hox : ok x with
      | false =>
        have HOX := Lib.hid hox
        clear hox
        go_wp2
        rw [Exit.noGoto_ret]
        have h9 : RES = 9 := by
          rw [← HZ.out, if_neg]
          intro h1
          rw [Bool.and_eq_true] at h1
          have := List.all_eq_true.1 h1.1 j (List.mem_range.2 hlt)
          rw [HX.out, HOX.out] at this
          cases this
        exact leave_none (results_tmp rfl _ _ _) ⟨by rw [h9]; rfl, HS.out.take 0⟩
      | true =>
        have HOX := Lib.hid hox
        clear hox
        go_wp2
        refine ⟨⟨j + 1, by omega, by first | rfl | go_num | simp, fun i hi => ?_, HS.out⟩, by simp [intOf]; omega⟩
        rcases Nat.lt_or_ge i j with h1 | h1
        · exact HA.out i h1
        · obtain rfl : i = j := by omega
          rw [HX.out]; exact HOX.out
    · have hltI : ¬ (j : Int) < (k.R : Int) := by omega
      obtain rfl : j = k.R := by omega
      go_wp2
      have hz := HZ.out
      rw [show (List.range k.R).all (fun i => ok (t.nw (k.act + 2 + i))) = true from List.all_eq_true.2 fun i hi => HA.out i (List.mem_range.1 hi), Bool.true_and] at hz
      have HZ2 := Lib.hid hz
      clear hz HZ HA HRT
      refine wpFr_seq (wpFr_of_wp (wp_label ?_))
      simp only [Exit.then]
      refine wpFr_seq (wpFr_seq (wpFr_of_wp ?_))
      have c0 := (HS.out.blk 1 rfl).cell 0
      simp at c0
      have c1 := (HS.out.blk 1 rfl).cell 1
      simp at c1
      have c2 := (HS.out.blk 1 rfl).cell 2
      simp at c2
      have d0 := (HS.out.blk 3 rfl).cell 0
      simp at d0
      have d1 := (HS.out.blk 3 rfl).cell 1
      simp at d1
      have d2 := (HS.out.blk 3 rfl).cell 2
      simp at d2
      have b0 := (HS.out.blk 0 rfl).cell 0
      simp at b0
      go_wp2_with fail
      refine (objects_any _ _ _ _ _ _ _ _ ⟨_, rfl⟩ ⟨_, _, _, rfl, rfl, rfl⟩ ⟨_, _, _, _, _, rfl, rfl, rfl⟩).mono ?_
      rintro e1 w8 ⟨rfl, rfl⟩
      replace HS := Lib.hid (((HS.out.new 28 #[.pointer (some ⟨d.b, 0, none⟩)]).new 30 #[.int .i64 (k.L : Int), .int .i64 (k.R : Int), .int .i64 (k.S : Int)]).new 33 #[.int .i64 (a : Int), .int .i64 (u : Int), .slice RA k.R RC])
      simp only [World.size_alloc] at HS
      generalize ((wr.alloc _).alloc _).alloc _ = w8 at *
      generalize wr.heap.size = gd at *
      generalize gd + 1 = gk at *
      generalize gk + 1 = gb at *
      replace HS : Hid (Sep w [] [blkR g2 28 #[.pointer (some ⟨d.b, 0, none⟩)], blkR g3 30 #[.int .i64 (k.L : Int), .int .i64 (k.R : Int), .int .i64 (k.S : Int)], rowR 38 (.slice RA k.R RC) (uw rs), blkR g5 33 #[.int .i64 (a : Int), .int .i64 (u : Int), .slice RA k.R RC], mapR mr M, blkR g7 122 #[.map (some mr)], blkR g8 54 #[.int .i64 0], blkR g9 126 #[.func (.func 66) #[] #[.pointer (some ⟨g5, 0, none⟩), .pointer (some ⟨g3, 0, none⟩), .pointer (some ⟨g7, 0, none⟩)]], blkR gd 28 #[.pointer (some ⟨d.b, 0, none⟩)], blkR gk 30 #[.int .i64 (k.L : Int), .int .i64 (k.R : Int), .int .i64 (k.S : Int)], blkR gb 33 #[.int .i64 (a : Int), .int .i64 (u : Int), .slice RA k.R RC]] w8) := HS
      clear c0 c1 c2 d0 d1 d2 b0
      go_wp2
      refine wpFr_block ?_
      refine wpFr_rangeX HS.out rfl (enters_of Try.func73 (by kernel_rfl) rfl) (HSQ.out k.R RC RA gb gk gd) (fun _ => rfl)
        (fun m L => L = [blkR g2 28 #[.pointer (some ⟨d.b, 0, none⟩)], blkR g3 30 #[.int .i64 (k.L : Int), .int .i64 (k.R : Int), .int .i64 (k.S : Int)], rowR 38 (.slice RA k.R RC) (uw rs), blkR g5 33 #[.int .i64 (a : Int), .int .i64 (u : Int), .slice RA k.R RC], mapR mr M, blkR g7 122 #[.map (some mr)], blkR g8 54 #[.int .i64 0], blkR g9 126 #[.func (.func 66) #[] #[.pointer (some ⟨g5, 0, none⟩), .pointer (some ⟨g3, 0, none⟩), .pointer (some ⟨g7, 0, none⟩)]], blkR gd 28 #[.pointer (some ⟨d.b, 0, none⟩)], blkR gk 30 #[.int .i64 (k.L : Int), .int .i64 (k.R : Int), .int .i64 (k.S : Int)], blkR gb 33 #[.int .i64 (a : Int), .int .i64 (u : Int), .slice RA k.R RC]] ∧ ∀ (i : Nat) (x : It), i < m → its[i]? = some x → refsOk t ok x = true)
        (fun c L => c = .exit 2 ∧ L = [blkR g2 28 #[.pointer (some ⟨d.b, 0, none⟩)], blkR g3 30 #[.int .i64 (k.L : Int), .int .i64 (k.R : Int), .int .i64 (k.S : Int)], rowR 38 (.slice RA k.R RC) (uw rs), blkR g5 33 #[.int .i64 (a : Int), .int .i64 (u : Int), .slice RA k.R RC], mapR mr M, blkR g7 122 #[.map (some mr)], blkR g8 54 #[.int .i64 9], blkR g9 126 #[.func (.func 66) #[] #[.pointer (some ⟨g5, 0, none⟩), .pointer (some ⟨g3, 0, none⟩), .pointer (some ⟨g7, 0, none⟩)]], blkR gd 28 #[.pointer (some ⟨d.b, 0, none⟩)], blkR gk 30 #[.int .i64 (k.L : Int), .int .i64 (k.R : Int), .int .i64 (k.S : Int)], blkR gb 33 #[.int .i64 (a : Int), .int .i64 (u : Int), .slice RA k.R RC]] ∧ RES = 9)
        (fun _ _ => False) ⟨rfl, fun i x hi => by omega⟩ ?rr (fun fn hfn => .inr (fun ch L h => h)) ?round ?done ?stop (fun _ _ _ _ _ h _ => h.elim)
      case rr =>
        rintro m L X W' hm ⟨rfl, _⟩ hs
        exact ⟨hs.blk 10 rfl, hs.blk 9 rfl, hs.blk 8 rfl, HD.out.of_new hs.keep⟩
      case round =>
        rintro l m L X r1 r2 W' hm ⟨rfl, hz⟩ hs
        obtain ⟨x, hx⟩ : ∃ x, its[m]? = some x := ⟨_, List.getElem?_eq_getElem hm⟩
        have hgd : its.getD m It0 = x := by rw [List.getD_eq_getElem?_getD, hx]; rfl
        rw [hgd]
        obtain ⟨⟨hb0, hb1, hb2⟩, hp0, hp1⟩ := HSM.out x (List.mem_of_getElem? hx)
        have HX := Lib.hid hx
        have HZ := Lib.hid hz
        clear hgd HS hx hz
        obtain ⟨p, xm, xb, xe⟩ := x
        simp only at hb0 hb1 hb2 hp0 hp1
        obtain ⟨bn, rfl⟩ : ∃ bn : Nat, xb = (bn : Int) := ⟨xb.toNat, by omega⟩
        simp only [itV, obV]
        gi_wp2
        refine ⟨[blkR g2 28 #[.pointer (some ⟨d.b, 0, none⟩)], blkR g3 30 #[.int .i64 (k.L : Int), .int .i64 (k.R : Int), .int .i64 (k.S : Int)], rowR 38 (.slice RA k.R RC) (uw rs), blkR g5 33 #[.int .i64 (a : Int), .int .i64 (u : Int), .slice RA k.R RC], mapR mr M, blkR g7 122 #[.map (some mr)], blkR g8 54 #[.int .i64 0], blkR g9 126 #[.func (.func 66) #[] #[.pointer (some ⟨g5, 0, none⟩), .pointer (some ⟨g3, 0, none⟩), .pointer (some ⟨g7, 0, none⟩)]], blkR gd 28 #[.pointer (some ⟨d.b, 0, none⟩)], blkR gk 30 #[.int .i64 (k.L : Int), .int .i64 (k.R : Int), .int .i64 (k.S : Int)], blkR gb 33 #[.int .i64 (a : Int), .int .i64 (u : Int), .slice RA k.R RC]] ++ [blkR W'.heap.size 53 #[.int .i64 xm, .int .i64 (bn : Int), .int .i64 (p : Int)]], Sep.bring _ _ (hs.new 53 #[.int .i64 xm, .int .i64 (bn : Int), .int .i64 (p : Int)]), ?_⟩
        clear hs
        generalize W'.heap.size = go at *
        rintro q2 W2 hs
        have HS := Lib.hid hs
        clear hs
        have o1 := (HS.out.blk 11 rfl).cell 1
        simp at o1
        gi_wp2_with fail
        clear o1
        gi_loopw [13, 55] (fun _ v55 wr => ∃ i : Nat, i ≤ bn ∧ v55 = .int .i64 (i : Int) ∧ (∀ i', i' < i → ok (t.nw (p + 1 + i')) = true) ∧ Sep w [] ([blkR g2 28 #[.pointer (some ⟨d.b, 0, none⟩)], blkR g3 30 #[.int .i64 (k.L : Int), .int .i64 (k.R : Int), .int .i64 (k.S : Int)], rowR 38 (.slice RA k.R RC) (uw rs), blkR g5 33 #[.int .i64 (a : Int), .int .i64 (u : Int), .slice RA k.R RC], mapR mr M, blkR g7 122 #[.map (some mr)], blkR g8 54 #[.int .i64 0], blkR g9 126 #[.func (.func 66) #[] #[.pointer (some ⟨g5, 0, none⟩), .pointer (some ⟨g3, 0, none⟩), .pointer (some ⟨g7, 0, none⟩)]], blkR gd 28 #[.pointer (some ⟨d.b, 0, none⟩)], blkR gk 30 #[.int .i64 (k.L : Int), .int .i64 (k.R : Int), .int .i64 (k.S : Int)], blkR gb 33 #[.int .i64 (a : Int), .int .i64 (u : Int), .slice RA k.R RC]] ++ [blkR go 53 #[.int .i64 xm, .int .i64 (bn : Int), .int .i64 (p : Int)]] ++ r1 :: q2 :: X) wr) (fun _ v55 _ => bn - (intOf v55).toNat)
        case atStart => exact ⟨0, by omega, rfl, fun i' hi' => by omega, HS.out⟩
        case round =>
          clear HS
          obtain ⟨i, hi, rfl, hall, hs⟩ := hrel
          have HS := Lib.hid hs
          have HA := Lib.hid hall
          clear hs hall
          by_cases hlt : i < bn
          · have hltI : (i : Int) < (bn : Int) := by omega
            obtain ⟨q, hq⟩ : ∃ q, p + 1 + i = q := ⟨_, rfl⟩
            have hq1 : IntKind.i64.wrap ((p : Int) + 1) = (p : Int) + 1 := IntWalk.i64_in _ (by omega)
            have hq2 : IntKind.i64.wrap ((p : Int) + 1 + (i : Int)) = (q : Int) := by rw [IntWalk.i64_in _ (by omega)]; omega
            obtain ⟨y, hy⟩ : ∃ y, t.nw q = y := ⟨_, rfl⟩
            have hyr := HRG.out.nw q
            rw [hy] at hyr
            have HYR := Lib.hid hyr
            have HY := Lib.hid hy
            have HQ := Lib.hid hq
            clear hyr hy hq
            gi_upto_region 20 with fail
            obtain ⟨B, hoy⟩ : ∃ B, ok y = B := ⟨_, rfl⟩
            have HOY := Lib.hid hoy
            clear hoy
            refine wpIn_region_st3 (W := w) (S := []) (by kernel_rfl) (by kernel_rfl) (by kernel_rfl) (by kernel_rfl) (fun D uu => ([blkR g2 28 #[.pointer (some ⟨d.b, 0, none⟩)], blkR g3 30 #[.int .i64 (k.L : Int), .int .i64 (k.R : Int), .int .i64 (k.S : Int)], rowR 38 (.slice RA k.R RC) (uw rs), blkR g5 33 #[.int .i64 (a : Int), .int .i64 (u : Int), .slice RA k.R RC], mapR mr M, blkR g7 122 #[.map (some mr)], blkR g8 54 #[.int .i64 0], blkR g9 126 #[.func (.func 66) #[] #[.pointer (some ⟨g5, 0, none⟩), .pointer (some ⟨g3, 0, none⟩), .pointer (some ⟨g7, 0, none⟩)]], blkR gd 28 #[.pointer (some ⟨d.b, 0, none⟩)], blkR gk 30 #[.int .i64 (k.L : Int), .int .i64 (k.R : Int), .int .i64 (k.S : Int)], blkR gb 33 #[.int .i64 (a : Int), .int .i64 (u : Int), .slice RA k.R RC]] ++ [blkR go 53 #[.int .i64 xm, .int .i64 (bn : Int), .int .i64 (p : Int)]] ++ r1 :: q2 :: X))
              (fun j v => match j with
                | 0 => v = .func (.func 66) #[] #[.pointer (some ⟨g5, 0, none⟩), .pointer (some ⟨g3, 0, none⟩), .pointer (some ⟨g7, 0, none⟩)]
                | 1 => v = .pointer (some ⟨d.b, 0, none⟩)
                | 2 => v = .pointer (some ⟨go, 2, none⟩)
                | 3 => v = .int .i64 (p : Int)
                | 4 => v = .int .i64 ((p : Int) + 1)
                | 5 => v = .int .i64 (i : Int)
                | 6 => v = .int .i64 (q : Int)
                | 7 => v = .int .u64 y
                | 8 => v = .bool B
                | 9 => v = .bool (!B)
                | _ => True) ?start ?step ?fin
            case start => exact fun u => HS.out
            case step =>
              clear HS
              refine ⟨?_, ?_, ?_, ?_, ?_, ?_, ?_, ?_, ?_, ?_, trivial⟩
              · intro D uu w' K hD hF hl hS hK
                simp only [puts, Act.put, List.setIfInBounds_toArray, List.set_cons_succ, List.set_cons_zero, Nat.zero_add, Nat.reduceAdd]
                have x0 := (hS.blk 7 rfl).cell 0
                simp at x0
                go_simp
                simp only [yUpon]
                exact hK _ _ rfl hS
              · intro D uu w' K hD hF hl hS hK
                simp only [puts, Act.put, List.setIfInBounds_toArray, List.set_cons_succ, List.set_cons_zero, Nat.zero_add, Nat.reduceAdd]
                have x0 := (hS.blk 0 rfl).cell 0
                simp at x0
                go_simp
                simp only [yUpon]
                exact hK _ _ rfl hS
              · intro D uu w' K hD hF hl hS hK
                simp only [puts, Act.put, List.setIfInBounds_toArray, List.set_cons_succ, List.set_cons_zero, Nat.zero_add, Nat.reduceAdd]
                go_simp
                simp only [yUpon]
                exact hK _ _ rfl hS
              · intro D uu w' K hD hF hl hS hK
                have f2 := (hF 2 (by kernel_rfl)).2
                simp only at f2
                simp only [puts, Act.put, List.setIfInBounds_toArray, List.set_cons_succ, List.set_cons_zero, Nat.zero_add, Nat.reduceAdd]
                simp only [f2]
                have x2 := (hS.blk 11 rfl).cell 2
                simp at x2
                go_simp
                simp only [yUpon]
                exact hK _ _ rfl hS
              · intro D uu w' K hD hF hl hS hK
                have f3 := (hF 3 (by kernel_rfl)).2
                simp only at f3
                simp only [puts, Act.put, List.setIfInBounds_toArray, List.set_cons_succ, List.set_cons_zero, Nat.zero_add, Nat.reduceAdd]
                simp only [f3]
                go_simp
                simp only [yUpon]
                exact hK _ _ rfl hS
              · intro D uu w' K hD hF hl hS hK
                simp only [puts, Act.put, List.setIfInBounds_toArray, List.set_cons_succ, List.set_cons_zero, Nat.zero_add, Nat.reduceAdd]
                go_simp
                simp only [yUpon]
                exact hK _ _ rfl hS
              · intro D uu w' K hD hF hl hS hK
                have f4 := (hF 4 (by kernel_rfl)).2
                simp only at f4
                have f5 := (hF 5 (by kernel_rfl)).2
                simp only at f5
                simp only [puts, Act.put, List.setIfInBounds_toArray, List.set_cons_succ, List.set_cons_zero, Nat.zero_add, Nat.reduceAdd]
                simp only [f4, f5]
                go_simp
                simp only [yUpon]
                exact hK _ _ rfl hS
              · intro D uu w' K hD hF hl hS hK
                have f1 := (hF 1 (by kernel_rfl)).2
                simp only at f1
                have f6 := (hF 6 (by kernel_rfl)).2
                simp only at f6
                simp only [puts, Act.put, List.setIfInBounds_toArray, List.set_cons_succ, List.set_cons_zero, Nat.zero_add, Nat.reduceAdd]
                simp only [f1, f6]
                go_simp
                simp only [yUpon]
                refine (load_is d t q y _ (HD.out.of_new hS.keep) HY.out).mono ?_
                rintro e w1 ⟨rfl, rfl⟩
                exact hK _ _ rfl hS
              · intro D uu w' K hD hF hl hS hK
                have f0 := (hF 0 (by kernel_rfl)).2
                simp only at f0
                have f7 := (hF 7 (by kernel_rfl)).2
                simp only at f7
                simp only [puts, Act.put, List.setIfInBounds_toArray, List.set_cons_succ, List.set_cons_zero, Nat.zero_add, Nat.reduceAdd]
                simp only [f0, f7]
                have hcc := HCL.out g5 g3 g7 mr RC RA y _ (by have := HYR.out; unfold Wd at this; omega) (hS.blk 3 rfl) (hS.blk 1 rfl) (hS.blk 5 rfl) (hS.all 4 _ rfl)
                rw [HOY.out] at hcc
                go_simp
                simp only [yUpon]
                refine (hcc).mono ?_
                rintro e w1 ⟨rfl, hkk⟩
                exact hK _ _ rfl (hS.grow hkk)
              · intro D uu w' K hD hF hl hS hK
                have f8 := (hF 8 (by kernel_rfl)).2
                simp only at f8
                simp only [puts, Act.put, List.setIfInBounds_toArray, List.set_cons_succ, List.set_cons_zero, Nat.zero_add, Nat.reduceAdd]
                simp only [f8]
                go_simp
                simp only [yUpon]
                exact hK _ _ rfl hS
            case fin =>
              intro D uu wf hall hS
              have v0 := (hall 0 (by simp)).2
              have v1 := (hall 1 (by simp)).2
              have v2 := (hall 2 (by simp)).2
              have v3 := (hall 3 (by simp)).2
              have v4 := (hall 4 (by simp)).2
              have v5 := (hall 5 (by simp)).2
              have v6 := (hall 6 (by simp)).2
              have v7 := (hall 7 (by simp)).2
              have v8 := (hall 8 (by simp)).2
              have v9 := (hall 9 (by simp)).2
              simp only at v0 v1 v2 v3 v4 v5 v6 v7 v8 v9
              have HS := Lib.hid hS
              clear hall hS
              simp only [puts, Act.put, List.setIfInBounds_toArray, List.set_cons_succ, List.set_cons_zero, Nat.zero_add, Nat.reduceAdd]
              simp only [v0, v1, v2, v3, v4, v5, v6, v7, v8, v9]
              clear v0 v1 v2 v3 v4 v5 v6 v7 v8 v9
              cases B with
              | true =>
                gi_wp2
                refine ⟨⟨i + 1, by omega, by first | rfl | go_num | simp, fun i' hi' => ?_, HS.out⟩, by simp [intOf]; omega⟩
                rcases Nat.lt_or_ge i' i with h1 | h1
                · exact HA.out i' h1
                · obtain rfl : i' = i := by omega
                  rw [HQ.out, HY.out]; exact HOY.out
              | false =>
                have m0 := (HS.out.blk 6 rfl).cell 0
                simp at m0
                have z0 := (HS.out.blk 6 rfl).frozen 0
                have hs2 := HS.out.put (i := 6) rfl 0 (.int .i64 9)
                have HS2 := Lib.hid hs2
                clear hs2
                gi_wp2
                refine ⟨_, ⟨rfl, ?_⟩, Sep.dropMid (r := blkR go 53 #[.int .i64 xm, .int .i64 (bn : Int), .int .i64 (p : Int)]) _ _ HS2.out⟩
                rw [← HZ2.out, if_neg]
                intro h
                have h1 := List.all_eq_true.1 h _ (List.mem_of_getElem? HX.out)
                unfold refsOk at h1
                have h2 := List.all_eq_true.1 h1 i (List.mem_range.2 (by simp only; omega))
                simp only at h2
                rw [HQ.out, HY.out, HOY.out] at h2
                cases h2
          · have hltI : ¬ (i : Int) < (bn : Int) := by omega
            obtain rfl : i = bn := by omega
            gi_wp2
            refine ⟨_, ⟨rfl, fun i' x' hi' hx' => ?_⟩, Sep.dropMid (r := blkR go 53 #[.int .i64 xm, .int .i64 (i : Int), .int .i64 (p : Int)]) _ _ HS.out⟩
            rcases Nat.lt_or_ge i' m with h1 | h1
            · exact HZ.out i' x' h1 hx'
            · obtain rfl : i' = m := by omega
              rw [HX.out] at hx'
              cases hx'
              exact List.all_eq_true.2 fun i'' hi'' => HA.out i'' (by have := List.mem_range.1 hi''; simp only at this; omega)
      case done =>
        rintro D L r2 W' ⟨rfl, hz⟩ hs
        simp only [Exit.inBlock, Exit.then]
        have HS := Lib.hid hs
        have hall : its.all (refsOk t ok) = true := List.all_eq_true.2 fun x hx => by
          obtain ⟨i, hi, he⟩ := List.mem_iff_getElem.1 hx
          exact hz i x hi (by rw [List.getElem?_eq_getElem hi, he])
        have h0 := HZ2.out
        rw [if_pos hall] at h0
        have HR0 := Lib.hid h0
        clear hs hz hall h0 HZ2
        refine wpFr_of_wp ?_
        have m0 := (HS.out.blk 6 rfl).cell 0
        simp at m0
        go_wp2
        rw [Exit.noGoto_ret]
        refine leave_mark (HS.out.all 11 _ rfl) (results_tmp rfl _ _ _) ⟨?_, (HS.out.putObj (i := 11) rfl (.deferred none)).take 0⟩
        rw [← HR0.out]; rfl
      case stop =>
        rintro D c L r2 W' ⟨rfl, rfl, hno⟩ hs
        have HS := Lib.hid hs
        have HR0 := Lib.hid hno
        clear hs hno HZ2
        refine wpFr_of_wp ?_
        go_wp2
        refine wpFr_of_wp ?_
        have m0 := (HS.out.blk 6 rfl).cell 0
        simp at m0
        go_wp2
        rw [Exit.noGoto_ret]
        refine leave_mark (HS.out.all 11 _ rfl) (results_tmp rfl _ _ _) ⟨?_, (HS.out.putObj (i := 11) rfl (.deferred none)).take 0⟩
        rw [HR0.out]; rfl
end Go.Proofs.Ytbdomdmnjclpdaa
set_option linter.unusedSimpArgs false
set_option linter.unusedVariables false
set_option maxRecDepth 100000
namespace Go.Proofs.Ytbdomdmnjclpdaa
open Go.RowKit Go.Shelf

theorem checkP_zero {t : St} {k : Kfg} {a u : Nat} (h0 : errAt (scan t (k.from_ a + u) (k.from_ a)) = 0)
    (hr : ∀ i, i < k.R → nmOk k a u (mapOf (scan t (k.from_ a + u) (k.from_ a))) (t.nw (k.act + 2 + i)) = true)
    (hn : ∀ x ∈ scan t (k.from_ a + u) (k.from_ a), ∀ i, i < x.b.toNat → nmOk k a u (mapOf (scan t (k.from_ a + u) (k.from_ a))) (t.nw (x.p + 1 + i)) = true) : checkP t k a u = 0 := by
  unfold checkP
  rw [if_neg (by simp [h0]), if_pos]
  rw [Bool.and_eq_true]
  exact ⟨List.all_eq_true.2 fun i hi => hr i (List.mem_range.1 hi), List.all_eq_true.2 fun x hx => List.all_eq_true.2 fun i hi => hn x hx i (List.mem_range.1 hi)⟩
theorem checkP_root {t : St} {k : Kfg} {a u i : Nat} (h0 : errAt (scan t (k.from_ a + u) (k.from_ a)) = 0) (hi : i < k.R)
    (hr : nmOk k a u (mapOf (scan t (k.from_ a + u) (k.from_ a))) (t.nw (k.act + 2 + i)) = false) : checkP t k a u = 9 := by
  unfold checkP
  rw [if_neg (by simp [h0]), if_neg]
  intro h
  rw [Bool.and_eq_true] at h
  have := List.all_eq_true.1 h.1 i (List.mem_range.2 hi)
  rw [hr] at this
  cases this
theorem checkP_three (t : St) (k : Kfg) (a u : Nat) : checkP t k a u = 0 ∨ checkP t k a u = 8 ∨ checkP t k a u = 9 := by
  unfold checkP
  split
  · exact .inr (.inl rfl)
  · split
    · exact .inl rfl
    · exact .inr (.inr rfl)
theorem nmOk_zero (k : Kfg) (a u : Nat) (M : Int → Option Value) : nmOk k a u M 0 = true := rfl
theorem fill_err {t : St} {k : Kfg} {a u : Nat} {os : List Ob} (h : FillS t k a os u) : errAt (scan t (k.from_ a + u) (k.from_ a)) = 0 := by
  refine errAt_zero fun x hx => ?_
  rw [h.scan] at hx
  obtain ⟨o, _, rfl⟩ := List.mem_map.1 hx
  rfl
/-- What names an object. -/
theorem fill_nm {t : St} {k : Kfg} {a u : Nat} {os : List Ob} (h : FillS t k a os u) (x : Int) : nmOk k a u (mapOf (scan t (k.from_ a + u) (k.from_ a))) x = true ↔ x = 0 ∨ ∃ o ∈ os, x = (o.at_ : Int) := by
  unfold nmOk
  rw [Bool.or_eq_true, beq_iff_eq, Bool.and_eq_true, mapOf_some (scan_rise _ _ _), h.scan]
  refine or_congr_right ?_
  constructor
  · rintro ⟨_, h2⟩
    obtain ⟨y, hy, rfl⟩ := List.mem_map.1 h2
    obtain ⟨o, ho, rfl⟩ := List.mem_map.1 (List.mem_filter.1 hy).1
    exact ⟨o, ho, rfl⟩
  · rintro ⟨o, ho, rfl⟩
    have := h.chain.mem ho
    refine ⟨(hasB_iff k a u o.at_).2 ⟨by omega, by omega⟩, List.mem_map.2 ⟨⟨o.at_, o.n, o.b, 0⟩, List.mem_filter.2 ⟨List.mem_map.2 ⟨o, ho, rfl⟩, by simp⟩, rfl⟩⟩
/-- Names that are so: whole. -/
theorem fill_whole {t : St} {k : Kfg} {a u : Nat} {os : List Ob} (h : FillS t k a os u) (hr : ∀ i, i < k.R → t.nw (k.act + 2 + i) = 0 ∨ ∃ o ∈ os, t.nw (k.act + 2 + i) = (o.at_ : Int))
    (hn : ∀ o ∈ os, ∀ i, i < o.b → t.nw (o.at_ + 1 + i) = 0 ∨ ∃ o' ∈ os, t.nw (o.at_ + 1 + i) = (o'.at_ : Int)) : checkP t k a u = 0 := by
  refine checkP_zero (fill_err h) (fun i hi => (fill_nm h _).2 (hr i hi)) fun x hx i hi => (fill_nm h _).2 ?_
  rw [h.scan] at hx
  obtain ⟨o, ho, rfl⟩ := List.mem_map.1 hx
  exact hn o ho i (by simpa using hi)
theorem UseS.toUsed {t : St} {k : Kfg} {a u u' : Nat} (h : UseS t k a u) (hw : k.act + 1 < k.words) : UseS (t.store (k.act + 1) (u' : Int)) k a u' := by
  have e := St.nw_store h.is hw (u' : Int)
  refine ⟨h.is.store _ _, h.lim, ?_, ?_⟩
  · rw [e, if_neg (by omega)]; exact h.act
  · rw [e, if_pos rfl]
theorem Chain.upto {o : Ob} : ∀ {os : List Ob} {p q j : Nat}, Chain p os q → os[j]? = some o → Chain p (os.take j) o.at_
  | [], p, q, j, _, hj => by simp at hj
  | y :: os, p, q, 0, h, hj => by simp at hj; subst hj; exact h.1.symm
  | y :: os, p, q, j + 1, h, hj => ⟨h.1, h.2.upto (by simpa using hj)⟩

set_option maxRecDepth 100000 in
set_option maxHeartbeats 4000000 in
theorem awake12_any (w : World) : Calls Try.prog 39 #[] w fun e w' => e = .returned (.bool true) ∧ Keep w.heap.size [] w w' := by
  have HS := Lib.hid (Sep.start w [])
  obtain ⟨k, hkd⟩ : ∃ k, k = Kfg.mk 3 1 8 := ⟨_, rfl⟩
  have hk : k.Ok := by rw [hkd]; exact k318_ok
  have HK := Lib.hid hk
  have hcf : Value.agg #[.int .i64 3, .int .i64 1, .int .i64 8] = .agg k.cells := by rw [hkd]; rfl
  have hw56 : k.words = 56 := by rw [hkd]; rfl
  have hact : k.act = 32 := by rw [hkd]; rfl
  have hkR : k.R = 1 := by rw [hkd]
  have HCF := Lib.hid hcf
  have HW56 := Lib.hid hw56
  have HACT := Lib.hid hact
  have HKR := Lib.hid hkR
  clear hcf hw56 hkd hk hact hkR
  go_enter Try.func39, Try.ntmps39
  go_wp2_with fail
  refine (awake11_any _).mono ?_
  rintro e w1 ⟨rfl, hk⟩
  replace HS := Lib.hid (HS.out.grow hk)
  clear hk
  go_wp2_with fail
  replace HS := Lib.hid (HS.out.new 30 #[.int .i64 3, .int .i64 1, .int .i64 8])
  generalize w1.alloc _ = w4 at *
  generalize w1.heap.size = gk at *
  have c0 := (HS.out.blk 0 rfl).cell 0
  simp at c0
  have c1 := (HS.out.blk 0 rfl).cell 1
  simp at c1
  have c2 := (HS.out.blk 0 rfl).cell 2
  simp at c2
  go_wp2_with fail
  rw [HCF.out]
  refine (formatted_any k _ [] _ HK.out (rd_nil6 _ 0) (by decide)).mono ?_
  rintro e w5 ⟨d, rfl, hdb, hd, hkk⟩
  obtain ⟨s5, hs5⟩ : ∃ s5, s5 = (St.fresh (-1) 0 (fill [] k.words)).run (fmtOps k) := ⟨_, rfl⟩
  rw [← hs5] at hd
  have hI : s5.Is k.words := by rw [hs5]; exact (fresh_fill [] k).run _
  have hA : AllS s5 k := by rw [hs5]; exact all_of HK.out (fresh_fill [] k)
  have hl5 : s5.l < 0 := by rw [hs5, St.run_l]; show (-1 : Int) < 0; decide
  have hrg : s5.rng := by rw [hs5]; exact fmt_rng HK.out (by simp)
  have hz1 := HKR.out
  have hus0 : UseS s5 k 0 0 := ⟨hI, hl5, (hA.zer 0 (by omega)).1, (hA.zer 1 (by omega)).1⟩
  have hr0 : s5.nw (k.act + 2) = 0 := (hA.zer 2 (by omega)).1
  replace HS := Lib.hid (HS.out.add hkk (r := devR d s5) hd hdb)
  have hc0 : checkP s5 k 0 0 = 0 := fill_whole (FillS.start hus0) (fun i hi => .inl (by
    have hi0 : i = 0 := by omega
    subst hi0; exact hr0)) (fun o ho => by simp at ho)
  have hf0 : k.from_ 0 = 40 := by
    have h1 := k.from_le
    have h2 := k.from_mod 0
    rw [HACT.out, HKR.out] at h1
    omega
  have hus1 : FillS (s5.store (k.act + 2) 5) k 0 [] 0 := by
    have e := St.nw_store hI (show k.act + 2 < k.words by rw [HACT.out, HW56.out]; decide) 5
    refine FillS.start ⟨hI.store _ _, hl5, ?_, ?_⟩
    · rw [e, if_neg (by omega)]; exact hus0.act
    · rw [e, if_neg (by omega)]; exact hus0.used
  have hc9 : checkP (s5.store (k.act + 2) 5) k 0 0 = 9 := by
    refine checkP_root (fill_err hus1) (i := 0) (by omega) ?_
    rw [St.nw_store hI (show k.act + 2 + 0 < k.words by rw [HACT.out, HW56.out]; decide) 5, if_pos rfl]
    refine Bool.eq_false_iff.2 fun h => ?_
    rcases (fill_nm hus1 _).1 h with h | ⟨o, ho, _⟩
    · exact absurd (show (5 : Int) = 0 from h) (by decide)
    · simp at ho
  have hrg1 : (s5.store (k.act + 2) 5).rng := hrg.store ⟨by decide, by decide⟩
  have HU := Lib.hid hus0
  have HU1 := Lib.hid hus1.use
  have HC0 := Lib.hid hc0
  have HC9 := Lib.hid hc9
  have HRG := Lib.hid hrg
  have HRG1 := Lib.hid hrg1
  clear hdb hd hkk hs5 hI hA hl5 hrg hus0 hr0 hc0 hf0 hus1 hc9 hrg1 hz1 c0 c1 c2
  have c0 := (HS.out.blk 0 rfl).cell 0
  simp at c0
  have c1 := (HS.out.blk 0 rfl).cell 1
  simp at c1
  have c2 := (HS.out.blk 0 rfl).cell 2
  simp at c2
  go_wp2_with fail
  rw [HCF.out]
  refine (heap_check d s5 k 0 0 _ (HS.out.dev 1 rfl) HK.out HU.out.is.now HU.out.act HU.out.used (by decide) (by omega) HRG.out).mono ?_
  rintro e w6 ⟨rfl, hs⟩
  rw [HC0.out]
  replace HS := Lib.hid (HS.out.grow hs.keep)
  clear hs c0 c1 c2
  have c0 := (HS.out.blk 0 rfl).cell 0
  simp at c0
  have c1 := (HS.out.blk 0 rfl).cell 1
  simp at c1
  have c2 := (HS.out.blk 0 rfl).cell 2
  simp at c2
  go_wp2_with fail
  rw [HCF.out]
  refine (kroot_eq k _ HK.out 0 (k.act + 2) (by decide) rfl).mono ?_
  rintro e w7 ⟨rfl, hkk⟩
  replace HS := Lib.hid (HS.out.grow hkk)
  clear hkk c0 c1 c2
  go_wp2_with fail
  refine (store_free d s5 (k.act + 2) 5 _ (HS.out.dev 1 rfl) HU.out.lim (by rw [HU.out.is.now, HW56.out, HACT.out]; decide)).mono ?_
  rintro e w8 ⟨rfl, hd, hkk⟩
  replace HS := Lib.hid (HS.out.did (i := 1) rfl hd hkk)
  clear hd hkk
  have c0 := (HS.out.blk 0 rfl).cell 0
  simp at c0
  have c1 := (HS.out.blk 0 rfl).cell 1
  simp at c1
  have c2 := (HS.out.blk 0 rfl).cell 2
  simp at c2
  go_wp2_with fail
  rw [HCF.out]
  refine (heap_check d _ k 0 0 _ (HS.out.dev 1 rfl) HK.out HU1.out.is.now HU1.out.act HU1.out.used (by decide) (by omega) HRG1.out).mono ?_
  rintro e w9 ⟨rfl, hs⟩
  rw [HC9.out]
  replace HS := Lib.hid (HS.out.grow hs.keep)
  clear hs c0 c1 c2
  go_wp2
  go_ret
  exact ⟨rfl, HS.out.keep⟩
end Go.Proofs.Ytbdomdmnjclpdaa
