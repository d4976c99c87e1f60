/-
  Check, plain; tumuluslaw12.Awake.
-/
import Derived.Test.YthdiehcmjknhiaaCheck
import Derived.Test.YthdiehcmjknhiaaAwk11
set_option linter.unusedSimpArgs false
set_option linter.unusedVariables false
set_option maxRecDepth 100000
namespace Go.Proofs.Ythdiehcmjknhiaa
open Go.RowKit Go.Shelf

theorem checkP_zero {t : St} {k : Kfg} {a u : Nat} (h0 : errAt (scan t (k.from_ a + u) (k.from_ a)) = 0)
    (hr : ∀ i, i < k.R → nmOk k a u (mapOf (scan t (k.from_ a + u) (k.from_ a))) (t.nw (k.act + 2 + i)) = true)
    (hn : ∀ x ∈ scan t (k.from_ a + u) (k.from_ a), ∀ i, i < x.b.toNat → nmOk k a u (mapOf (scan t (k.from_ a + u) (k.from_ a))) (t.nw (x.p + 1 + i)) = true) : checkP t k a u = 0 := by
  unfold checkP
  rw [if_neg (by simp [h0]), if_pos]
  rw [Bool.and_eq_true]
  exact ⟨List.all_eq_true.2 fun i hi => hr i (List.mem_range.1 hi), List.all_eq_true.2 fun x hx => List.all_eq_true.2 fun i hi => hn x hx i (List.mem_range.1 hi)⟩
theorem checkP_root {t : St} {k : Kfg} {a u i : Nat} (h0 : errAt (scan t (k.from_ a + u) (k.from_ a)) = 0) (hi : i < k.R)
    (hr : nmOk k a u (mapOf (scan t (k.from_ a + u) (k.from_ a))) (t.nw (k.act + 2 + i)) = false) : checkP t k a u = 9 := by
  unfold checkP
  rw [if_neg (by simp [h0]), if_neg]
  intro h
  rw [Bool.and_eq_true] at h
  have := List.all_eq_true.1 h.1 i (List.mem_range.2 hi)
  rw [hr] at this
  cases this
theorem checkP_three (t : St) (k : Kfg) (a u : Nat) : checkP t k a u = 0 ∨ checkP t k a u = 8 ∨ checkP t k a u = 9 := by
  unfold checkP
  split
  · exact .inr (.inl rfl)
  · split
    · exact .inl rfl
    · exact .inr (.inr rfl)
theorem nmOk_zero (k : Kfg) (a u : Nat) (M : Int → Option Value) : nmOk k a u M 0 = true := rfl
theorem fill_err {t : St} {k : Kfg} {a u : Nat} {os : List Ob} (h : FillS t k a os u) : errAt (scan t (k.from_ a + u) (k.from_ a)) = 0 := by
  refine errAt_zero fun x hx => ?_
  rw [h.scan] at hx
  obtain ⟨o, _, rfl⟩ := List.mem_map.1 hx
  rfl
/-- What names an object. -/
theorem fill_nm {t : St} {k : Kfg} {a u : Nat} {os : List Ob} (h : FillS t k a os u) (x : Int) : nmOk k a u (mapOf (scan t (k.from_ a + u) (k.from_ a))) x = true ↔ x = 0 ∨ ∃ o ∈ os, x = (o.at_ : Int) := by
  unfold nmOk
  rw [Bool.or_eq_true, beq_iff_eq, Bool.and_eq_true, mapOf_some (scan_rise _ _ _), h.scan]
  refine or_congr_right ?_
  constructor
  · rintro ⟨_, h2⟩
    obtain ⟨y, hy, rfl⟩ := List.mem_map.1 h2
    obtain ⟨o, ho, rfl⟩ := List.mem_map.1 (List.mem_filter.1 hy).1
    exact ⟨o, ho, rfl⟩
  · rintro ⟨o, ho, rfl⟩
    have := h.chain.mem ho
    refine ⟨(hasB_iff k a u o.at_).2 ⟨by omega, by omega⟩, List.mem_map.2 ⟨⟨o.at_, o.n, o.b, 0⟩, List.mem_filter.2 ⟨List.mem_map.2 ⟨o, ho, rfl⟩, by simp⟩, rfl⟩⟩
/-- Names that are so: whole. -/
theorem fill_whole {t : St} {k : Kfg} {a u : Nat} {os : List Ob} (h : FillS t k a os u) (hr : ∀ i, i < k.R → t.nw (k.act + 2 + i) = 0 ∨ ∃ o ∈ os, t.nw (k.act + 2 + i) = (o.at_ : Int))
    (hn : ∀ o ∈ os, ∀ i, i < o.b → t.nw (o.at_ + 1 + i) = 0 ∨ ∃ o' ∈ os, t.nw (o.at_ + 1 + i) = (o'.at_ : Int)) : checkP t k a u = 0 := by
  refine checkP_zero (fill_err h) (fun i hi => (fill_nm h _).2 (hr i hi)) fun x hx i hi => (fill_nm h _).2 ?_
  rw [h.scan] at hx
  obtain ⟨o, ho, rfl⟩ := List.mem_map.1 hx
  exact hn o ho i (by simpa using hi)
theorem UseS.toUsed {t : St} {k : Kfg} {a u u' : Nat} (h : UseS t k a u) (hw : k.act + 1 < k.words) : UseS (t.store (k.act + 1) (u' : Int)) k a u' := by
  have e := St.nw_store h.is hw (u' : Int)
  refine ⟨h.is.store _ _, h.lim, ?_, ?_⟩
  · rw [e, if_neg (by omega)]; exact h.act
  · rw [e, if_pos rfl]
theorem Chain.upto {o : Ob} : ∀ {os : List Ob} {p q j : Nat}, Chain p os q → os[j]? = some o → Chain p (os.take j) o.at_
  | [], p, q, j, _, hj => by simp at hj
  | y :: os, p, q, 0, h, hj => by simp at hj; subst hj; exact h.1.symm
  | y :: os, p, q, j + 1, h, hj => ⟨h.1, h.2.upto (by simpa using hj)⟩

set_option maxRecDepth 100000 in
set_option maxHeartbeats 4000000 in
theorem awake12_any (w : World) : Calls Try.prog 27 #[] w fun e w' => e = .returned (.bool true) ∧ Keep w.heap.size [] w w' := by
  have HS := Lib.hid (Sep.start w [])
  obtain ⟨k, hkd⟩ : ∃ k, k = Kfg.mk 3 1 8 := ⟨_, rfl⟩
  have hk : k.Ok := by rw [hkd]; exact k318_ok
  have HK := Lib.hid hk
  have hcf : Value.agg #[.int .i64 3, .int .i64 1, .int .i64 8] = .agg k.cells := by rw [hkd]; rfl
  have hw56 : k.words = 56 := by rw [hkd]; rfl
  have hact : k.act = 32 := by rw [hkd]; rfl
  have hkR : k.R = 1 := by rw [hkd]
  have HCF := Lib.hid hcf
  have HW56 := Lib.hid hw56
  have HACT := Lib.hid hact
  have HKR := Lib.hid hkR
  clear hcf hw56 hkd hk hact hkR
  go_enter Try.func27, Try.ntmps27
  go_wp2_with fail
  refine (awake11_any _).mono ?_
  rintro e w1 ⟨rfl, hk⟩
  replace HS := Lib.hid (HS.out.grow hk)
  clear hk
  go_wp2_with fail
  replace HS := Lib.hid (HS.out.new 30 #[.int .i64 3, .int .i64 1, .int .i64 8])
  generalize w1.alloc _ = w4 at *
  generalize w1.heap.size = gk at *
  have c0 := (HS.out.blk 0 rfl).cell 0
  simp at c0
  have c1 := (HS.out.blk 0 rfl).cell 1
  simp at c1
  have c2 := (HS.out.blk 0 rfl).cell 2
  simp at c2
  go_wp2_with fail
  rw [HCF.out]
  refine (formatted_any k _ [] _ HK.out (rd_nil6 _ 0) (by decide)).mono ?_
  rintro e w5 ⟨d, rfl, hdb, hd, hkk⟩
  obtain ⟨s5, hs5⟩ : ∃ s5, s5 = (St.fresh (-1) 0 (fill [] k.words)).run (fmtOps k) := ⟨_, rfl⟩
  rw [← hs5] at hd
  have hI : s5.Is k.words := by rw [hs5]; exact (fresh_fill [] k).run _
  have hA : AllS s5 k := by rw [hs5]; exact all_of HK.out (fresh_fill [] k)
  have hl5 : s5.l < 0 := by rw [hs5, St.run_l]; show (-1 : Int) < 0; decide
  have hrg : s5.rng := by rw [hs5]; exact fmt_rng HK.out (by simp)
  have hz1 := HKR.out
  have hus0 : UseS s5 k 0 0 := ⟨hI, hl5, (hA.zer 0 (by omega)).1, (hA.zer 1 (by omega)).1⟩
  have hr0 : s5.nw (k.act + 2) = 0 := (hA.zer 2 (by omega)).1
  replace HS := Lib.hid (HS.out.add hkk (r := devR d s5) hd hdb)
  have hc0 : checkP s5 k 0 0 = 0 := fill_whole (FillS.start hus0) (fun i hi => .inl (by
    have hi0 : i = 0 := by omega
    subst hi0; exact hr0)) (fun o ho => by simp at ho)
  have hf0 : k.from_ 0 = 40 := by
    have h1 := k.from_le
    have h2 := k.from_mod 0
    rw [HACT.out, HKR.out] at h1
    omega
  have hus1 : FillS (s5.store (k.act + 2) 5) k 0 [] 0 := by
    have e := St.nw_store hI (show k.act + 2 < k.words by rw [HACT.out, HW56.out]; decide) 5
    refine FillS.start ⟨hI.store _ _, hl5, ?_, ?_⟩
    · rw [e, if_neg (by omega)]; exact hus0.act
    · rw [e, if_neg (by omega)]; exact hus0.used
  have hc9 : checkP (s5.store (k.act + 2) 5) k 0 0 = 9 := by
    refine checkP_root (fill_err hus1) (i := 0) (by omega) ?_
    rw [St.nw_store hI (show k.act + 2 + 0 < k.words by rw [HACT.out, HW56.out]; decide) 5, if_pos rfl]
    refine Bool.eq_false_iff.2 fun h => ?_
    rcases (fill_nm hus1 _).1 h with h | ⟨o, ho, _⟩
    · exact absurd (show (5 : Int) = 0 from h) (by decide)
    · simp at ho
  have hrg1 : (s5.store (k.act + 2) 5).rng := hrg.store ⟨by decide, by decide⟩
  have HU := Lib.hid hus0
  have HU1 := Lib.hid hus1.use
  have HC0 := Lib.hid hc0
  have HC9 := Lib.hid hc9
  have HRG := Lib.hid hrg
  have HRG1 := Lib.hid hrg1
  clear hdb hd hkk hs5 hI hA hl5 hrg hus0 hr0 hc0 hf0 hus1 hc9 hrg1 hz1 c0 c1 c2
  have c0 := (HS.out.blk 0 rfl).cell 0
  simp at c0
  have c1 := (HS.out.blk 0 rfl).cell 1
  simp at c1
  have c2 := (HS.out.blk 0 rfl).cell 2
  simp at c2
  go_wp2_with fail
  rw [HCF.out]
  refine (heap_check d s5 k 0 0 _ (HS.out.dev 1 rfl) HK.out HU.out.is.now HU.out.act HU.out.used (by decide) (by omega) HRG.out).mono ?_
  rintro e w6 ⟨rfl, hs⟩
  rw [HC0.out]
  replace HS := Lib.hid (HS.out.grow hs.keep)
  clear hs c0 c1 c2
  have c0 := (HS.out.blk 0 rfl).cell 0
  simp at c0
  have c1 := (HS.out.blk 0 rfl).cell 1
  simp at c1
  have c2 := (HS.out.blk 0 rfl).cell 2
  simp at c2
  go_wp2_with fail
  rw [HCF.out]
  refine (kroot_eq k _ HK.out 0 (k.act + 2) (by decide) rfl).mono ?_
  rintro e w7 ⟨rfl, hkk⟩
  replace HS := Lib.hid (HS.out.grow hkk)
  clear hkk c0 c1 c2
  go_wp2_with fail
  refine (store_free d s5 (k.act + 2) 5 _ (HS.out.dev 1 rfl) HU.out.lim (by rw [HU.out.is.now, HW56.out, HACT.out]; decide)).mono ?_
  rintro e w8 ⟨rfl, hd, hkk⟩
  replace HS := Lib.hid (HS.out.did (i := 1) rfl hd hkk)
  clear hd hkk
  have c0 := (HS.out.blk 0 rfl).cell 0
  simp at c0
  have c1 := (HS.out.blk 0 rfl).cell 1
  simp at c1
  have c2 := (HS.out.blk 0 rfl).cell 2
  simp at c2
  go_wp2_with fail
  rw [HCF.out]
  refine (heap_check d _ k 0 0 _ (HS.out.dev 1 rfl) HK.out HU1.out.is.now HU1.out.act HU1.out.used (by decide) (by omega) HRG1.out).mono ?_
  rintro e w9 ⟨rfl, hs⟩
  rw [HC9.out]
  replace HS := Lib.hid (HS.out.grow hs.keep)
  clear hs c0 c1 c2
  go_wp2
  go_ret
  exact ⟨rfl, HS.out.keep⟩
end Go.Proofs.Ythdiehcmjknhiaa
