/-
  A Format that is cut anywhere, and crashed: plain law.
-/
import Derived.Test.YthejggahengfnaaFmtP
set_option linter.unusedSimpArgs false
set_option linter.unusedVariables false
namespace Go.Proofs.Ythejggahengfnaa
open Go.RowKit Go.Shelf

def Dop.spot : Dop → Option Nat
  | .st k _ => some k
  | _ => none
section
variable {s : St} {n j : Nat} {v : Int}
theorem St.all.store (h : s.all j v) {k : Nat} (hk : k ≠ j) (u : Int) : (s.store k u).all j v := by
  refine ⟨?_, h.2.1, h.2.2⟩
  show (s.now.set k u).getD j 0 = v
  rw [List.getD_eq_getElem?_getD, List.getElem?_set_ne hk, ← List.getD_eq_getElem?_getD]
  exact h.1
theorem St.all.flush (h : s.all j v) (k : Nat) : (s.flush k).all j v := by
  refine ⟨h.1, ?_, h.2.2⟩
  rw [St.pd_flush]
  split
  · exact h.1
  · exact h.2.1
theorem St.all.fence (hI : s.Is n) (hj : j < n) (h : s.all j v) : s.fence.all j v := ⟨h.1, (St.pd_fence hI hj).trans h.2.1, (St.kp_fence hI hj).trans h.2.1⟩
theorem St.all.op (h : s.all j v) (hI : s.Is n) (hj : j < n) (o : Dop) (ho : o.spot ≠ some j) : (s.op o).all j v := by
  cases o with
  | st k u => exact h.store (fun e => ho (by simp [Dop.spot, e])) u
  | fl k => exact h.flush k
  | fe => exact St.all.fence hI hj h
theorem St.all.run (hj : j < n) (l : List Dop) : ∀ {s : St}, s.Is n → s.all j v → (∀ o ∈ l, o.spot ≠ some j) → (s.run l).all j v := by
  induction l with
  | nil => intro s _ h _; exact h
  | cons o l ih => intro s hI h ho; exact ih (hI.op o) (h.op hI hj o (ho o (by simp))) fun q hq => ho q (by simp [hq])
end

/-- What comes between the first fence and the magic. -/
def midOps (k : Kfg) : List Dop := cfgOps k ++ fmt2 ++ recOps k.L ++ zeroOps k.act (2 + k.R) ++ [.fl 0, .fe]
theorem fmtOps_eq (k : Kfg) : fmtOps k = fmt1 ++ (midOps k ++ ([.st 0 MAGIC, .fl 0, .fe] : List Dop)) := by
  unfold fmtOps midOps fmt3; simp
theorem midOps_spot (k : Kfg) : ∀ o ∈ midOps k, o.spot ≠ some 0 := by
  have ha := k.act_le
  intro o ho
  unfold midOps at ho
  simp only [List.mem_append] at ho
  rcases ho with (((ho | ho) | ho) | ho) | ho
  · simp [cfgOps] at ho
    rcases ho with rfl | rfl | rfl <;> simp [Dop.spot]
  · simp [fmt2] at ho
    rcases ho with rfl | rfl <;> simp [Dop.spot]
  · simp only [recOps, List.mem_flatMap, recOp, List.mem_cons, List.not_mem_nil, or_false] at ho
    obtain ⟨i, _, rfl | rfl⟩ := ho
    · simp only [Dop.spot, ne_eq, Option.some.injEq]; omega
    · simp [Dop.spot]
  · simp only [zeroOps, List.mem_flatMap, zeroOp, List.mem_cons, List.not_mem_nil, or_false] at ho
    obtain ⟨i, _, rfl | rfl⟩ := ho
    · simp only [Dop.spot, ne_eq, Option.some.injEq]; omega
    · simp [Dop.spot]
  · simp at ho
    rcases ho with rfl | rfl <;> simp [Dop.spot]

/-- All of a new heap's words but the first. -/
structure Rest (s : St) (k : Kfg) : Prop where
  w1 : s.all 1 k.L
  w2 : s.all 2 k.R
  w3 : s.all 3 k.S
  w8 : s.all 8 1
  recs : ∀ i, i < k.L → s.all (16 + 4 * i) 0
  zer : ∀ i, i < 2 + k.R → s.all (k.act + i) 0
theorem rest_of {s : St} {k : Kfg} (hk : k.Ok) (h : s.Is k.words) : Rest (s.run (fmt1 ++ midOps k)) k := by
  obtain ⟨hw1, hw2⟩ := Kfg.words_le hk
  obtain ⟨ha1, ha2⟩ := k.act_le
  have ham := k.act_mod
  have h24 : 24 ≤ k.words := by have := hk.l0; have := hk.r0; omega
  have hm := mid_of hk h
  have hI : (s.run (fmt1 ++ cfgOps k ++ fmt2 ++ recOps k.L ++ zeroOps k.act (2 + k.R))).Is k.words := h.run _
  have e : s.run (fmt1 ++ midOps k) = ((s.run (fmt1 ++ cfgOps k ++ fmt2 ++ recOps k.L ++ zeroOps k.act (2 + k.R))).flush 0).fence := by
    have : fmt1 ++ midOps k = (fmt1 ++ cfgOps k ++ fmt2 ++ recOps k.L ++ zeroOps k.act (2 + k.R)) ++ [.fl 0, .fe] := by unfold midOps; simp
    rw [this, St.run_append]; rfl
  rw [e]
  generalize s.run (fmt1 ++ cfgOps k ++ fmt2 ++ recOps k.L ++ zeroOps k.act (2 + k.R)) = m at *
  have i1 := hI.flush 0
  have hpd : ∀ j, (m.flush 0).pd j = if j / 8 = 0 then m.nw j else m.pd j := fun j => St.pd_flush 0 j
  have all : ∀ j v, j < k.words → m.nw j = v → (if j / 8 = 0 then m.nw j else m.pd j) = v → (m.flush 0).fence.all j v := fun j v hj a b =>
    ⟨a, by rw [St.pd_fence i1 hj, hpd]; exact b, by rw [St.kp_fence i1 hj, hpd]; exact b⟩
  refine ⟨?_, ?_, ?_, ?_, ?_, ?_⟩
  · exact all _ _ (by omega) hm.w1 hm.w1
  · exact all _ _ (by omega) hm.w2 hm.w2
  · exact all _ _ (by omega) hm.w3 hm.w3
  · exact all _ _ (by omega) hm.w8.1 hm.w8.2
  · intro i hi
    obtain ⟨a, b⟩ := hm.recs i hi
    exact all _ _ (by omega) a (by rw [if_neg (by omega)]; exact b)
  · intro i hi
    obtain ⟨a, b⟩ := hm.zer i hi
    exact all _ _ (by omega) a (by rw [if_neg (by omega)]; exact b)
theorem Rest.op {s : St} {k : Kfg} (hk : k.Ok) (hI : s.Is k.words) (h : Rest s k) (o : Dop) (ho : ∀ j, j ≠ 0 → o.spot ≠ some j) : Rest (s.op o) k := by
  obtain ⟨hw1, hw2⟩ := Kfg.words_le hk
  obtain ⟨ha1, ha2⟩ := k.act_le
  have h24 : 24 ≤ k.words := by have := hk.l0; have := hk.r0; omega
  exact ⟨h.w1.op hI (by omega) o (ho _ (by omega)), h.w2.op hI (by omega) o (ho _ (by omega)), h.w3.op hI (by omega) o (ho _ (by omega)), h.w8.op hI (by omega) o (ho _ (by omega)),
    fun i hi => (h.recs i hi).op hI (by omega) o (ho _ (by omega)), fun i hi => (h.zer i hi).op hI (by omega) o (ho _ (by omega))⟩
theorem Rest.crash {s : St} {k : Kfg} (hk : k.Ok) (hI : s.Is k.words) (h : Rest s k) (ch : Nat → Int) (h0 : (s.crash ch).nw 0 = MAGIC) : WholeS (s.crash ch) k := by
  obtain ⟨hw1, hw2⟩ := Kfg.words_le hk
  obtain ⟨ha1, ha2⟩ := k.act_le
  have h24 : 24 ≤ k.words := by have := hk.l0; have := hk.r0; omega
  have one : ∀ j v, j < k.words → s.all j v → (s.crash ch).nw j = v := fun j v hj ha => (St.nw_crash hI ch hj).trans (ha.left ch)
  exact ⟨h0, one _ _ (by omega) h.w1, one _ _ (by omega) h.w2, one _ _ (by omega) h.w3, one _ _ (by omega) h.w8, fun i hi => one _ _ (by omega) (h.recs i hi), fun i hi => one _ _ (by omega) (h.zer i hi)⟩

/-- A device that has been formatted in part: not a heap, or all as it was, or a new heap's. -/
theorem cut_law {s : St} {k : Kfg} {xs : List Int} (hk : k.Ok) (h : s.Is k.words) (hx : xs.length = k.words) (ha : ∀ j, s.all j (xs.getD j 0)) (m : Nat) (hm : m < (fmtOps k).length) (ch : Nat → Int) (h0 : ((s.run ((fmtOps k).take m)).crash ch).nw 0 = MAGIC) :
    ((s.run ((fmtOps k).take m)).crash ch).now = xs ∨ WholeS ((s.run ((fmtOps k).take m)).crash ch) k := by
  obtain ⟨hw1, hw2⟩ := Kfg.words_le hk
  have h24 : 0 < k.words := by omega
  rw [fmtOps_eq] at hm h0 ⊢
  have hI := fun l => St.Is.run (n := k.words) l h
  have same : ∀ t : St, t.Is k.words → (t.crash ch).nw 0 = MAGIC → (∀ j, j ≠ 0 → t.all j (xs.getD j 0)) → ((t.nw 0 = 0 ∨ t.nw 0 = xs.getD 0 0) ∧ (t.pd 0 = 0 ∨ t.pd 0 = xs.getD 0 0) ∧ (t.kp 0 = 0 ∨ t.kp 0 = xs.getD 0 0)) → (t.crash ch).now = xs := by
    intro t ht h0 hall hz
    refine eq_of_getD (by rw [(ht.crash ch).now, hx]) fun j hj => ?_
    rw [(ht.crash ch).now] at hj
    by_cases hj0 : j = 0
    · subst hj0
      have h1 := St.nw_crash ht ch hj
      have h2 : left t ch 0 = 0 ∨ left t ch 0 = xs.getD 0 0 := by
        rcases left_of t ch 0 with e | e | e
        · rw [e]; exact hz.2.1
        · rw [e]; exact hz.1
        · rw [e]; exact hz.2.2
      rcases h2 with e | e
      · rw [e] at h1; rw [h1] at h0; exact absurd h0 (by decide)
      · exact h1.trans e
    · exact (St.nw_crash ht ch hj).trans ((hall j hj0).left ch)
  have s0 : s.nw 0 = xs.getD 0 0 := (ha 0).1
  have p0 : s.pd 0 = xs.getD 0 0 := (ha 0).2.1
  have k0 : s.kp 0 = xs.getD 0 0 := (ha 0).2.2
  have n1 : (s.store 0 0).nw 0 = 0 := by rw [St.nw_store h h24]; rfl
  by_cases c0 : m = 0
  · subst c0
    exact .inl (same s h h0 (fun j _ => ha j) ⟨.inr s0, .inr p0, .inr k0⟩)
  by_cases c1 : m = 1
  · subst c1
    exact .inl (same (s.store 0 0) (h.store 0 0) h0 (fun j hj => (ha j).store (fun e => hj e.symm) 0) ⟨.inl n1, .inr p0, .inr k0⟩)
  by_cases c2 : m = 2
  · subst c2
    refine .inl (same ((s.store 0 0).flush 0) ((h.store 0 0).flush 0) h0 (fun j hj => ((ha j).store (fun e => hj e.symm) 0).flush 0) ⟨.inl n1, ?_, .inr k0⟩)
    rw [St.pd_flush, if_pos rfl, n1]; exact .inl rfl
  obtain ⟨q, rfl⟩ : ∃ q, m = 3 + q := ⟨m - 3, by omega⟩
  have e3 : (fmt1 ++ (midOps k ++ ([.st 0 MAGIC, .fl 0, .fe] : List Dop))).take (3 + q) = fmt1 ++ (midOps k ++ ([.st 0 MAGIC, .fl 0, .fe] : List Dop)).take q := by
    rw [List.take_append, List.take_of_length_le (by simp [fmt1])]
    congr 1
    congr 1
    simp [fmt1]
  rw [e3] at h0 ⊢
  have hz : (s.run fmt1).all 0 0 := by
    have i2 := (h.store 0 0).flush 0
    have pz : ((s.store 0 0).flush 0).pd 0 = 0 := by rw [St.pd_flush, if_pos rfl, n1]
    exact ⟨n1, (St.pd_fence i2 h24).trans pz, (St.kp_fence i2 h24).trans pz⟩
  by_cases hq : q ≤ (midOps k).length
  · exfalso
    rw [List.take_append_of_le_length hq, St.run_append] at h0
    have hz2 := St.all.run (n := k.words) h24 ((midOps k).take q) (hI fmt1) hz fun o ho => midOps_spot k o (List.mem_of_mem_take ho)
    rw [St.nw_crash ((hI fmt1).run _) ch h24, hz2.left ch] at h0
    exact absurd h0 (by decide)
  · obtain ⟨p, hp⟩ : ∃ p, q = (midOps k).length + p := ⟨q - (midOps k).length, by omega⟩
    subst hp
    have hp2 : p < 3 := by simp [fmt1] at hm; omega
    have e4 : (midOps k ++ ([.st 0 MAGIC, .fl 0, .fe] : List Dop)).take ((midOps k).length + p) = midOps k ++ ([.st 0 MAGIC, .fl 0, .fe] : List Dop).take p := by
      rw [List.take_append, List.take_of_length_le (by omega)]
      congr 2
      omega
    rw [e4, ← List.append_assoc, St.run_append] at h0 ⊢
    have hr := rest_of hk h
    have i0 := hI (fmt1 ++ midOps k)
    have r1 := hr.op hk i0 (.st 0 MAGIC) (fun j hj => by simp [Dop.spot]; omega)
    have r2 := r1.op hk (i0.op (.st 0 MAGIC)) (.fl 0) (fun j hj => by simp [Dop.spot])
    rcases (show p = 0 ∨ p = 1 ∨ p = 2 by omega) with rfl | rfl | rfl
    · exact absurd (show ¬ (midOps k).length + 0 ≤ (midOps k).length from hq) (by omega)
    · exact .inr (r1.crash hk (i0.op _) ch h0)
    · exact .inr (r2.crash hk ((i0.op _).op _) ch h0)
end Go.Proofs.Ythejggahengfnaa
