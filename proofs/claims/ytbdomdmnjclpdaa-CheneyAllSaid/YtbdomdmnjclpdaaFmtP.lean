/-
  A new heap's words.
  What a Format leaves: plain laws.
-/
import Derived.Test.YtbdomdmnjclpdaaRead
set_option linter.unusedSimpArgs false
set_option linter.unusedVariables false
set_option maxRecDepth 100000
namespace Go.Proofs.Ytbdomdmnjclpdaa
open Go.RowKit Go.Shelf

/-- A new heap's words. -/
structure WholeS (s : St) (k : Kfg) : Prop where
  w0 : s.nw 0 = MAGIC
  w1 : s.nw 1 = k.L
  w2 : s.nw 2 = k.R
  w3 : s.nw 3 = k.S
  w8 : s.nw 8 = 1
  recs : ∀ i, i < k.L → s.nw (16 + 4 * i) = 0
  zer : ∀ i, i < 2 + k.R → s.nw (k.act + i) = 0

theorem load_is (d : DevI) (s : St) (j : Nat) (v : Int) (w : World) (h : Dev w d s) (hv : s.nw j = v) :
    Calls Try.prog 32 #[.pointer (some ⟨d.b, 0, none⟩), .int .i64 j] w fun e w' => e = .returned (.int .u64 v) ∧ w = w' := by
  subst hv; exact load_nat d s j w h

end Go.Proofs.Ytbdomdmnjclpdaa
set_option linter.unusedSimpArgs false
set_option linter.unusedVariables false
set_option maxRecDepth 100000
namespace Go.Proofs.Ytbdomdmnjclpdaa
open Go.RowKit Go.Shelf

def zf (p : Nat) : List Dop := [.st p 0, .fl p]
section
variable {s : St} {n : Nat}
theorem zf_step (h : s.Is n) {p : Nat} (hp : p < n) (j : Nat) : (s.run (zf p)).nw j = (if j = p then 0 else s.nw j) ∧ (s.run (zf p)).pd j = (if j / 8 = p / 8 then (if j = p then 0 else s.nw j) else s.pd j) ∧ (s.run (zf p)).kp j = s.kp j := by
  refine ⟨?_, ?_, rfl⟩
  · show ((s.store p 0).flush p).nw j = _
    rw [St.nw_flush, St.nw_store h hp]
  · show ((s.store p 0).flush p).pd j = _
    rw [St.pd_flush, St.nw_store h hp, St.pd_store]
/-- Noughts are stored, and flushed, at some places. -/
theorem zf_run (P : List Nat) : ∀ {s : St}, s.Is n → (∀ p ∈ P, p < n) →
    (∀ j, s.nw j = 0 → s.pd j = 0 → (s.run (P.flatMap zf)).nw j = 0 ∧ (s.run (P.flatMap zf)).pd j = 0) ∧
    (∀ p ∈ P, (s.run (P.flatMap zf)).nw p = 0 ∧ (s.run (P.flatMap zf)).pd p = 0) ∧
    (∀ j, (∀ p ∈ P, j / 8 ≠ p / 8) → (s.run (P.flatMap zf)).nw j = s.nw j ∧ (s.run (P.flatMap zf)).pd j = s.pd j) ∧
    (∀ j, (s.run (P.flatMap zf)).kp j = s.kp j) := by
  induction P with
  | nil => intro s _ _; exact ⟨fun j h1 h2 => ⟨h1, h2⟩, by simp, fun j _ => ⟨rfl, rfl⟩, fun j => rfl⟩
  | cons p P ih =>
    intro s h hP
    have hp := hP p (by simp)
    have hst := zf_step h hp
    have h1 : (s.run (zf p)).Is n := h.run _
    obtain ⟨i1, i2, i3, i4⟩ := ih h1 fun q hq => hP q (by simp [hq])
    have e : s.run ((p :: P).flatMap zf) = (s.run (zf p)).run (P.flatMap zf) := by rw [List.flatMap_cons, St.run_append]
    rw [e]
    refine ⟨fun j a b => i1 j ?_ ?_, fun q hq => ?_, fun j hj => ?_, fun j => (i4 j).trans (hst j).2.2⟩
    · rw [(hst j).1]; split <;> first | rfl | exact a
    · rw [(hst j).2.1]; split
      · split <;> first | rfl | exact a
      · exact b
    · rcases List.mem_cons.1 hq with rfl | hq
      · exact i1 q (by rw [(hst q).1, if_pos rfl]) (by rw [(hst q).2.1, if_pos rfl, if_pos rfl])
      · exact i2 q hq
    · have h8 := hj p (by simp)
      obtain ⟨a, b⟩ := i3 j fun q hq => hj q (by simp [hq])
      refine ⟨a.trans ?_, b.trans ?_⟩
      · rw [(hst j).1, if_neg (fun e => h8 (by rw [e]))]
      · rw [(hst j).2.1, if_neg h8]
end
theorem recOps_eq (m : Nat) : recOps m = ((List.range m).map fun i => 16 + 4 * i).flatMap zf := by
  unfold recOps; rw [List.flatMap_map]; rfl
theorem zeroOps_eq (a m : Nat) : zeroOps a m = ((List.range m).map fun i => a + i).flatMap zf := by
  unfold zeroOps; rw [List.flatMap_map]; rfl

/-- The words that a new heap's are told by. -/
structure AllS (s : St) (k : Kfg) : Prop where
  w0 : s.all 0 MAGIC
  w1 : s.all 1 k.L
  w2 : s.all 2 k.R
  w3 : s.all 3 k.S
  w8 : s.all 8 1
  recs : ∀ i, i < k.L → s.all (16 + 4 * i) 0
  zer : ∀ i, i < 2 + k.R → s.all (k.act + i) 0
theorem AllS.whole {s : St} {k : Kfg} (h : AllS s k) : WholeS s k := ⟨h.w0.1, h.w1.1, h.w2.1, h.w3.1, h.w8.1, fun i hi => (h.recs i hi).1, fun i hi => (h.zer i hi).1⟩

/-- Ahead of the magic. -/
structure MidS (s : St) (k : Kfg) : Prop where
  w0 : s.nw 0 = 0
  w1 : s.nw 1 = k.L
  w2 : s.nw 2 = k.R
  w3 : s.nw 3 = k.S
  w8 : s.nw 8 = 1 ∧ s.pd 8 = 1
  recs : ∀ i, i < k.L → s.nw (16 + 4 * i) = 0 ∧ s.pd (16 + 4 * i) = 0
  zer : ∀ i, i < 2 + k.R → s.nw (k.act + i) = 0 ∧ s.pd (k.act + i) = 0

theorem mid_of {s : St} {k : Kfg} (hk : k.Ok) (h : s.Is k.words) : MidS (s.run (fmt1 ++ cfgOps k ++ fmt2 ++ recOps k.L ++ zeroOps k.act (2 + k.R))) k := by
  obtain ⟨hw1, hw2⟩ := Kfg.words_le hk
  obtain ⟨ha1, ha2⟩ := k.act_le
  have ham := k.act_mod
  have h24 : 24 ≤ k.words := by have := hk.l0; have := hk.r0; omega
  -- the head
  obtain ⟨a, ha⟩ : ∃ a, a = s.run (fmt1 ++ cfgOps k ++ fmt2) := ⟨_, rfl⟩
  have hA : a.Is k.words := by rw [ha]; exact h.run _
  have e : a = ((((((((s.store 0 0).flush 0).fence).store 1 k.L).store 2 k.R).store 3 k.S).store 8 1).flush 8) := by rw [ha]; rfl
  have i1 := (h.store 0 0)
  have i2 := (i1.flush 0)
  have i3 := i2.fence
  have i4 := i3.store 1 k.L
  have i5 := i4.store 2 k.R
  have i6 := i5.store 3 k.S
  have i7 := i6.store 8 1
  have nwA : ∀ j, a.nw j = if j = 8 then (1 : Int) else if j = 3 then (k.S : Int) else if j = 2 then (k.R : Int) else if j = 1 then (k.L : Int) else if j = 0 then 0 else s.nw j := by
    intro j
    rw [e, St.nw_flush, St.nw_store i6 (by omega), St.nw_store i5 (by omega), St.nw_store i4 (by omega), St.nw_store i3 (by omega), St.nw_fence, St.nw_flush, St.nw_store h (by omega)]
  have pd8 : a.pd 8 = 1 := by
    rw [e, St.pd_flush, if_pos rfl, St.nw_store i6 (by omega)]; rfl
  -- the records
  have r := zf_run (n := k.words) ((List.range k.L).map fun i => 16 + 4 * i) hA (by
    intro p hp
    obtain ⟨i, hi, rfl⟩ := List.mem_map.1 hp
    have := List.mem_range.1 hi
    omega)
  rw [← recOps_eq] at r
  obtain ⟨r1, r2, r3, r4⟩ := r
  obtain ⟨b, hb⟩ : ∃ b, b = a.run (recOps k.L) := ⟨_, rfl⟩
  rw [← hb] at r1 r2 r3 r4
  have hB : b.Is k.words := by rw [hb]; exact hA.run _
  have z := zf_run (n := k.words) ((List.range (2 + k.R)).map fun i => k.act + i) hB (by
    intro p hp
    obtain ⟨i, hi, rfl⟩ := List.mem_map.1 hp
    have := List.mem_range.1 hi
    omega)
  rw [← zeroOps_eq] at z
  obtain ⟨z1, z2, z3, z4⟩ := z
  obtain ⟨c, hc⟩ : ∃ c, c = b.run (zeroOps k.act (2 + k.R)) := ⟨_, rfl⟩
  rw [← hc] at z1 z2 z3 z4
  have ec : s.run (fmt1 ++ cfgOps k ++ fmt2 ++ recOps k.L ++ zeroOps k.act (2 + k.R)) = c := by
    rw [St.run_append, St.run_append, hc, hb, ha]
  rw [ec]
  have low : ∀ j, j < 16 → c.nw j = a.nw j ∧ c.pd j = a.pd j := by
    intro j hj
    obtain ⟨x1, x2⟩ := z3 j (by
      intro p hp
      obtain ⟨i, hi, rfl⟩ := List.mem_map.1 hp
      omega)
    obtain ⟨y1, y2⟩ := r3 j (by
      intro p hp
      obtain ⟨i, hi, rfl⟩ := List.mem_map.1 hp
      omega)
    exact ⟨x1.trans y1, x2.trans y2⟩
  refine ⟨?_, ?_, ?_, ?_, ⟨?_, ?_⟩, ?_, ?_⟩
  · rw [(low 0 (by omega)).1, nwA]; rfl
  · rw [(low 1 (by omega)).1, nwA]; rfl
  · rw [(low 2 (by omega)).1, nwA]; rfl
  · rw [(low 3 (by omega)).1, nwA]; rfl
  · rw [(low 8 (by omega)).1, nwA]; rfl
  · rw [(low 8 (by omega)).2]; exact pd8
  · intro i hi
    obtain ⟨x1, x2⟩ := r2 (16 + 4 * i) (List.mem_map.2 ⟨i, List.mem_range.2 hi, rfl⟩)
    exact z1 _ x1 x2
  · intro i hi
    exact z2 (k.act + i) (List.mem_map.2 ⟨i, List.mem_range.2 hi, rfl⟩)

/-- Formatted: all of a new heap's words are kept. -/
theorem all_of {s : St} {k : Kfg} (hk : k.Ok) (h : s.Is k.words) : AllS (s.run (fmtOps k)) k := by
  obtain ⟨hw1, hw2⟩ := Kfg.words_le hk
  obtain ⟨ha1, ha2⟩ := k.act_le
  have ham := k.act_mod
  have h24 : 24 ≤ k.words := by have := hk.l0; have := hk.r0; omega
  have hm := mid_of hk h
  have hI : (s.run (fmt1 ++ cfgOps k ++ fmt2 ++ recOps k.L ++ zeroOps k.act (2 + k.R))).Is k.words := h.run _
  have e : s.run (fmtOps k) = (s.run (fmt1 ++ cfgOps k ++ fmt2 ++ recOps k.L ++ zeroOps k.act (2 + k.R))).run fmt3 := by unfold fmtOps; rw [St.run_append]
  rw [e]
  generalize s.run (fmt1 ++ cfgOps k ++ fmt2 ++ recOps k.L ++ zeroOps k.act (2 + k.R)) = m at *
  obtain ⟨f, hf⟩ : ∃ f, f = m.run fmt3 := ⟨_, rfl⟩
  have ef : f = ((((m.flush 0).fence).store 0 MAGIC).flush 0).fence := by rw [hf]; rfl
  rw [← hf]
  have i1 := hI.flush 0
  have i2 := i1.fence
  have i3 := i2.store 0 MAGIC
  have i4 := i3.flush 0
  have hn : ∀ j, f.nw j = if j = 0 then MAGIC else m.nw j := by
    intro j
    rw [ef, St.nw_fence, St.nw_flush, St.nw_store i2 (by omega), St.nw_fence, St.nw_flush]
  have hpd : ∀ j, j < k.words → f.pd j = if j / 8 = 0 then (if j = 0 then MAGIC else m.nw j) else m.pd j := by
    intro j hj
    rw [ef, St.pd_fence i4 hj, St.pd_flush, St.nw_store i2 (by omega), St.pd_store, St.pd_fence i1 hj, St.pd_flush, St.nw_fence, St.nw_flush]
    by_cases h8 : j / 8 = 0 <;> simp [h8]
  have hkp : ∀ j, j < k.words → f.kp j = f.pd j := by
    intro j hj
    rw [ef, St.kp_fence i4 hj, St.pd_fence i4 hj]
  have all : ∀ j v, j < k.words → f.nw j = v → f.pd j = v → f.all j v := fun j v hj a b => ⟨a, b, (hkp j hj).trans b⟩
  refine ⟨?_, ?_, ?_, ?_, ?_, ?_, ?_⟩
  · exact all _ _ (by omega) (by rw [hn]; rfl) (by rw [hpd _ (by omega)]; rfl)
  · exact all _ _ (by omega) (by rw [hn]; exact hm.w1) (by rw [hpd _ (by omega)]; exact hm.w1)
  · exact all _ _ (by omega) (by rw [hn]; exact hm.w2) (by rw [hpd _ (by omega)]; exact hm.w2)
  · exact all _ _ (by omega) (by rw [hn]; exact hm.w3) (by rw [hpd _ (by omega)]; exact hm.w3)
  · exact all _ _ (by omega) (by rw [hn]; exact hm.w8.1) (by rw [hpd _ (by omega)]; exact hm.w8.2)
  · intro i hi
    obtain ⟨a, b⟩ := hm.recs i hi
    exact all _ _ (by omega) (by rw [hn, if_neg (by omega)]; exact a) (by rw [hpd _ (by omega), if_neg (by omega)]; exact b)
  · intro i hi
    obtain ⟨a, b⟩ := hm.zer i hi
    exact all _ _ (by omega) (by rw [hn, if_neg (by omega)]; exact a) (by rw [hpd _ (by omega), if_neg (by omega)]; exact b)
/-- .. behind any crash. -/
theorem AllS.crash {s : St} {k : Kfg} (hk : k.Ok) (hI : s.Is k.words) (h : AllS s k) (ch : Nat → Int) : AllS (s.crash ch) k := by
  obtain ⟨hw1, hw2⟩ := Kfg.words_le hk
  obtain ⟨ha1, ha2⟩ := k.act_le
  have h24 : 24 ≤ k.words := by have := hk.l0; have := hk.r0; omega
  have one : ∀ j v, j < k.words → s.all j v → (s.crash ch).all j v := fun j v hj ha => ha.left ch ▸ St.all_crash hI ch hj
  exact ⟨one _ _ (by omega) h.w0, one _ _ (by omega) h.w1, one _ _ (by omega) h.w2, one _ _ (by omega) h.w3, one _ _ (by omega) h.w8, fun i hi => one _ _ (by omega) (h.recs i hi), fun i hi => one _ _ (by omega) (h.zer i hi)⟩
theorem fresh_fill (old : List Int) (k : Kfg) : (St.fresh (-1) 0 (fill old k.words)).Is k.words := by
  have hl : (fill old k.words).length = k.words := fillTo_length _ _ _
  have := fresh_is (-1) 0 (fill old k.words)
  rwa [pad_of (by rw [hl]; exact k.words_mod), hl] at this
/-- A heap reads as its config. -/
theorem AllS.reads {s : St} {k : Kfg} (hk : k.Ok) (h : WholeS s k) (hI : s.Is k.words) : Reads (s.nw 0) (s.nw 1) (s.nw 2) (s.nw 3) s.now.length k.L k.R k.S 0 := by
  have e1 := h.w1
  have e2 := h.w2
  have e3 := h.w3
  have b1 := hk.l1
  have b2 := hk.r1
  have b3 := hk.s1
  rw [h.w0, e1, e2, e3, hI.now]
  exact ⟨fun h => absurd rfl h, fun _ h => by omega, fun _ _ _ _ h => absurd ⟨hk, rfl⟩ h, fun _ _ _ _ _ => ⟨rfl, rfl, rfl, rfl⟩⟩
end Go.Proofs.Ytbdomdmnjclpdaa
