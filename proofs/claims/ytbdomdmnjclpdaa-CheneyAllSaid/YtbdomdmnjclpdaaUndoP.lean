/-
  Records and what Undo does, word by word: plain laws.
-/
import Derived.Test.YtbdomdmnjclpdaaUndo
set_option linter.unusedSimpArgs false
set_option linter.unusedVariables false
set_option maxRecDepth 100000
namespace Go.Proofs.Ytbdomdmnjclpdaa
open Go.RowKit Go.Shelf

section
variable {s : St} {N j : Nat} {x : Int}
theorem St.all_op (hI : s.Is N) (hj : j < N) (h : s.all j x) (o : Dop) (ho : ∀ v, o ≠ .st j v) (hb : ∀ q v, o = .st q v → q < N) : (s.op o).all j x := by
  obtain ⟨h1, h2, h3⟩ := h
  cases o with
  | st q v =>
    have hq := hb q v rfl
    have hne : j ≠ q := fun e => ho v (by rw [e])
    exact ⟨by show (s.store q v).nw j = x; rw [St.nw_store hI hq, if_neg hne]; exact h1, h2, h3⟩
  | fl q =>
    refine ⟨h1, ?_, h3⟩
    show (s.flush q).pd j = x
    rw [St.pd_flush]
    split
    · exact h1
    · exact h2
  | fe => exact ⟨h1, by show s.fence.pd j = x; rw [St.pd_fence hI hj]; exact h2, by show s.fence.kp j = x; rw [St.kp_fence hI hj]; exact h2⟩
theorem St.all_run (hj : j < N) : ∀ (l : List Dop) {s : St}, s.Is N → s.all j x → (∀ o ∈ l, ∀ q v, o = .st q v → q < N ∧ q ≠ j) → (s.run l).all j x
  | [], _, _, h, _ => h
  | o :: l, s, hI, h, ho => by
    rw [St.run_cons]
    refine St.all_run hj l (hI.op o) (St.all_op hI hj h o (fun v e => (ho o (by simp) j v e).2 rfl) (fun q v e => (ho o (by simp) q v e).1)) fun o' ho' => ho o' (by simp [ho'])
end

/-- A log of epoch 1 with n records, of words p, that were v. -/
structure P1 (s : St) (k : Kfg) (orig : Nat → Int) (n : Nat) (p : Nat → Nat) (v : Nat → Int) : Prop where
  le : n ≤ k.L
  epo : s.all 8 1
  st : ∀ i, i < n → s.all (16 + 4 * i) (stampOf 1 i)
  pl : ∀ i, i < n → s.all (16 + 4 * i + 1) (p i)
  vl : ∀ i, i < n → s.all (16 + 4 * i + 2) (v i)
  no : ∀ i, n ≤ i → i < k.L → s.all (16 + 4 * i) 0
  rng : ∀ i, i < n → k.act ≤ p i ∧ p i < k.words
  same : ∀ j, k.act ≤ j → j < k.words → (∀ i, i < n → p i ≠ j) → s.all j (orig j)
  first : ∀ i, i < n → (∀ i', i' < i → p i' ≠ p i) → v i = orig (p i)
/-- A log of epoch 2 without records; all is as it was. -/
structure P2 (s : St) (k : Kfg) (orig : Nat → Int) : Prop where
  epo : s.all 8 2
  no : ∀ i, i < k.L → ∃ x, x ≠ stampOf 2 i ∧ s.all (16 + 4 * i) x
  same : ∀ j, k.act ≤ j → j < k.words → s.all j (orig j)

/-- A word that may be stored. -/
def Free (k : Kfg) (n : Nat) (p : Nat → Nat) (q : Nat) : Prop :=
  q < k.words ∧ q ≠ 8 ∧ (∀ i, i < k.L → q ≠ 16 + 4 * i) ∧ (∀ i, i < n → q ≠ 16 + 4 * i + 1 ∧ q ≠ 16 + 4 * i + 2) ∧ (k.act ≤ q → ∃ i, i < n ∧ p i = q)
section
variable {s : St} {k : Kfg} {orig : Nat → Int} {n : Nat} {p : Nat → Nat} {v : Nat → Int}
theorem P1.log (h : P1 s k orig n p v) : LogIs s k 1 n :=
  ⟨h.le, by rw [h.epo.1]; rfl, fun i hi => (h.st i hi).1, fun hn => by rw [(h.no n (Nat.le_refl _) hn).1]; unfold stampOf; omega⟩
theorem P2.log (h : P2 s k orig) : LogIs s k 2 0 :=
  ⟨by omega, by rw [h.epo.1]; rfl, fun i hi => by omega, fun hn => by
    obtain ⟨x, hx, ha⟩ := h.no 0 hn
    rw [ha.1]; exact hx⟩
theorem P1.undo_pre (h : P1 s k orig n p v) : ∀ i, i < n → k.act ≤ p i ∧ p i < k.words ∧ s.nw (16 + 4 * i + 1) = p i ∧ s.nw (16 + 4 * i + 2) = v i :=
  fun i hi => ⟨(h.rng i hi).1, (h.rng i hi).2, (h.pl i hi).1, (h.vl i hi).1⟩

/-- All that is asked of a word is asked of it alone. -/
theorem P1.of_all (hk : k.Ok) (h : P1 s k orig n p v) {t : St} (ha : ∀ j x, j < k.words → s.all j x → (j = 8 ∨ (∃ i, i < k.L ∧ j = 16 + 4 * i) ∨ (∃ i, i < n ∧ (j = 16 + 4 * i + 1 ∨ j = 16 + 4 * i + 2)) ∨ (k.act ≤ j ∧ ∀ i, i < n → p i ≠ j)) → t.all j x) : P1 t k orig n p v := by
  have hw := Kfg.words_le hk
  have hac := k.act_le
  have hle := h.le
  refine ⟨h.le, ?_, fun i hi => ?_, fun i hi => ?_, fun i hi => ?_, fun i hi hl => ?_, h.rng, fun j hj hjw hu => ?_, h.first⟩
  · exact ha _ _ (by omega) h.epo (.inl rfl)
  · exact ha _ _ (by omega) (h.st i hi) (.inr (.inl ⟨i, by omega, rfl⟩))
  · exact ha _ _ (by omega) (h.pl i hi) (.inr (.inr (.inl ⟨i, hi, .inl rfl⟩)))
  · exact ha _ _ (by omega) (h.vl i hi) (.inr (.inr (.inl ⟨i, hi, .inr rfl⟩)))
  · exact ha _ _ (by omega) (h.no i hi hl) (.inr (.inl ⟨i, hl, rfl⟩))
  · exact ha _ _ hjw (h.same j hj hjw hu) (.inr (.inr (.inr ⟨hj, hu⟩)))
theorem P1.run (hk : k.Ok) (hI : s.Is k.words) (h : P1 s k orig n p v) (l : List Dop) (hl : ∀ o ∈ l, ∀ q x, o = .st q x → Free k n p q) : P1 (s.run l) k orig n p v := by
  refine h.of_all hk fun j x hj ha hc => St.all_run hj l hI ha fun o ho q v e => ?_
  obtain ⟨f1, f2, f3, f4, f5⟩ := hl o ho q v e
  refine ⟨f1, fun hqj => ?_⟩
  subst hqj
  rcases hc with rfl | ⟨i, hi, rfl⟩ | ⟨i, hi, rfl | rfl⟩ | ⟨h1, h2⟩
  · exact f2 rfl
  · exact f3 i hi rfl
  · exact (f4 i hi).1 rfl
  · exact (f4 i hi).2 rfl
  · obtain ⟨i, hi, e⟩ := f5 h1
    exact h2 i hi e
theorem P1.crash (hk : k.Ok) (hI : s.Is k.words) (h : P1 s k orig n p v) (ch : Nat → Int) : P1 (s.crash ch) k orig n p v :=
  h.of_all hk fun j x hj ha _ => ha.left ch ▸ St.all_crash hI ch hj
theorem P2.crash (hk : k.Ok) (hI : s.Is k.words) (h : P2 s k orig) (ch : Nat → Int) : P2 (s.crash ch) k orig := by
  have hw := Kfg.words_le hk
  have hac := k.act_le
  have one : ∀ j x, j < k.words → s.all j x → (s.crash ch).all j x := fun j x hj ha => ha.left ch ▸ St.all_crash hI ch hj
  refine ⟨one _ _ (by omega) h.epo, fun i hi => ?_, fun j hj hjw => one _ _ hjw (h.same j hj hjw)⟩
  obtain ⟨x, hx, ha⟩ := h.no i hi
  exact ⟨x, hx, one _ _ (by omega) ha⟩
theorem P1.store (hk : k.Ok) (hI : s.Is k.words) (h : P1 s k orig n p v) {i : Nat} (hi : i < n) (x : Int) : P1 (s.store (p i) x) k orig n p v := by
  have hac := k.act_le
  have hle := h.le
  obtain ⟨r1, r2⟩ := h.rng i hi
  refine h.run hk hI [.st (p i) x] fun o ho q y e => ?_
  simp at ho
  subst ho
  injection e with e1 e2
  subst e1
  exact ⟨r2, by omega, fun j hj => by omega, fun j hj => by omega, fun _ => ⟨i, hi, rfl⟩⟩
end

/-- One more. -/
def upd {α : Type} (f : Nat → α) (n : Nat) (x : α) : Nat → α := fun i => if i = n then x else f i
section
variable {s : St} {k : Kfg} {orig : Nat → Int} {n i : Nat} {p : Nat → Nat} {v : Nat → Int} {x : Int}
def app4 (n i : Nat) (x : Int) : List Dop := [.st (16 + 4 * n + 1) i, .st (16 + 4 * n + 2) x, .fl (16 + 4 * n), .fe]
def app3 (n : Nat) : List Dop := [.st (16 + 4 * n) (stampOf 1 n), .fl (16 + 4 * n), .fe]
theorem app_split (n i : Nat) (x : Int) : appOps 1 n i x = app4 n i x ++ app3 n := rfl
theorem free_of (hk : k.Ok) (h : P1 s k orig n p v) (hn : n < k.L) : Free k n p (16 + 4 * n + 1) ∧ Free k n p (16 + 4 * n + 2) := by
  have hw := Kfg.words_le hk
  have hac := k.act_le
  exact ⟨⟨by omega, by omega, fun j hj => by omega, fun j hj => by omega, fun hc => by omega⟩, ⟨by omega, by omega, fun j hj => by omega, fun j hj => by omega, fun hc => by omega⟩⟩
theorem P1.app4_pre (hk : k.Ok) (hI : s.Is k.words) (h : P1 s k orig n p v) (hn : n < k.L) (l : List Dop) (hl : l <+: app4 n i x) : P1 (s.run l) k orig n p v := by
  obtain ⟨f1, f2⟩ := free_of hk h hn
  refine h.run hk hI l fun o ho q y e => ?_
  have hm := hl.subset ho
  simp [app4] at hm
  rcases hm with rfl | rfl | rfl | rfl <;> cases e
  · exact f1
  · exact f2
theorem app4_all (hk : k.Ok) (hI : s.Is k.words) (hn : n < k.L) : (s.run (app4 n i x)).all (16 + 4 * n + 1) i ∧ (s.run (app4 n i x)).all (16 + 4 * n + 2) x := by
  have hw := Kfg.words_le hk
  have hac := k.act_le
  have i1 := hI.store (16 + 4 * n + 1) (i : Int)
  have i2 := i1.store (16 + 4 * n + 2) x
  have i3 := i2.flush (16 + 4 * n)
  have e : s.run (app4 n i x) = (((s.store (16 + 4 * n + 1) i).store (16 + 4 * n + 2) x).flush (16 + 4 * n)).fence := rfl
  rw [e]
  have nwj : ∀ j, (((s.store (16 + 4 * n + 1) i).store (16 + 4 * n + 2) x).flush (16 + 4 * n)).nw j = if j = 16 + 4 * n + 2 then x else if j = 16 + 4 * n + 1 then i else s.nw j := fun j => by
    rw [St.nw_flush, St.nw_store i1 (by omega), St.nw_store hI (by omega)]
  have pdj : ∀ j, j / 8 = (16 + 4 * n) / 8 → (((s.store (16 + 4 * n + 1) i).store (16 + 4 * n + 2) x).flush (16 + 4 * n)).pd j = if j = 16 + 4 * n + 2 then x else if j = 16 + 4 * n + 1 then i else s.nw j := fun j hj => by
    rw [St.pd_flush, if_pos hj, St.nw_store i1 (by omega), St.nw_store hI (by omega)]
  refine ⟨⟨?_, ?_, ?_⟩, ⟨?_, ?_, ?_⟩⟩
  · rw [St.nw_fence, nwj, if_neg (by omega), if_pos rfl]
  · rw [St.pd_fence i3 (by omega), pdj _ (by omega), if_neg (by omega), if_pos rfl]
  · rw [St.kp_fence i3 (by omega), pdj _ (by omega), if_neg (by omega), if_pos rfl]
  · rw [St.nw_fence, nwj, if_pos rfl]
  · rw [St.pd_fence i3 (by omega), pdj _ (by omega), if_pos rfl]
  · rw [St.kp_fence i3 (by omega), pdj _ (by omega), if_pos rfl]
/-- The record is there as soon as its stamp is. -/
theorem P1.more (hk : k.Ok) (h : P1 s k orig n p v) (hn : n < k.L) (hi : k.act ≤ i ∧ i < k.words) (ha1 : s.all (16 + 4 * n + 1) i) (ha2 : s.all (16 + 4 * n + 2) x) (hx : (∀ j, j < n → p j ≠ i) → x = orig i)
    {t : St} (ht : ∀ j y, j < k.words → j ≠ 16 + 4 * n → s.all j y → t.all j y) (hs : t.all (16 + 4 * n) (stampOf 1 n)) : P1 t k orig (n + 1) (upd p n i) (upd v n x) := by
  have hw := Kfg.words_le hk
  have hac := k.act_le
  have up : ∀ j, j < n → upd p n i j = p j ∧ upd v n x j = v j := fun j hj => ⟨if_neg (by omega), if_neg (by omega)⟩
  have un : upd p n i n = i ∧ upd v n x n = x := ⟨if_pos rfl, if_pos rfl⟩
  have cas : ∀ {P : Nat → Prop}, (∀ j, j < n → P j) → P n → ∀ j, j < n + 1 → P j := fun h1 h2 j hj => by
    rcases Nat.lt_or_ge j n with h | h
    · exact h1 j h
    · obtain rfl : j = n := by omega
      exact h2
  refine ⟨by omega, ht _ _ (by omega) (by omega) h.epo, cas (fun j hj => ht _ _ (by omega) (by omega) (h.st j hj)) hs, cas (fun j hj => ?_) ?_, cas (fun j hj => ?_) ?_, fun j hj hl => ht _ _ (by omega) (by omega) (h.no j (by omega) hl), cas (fun j hj => ?_) ?_, fun j hj hjw hu => ?_, cas (fun j hj hf => ?_) (fun hf => ?_)⟩
  · rw [(up j hj).1]; exact ht _ _ (by omega) (by omega) (h.pl j hj)
  · rw [un.1]; exact ht _ _ (by omega) (by omega) ha1
  · rw [(up j hj).2]; exact ht _ _ (by omega) (by omega) (h.vl j hj)
  · rw [un.2]; exact ht _ _ (by omega) (by omega) ha2
  · rw [(up j hj).1]; exact h.rng j hj
  · rw [un.1]; exact hi
  · exact ht _ _ hjw (by omega) (h.same j hj hjw fun q hq => by have := hu q (by omega); rwa [(up q hq).1] at this)
  · rw [(up j hj).1, (up j hj).2]
    exact h.first j hj fun q hq => by have := hf q hq; rwa [(up q (by omega)).1, (up j hj).1] at this
  · rw [un.1, un.2]
    exact hx fun q hq => by have := hf q hq; rwa [(up q hq).1, un.1] at this
theorem P1.val (h : P1 s k orig n p v) (hi : k.act ≤ i ∧ i < k.words) (hx : s.nw i = x) : (∀ j, j < n → p j ≠ i) → x = orig i := fun hu => by
  rw [← hx]; exact (h.same i hi.1 hi.2 hu).1
theorem P1.app (hk : k.Ok) (hI : s.Is k.words) (h : P1 s k orig n p v) (hn : n < k.L) (hi : k.act ≤ i ∧ i < k.words) (hx : s.nw i = x) : P1 (s.run (appOps 1 n i x)) k orig (n + 1) (upd p n i) (upd v n x) := by
  have hw := Kfg.words_le hk
  have hac := k.act_le
  rw [app_split, St.run_append]
  have h4 := h.app4_pre (x := x) (i := i) hk hI hn _ List.prefix_rfl
  obtain ⟨a1, a2⟩ := app4_all (x := x) (i := i) hk hI hn
  have I4 : (s.run (app4 n i x)).Is k.words := hI.run _
  generalize s.run (app4 n i x) = t at *
  refine h4.more hk hn hi a1 a2 (h.val hi hx) (fun j y hj hne ha => St.all_run hj _ I4 ha fun o ho q z e => ?_) ?_
  · simp [app3] at ho
    rcases ho with rfl | rfl | rfl <;> cases e
    exact ⟨by omega, by omega⟩
  · have i1 := I4.store (16 + 4 * n) (stampOf 1 n)
    have i2 := i1.flush (16 + 4 * n)
    have e : t.run (app3 n) = ((t.store (16 + 4 * n) (stampOf 1 n)).flush (16 + 4 * n)).fence := rfl
    rw [e]
    have hnw : (t.store (16 + 4 * n) (stampOf 1 n)).nw (16 + 4 * n) = stampOf 1 n := by rw [St.nw_store I4 (by omega), if_pos rfl]
    have hpd : ((t.store (16 + 4 * n) (stampOf 1 n)).flush (16 + 4 * n)).pd (16 + 4 * n) = stampOf 1 n := by rw [St.pd_flush, if_pos rfl]; exact hnw
    exact ⟨hnw, by rw [St.pd_fence i2 (by omega)]; exact hpd, by rw [St.kp_fence i2 (by omega)]; exact hpd⟩
/-- Cut anywhere, and left anyhow. -/
theorem P1.app_cut (hk : k.Ok) (hI : s.Is k.words) (h : P1 s k orig n p v) (hn : n < k.L) (hi : k.act ≤ i ∧ i < k.words) (hx : s.nw i = x) (m : Nat) (ch : Nat → Int) :
    P1 ((s.run ((appOps 1 n i x).take m)).crash ch) k orig n p v ∨ P1 ((s.run ((appOps 1 n i x).take m)).crash ch) k orig (n + 1) (upd p n i) (upd v n x) := by
  have hw := Kfg.words_le hk
  have hac := k.act_le
  rcases Nat.lt_or_ge 4 m with hm | hm
  · have e : (appOps 1 n i x).take m = app4 n i x ++ (app3 n).take (m - 4) := by
      rw [app_split, List.take_append, List.take_of_length_le (by show 4 ≤ m; omega)]; rfl
    rw [e, St.run_append]
    have h4 := h.app4_pre (x := x) (i := i) hk hI hn _ List.prefix_rfl
    obtain ⟨a1, a2⟩ := app4_all (x := x) (i := i) hk hI hn
    have I4 : (s.run (app4 n i x)).Is k.words := hI.run _
    generalize s.run (app4 n i x) = t at *
    have I5 : (t.run ((app3 n).take (m - 4))).Is k.words := I4.run _
    have keep : ∀ j y, j < k.words → j ≠ 16 + 4 * n → t.all j y → ((t.run ((app3 n).take (m - 4))).crash ch).all j y := fun j y hj hne ha => by
      have hr := St.all_run hj ((app3 n).take (m - 4)) I4 ha fun o ho q z e => by
        have ho := List.mem_of_mem_take ho
        simp [app3] at ho
        rcases ho with rfl | rfl | rfl <;> cases e
        exact ⟨by omega, by omega⟩
      exact hr.left ch ▸ St.all_crash I5 ch hj
    have h0 := h4.no n (Nat.le_refl _) hn
    have vals : ∀ l : List Dop, l <+: app3 n → ∀ y, (y = (t.run l).nw (16 + 4 * n) ∨ y = (t.run l).pd (16 + 4 * n) ∨ y = (t.run l).kp (16 + 4 * n)) → y = 0 ∨ y = stampOf 1 n := by
      have i1 := I4.store (16 + 4 * n) (stampOf 1 n)
      have i2 := i1.flush (16 + 4 * n)
      have n1 : (t.store (16 + 4 * n) (stampOf 1 n)).nw (16 + 4 * n) = stampOf 1 n := by rw [St.nw_store I4 (by omega), if_pos rfl]
      have p2 : ((t.store (16 + 4 * n) (stampOf 1 n)).flush (16 + 4 * n)).pd (16 + 4 * n) = stampOf 1 n := by rw [St.pd_flush, if_pos rfl]; exact n1
      intro l hl y hy
      have hlen := hl.length_le
      have he := List.prefix_iff_eq_take.1 hl
      rw [he] at hy
      have h3 : l.length ≤ 3 := hlen
      generalize l.length = q at *
      match q, h3 with
      | 0, _ => rcases hy with rfl | rfl | rfl <;> first | exact .inl h0.1 | exact .inl h0.2.1 | exact .inl h0.2.2
      | 1, _ => rcases hy with rfl | rfl | rfl <;> first | exact .inr n1 | exact .inl h0.2.1 | exact .inl h0.2.2
      | 2, _ => rcases hy with rfl | rfl | rfl <;> first | exact .inr n1 | exact .inr p2 | exact .inl h0.2.2
      | 3, _ =>
        rcases hy with rfl | rfl | rfl
        · exact .inr n1
        · exact .inr (by show (((t.store (16 + 4 * n) (stampOf 1 n)).flush (16 + 4 * n)).fence).pd _ = _; rw [St.pd_fence i2 (by omega)]; exact p2)
        · exact .inr (by show (((t.store (16 + 4 * n) (stampOf 1 n)).flush (16 + 4 * n)).fence).kp _ = _; rw [St.kp_fence i2 (by omega)]; exact p2)
    have hleft := St.all_crash I5 ch (show 16 + 4 * n < k.words by omega)
    have hv : left (t.run ((app3 n).take (m - 4))) ch (16 + 4 * n) = 0 ∨ left (t.run ((app3 n).take (m - 4))) ch (16 + 4 * n) = stampOf 1 n := by
      refine vals ((app3 n).take (m - 4)) (List.take_prefix _ _) _ ?_
      rcases left_of (t.run ((app3 n).take (m - 4))) ch (16 + 4 * n) with e | e | e
      · exact .inr (.inl e)
      · exact .inl e
      · exact .inr (.inr e)
    rcases hv with e | e
    · rw [e] at hleft
      refine .inl (h4.of_all hk fun j y hj ha _ => ?_)
      by_cases hjn : j = 16 + 4 * n
      · subst hjn
        have := ha.1.symm.trans h0.1
        subst this
        exact hleft
      · exact keep j y hj hjn ha
    · rw [e] at hleft
      exact .inr (h4.more hk hn hi a1 a2 (h.val hi hx) keep hleft)
  · have e : (appOps 1 n i x).take m = (app4 n i x).take m := by
      rw [app_split, List.take_append, Nat.sub_eq_zero_of_le (by show m ≤ 4; omega)]; simp
    rw [e]
    exact .inl ((h.app4_pre (x := x) (i := i) hk hI hn ((app4 n i x).take m) (List.take_prefix _ _)).crash hk (hI.run _) ch)
end

section
variable {s : St} {k : Kfg} {orig : Nat → Int} {n : Nat} {p : Nat → Nat} {v : Nat → Int}
/-- What was stored back: by the first record of each word. -/
theorem back_first (hI : s.Is k.words) (hp : ∀ i, i < n → p i < k.words) : ∀ m, m ≤ n → ∀ i, n - m ≤ i → i < n → (∀ i', n - m ≤ i' → i' < i → p i' ≠ p i) →
    (s.run (backOps p v n m)).nw (p i) = v i ∧ (s.run (backOps p v n m)).pd (p i) = v i
  | 0, _, i, h1, h2, _ => by omega
  | m + 1, hm, i, h1, h2, hf => by
    have hq := hp (n - 1 - m) (by omega)
    have I1 : (s.run (backOps p v n m)).Is k.words := hI.run _
    have e : s.run (backOps p v n (m + 1)) = ((s.run (backOps p v n m)).store (p (n - 1 - m)) (v (n - 1 - m))).flush (p (n - 1 - m)) := by
      show s.run (backOps p v n m ++ _) = _
      rw [St.run_append]; rfl
    have ih := fun a b => back_first hI hp m (by omega) i a h2 b
    rw [e]
    generalize s.run (backOps p v n m) = t at *
    rw [St.nw_flush, St.pd_flush, St.nw_store I1 hq]
    by_cases hi : i = n - 1 - m
    · subst hi
      simp
    · have hne := hf (n - 1 - m) (by omega) (by omega)
      obtain ⟨a, b⟩ := ih (by omega) fun i' h3 h4 => hf i' (by omega) h4
      rw [if_neg (Ne.symm hne)]
      refine ⟨a, ?_⟩
      split
      · exact a
      · exact b
theorem first_ex {j : Nat} (h : ∃ i, i < n ∧ p i = j) : ∃ i, i < n ∧ p i = j ∧ ∀ i', i' < i → p i' ≠ j := by
  have : ∀ m, m ≤ n → (∃ i, i < m ∧ p i = j) → ∃ i, i < m ∧ p i = j ∧ ∀ i', i' < i → p i' ≠ j := by
    intro m
    induction m with
    | zero => rintro _ ⟨i, hi, _⟩; omega
    | succ m ih =>
      rintro hm ⟨i, hi, he⟩
      by_cases hex : ∃ i, i < m ∧ p i = j
      · obtain ⟨i', h1, h2, h3⟩ := ih (by omega) hex
        exact ⟨i', by omega, h2, h3⟩
      · exact ⟨i, hi, he, fun i' hi' e => hex ⟨i', by omega, e⟩⟩
  exact this n (Nat.le_refl _) h
theorem back_ok (h : P1 s k orig n p v) : ∀ m, m ≤ n → ∀ o ∈ backOps p v n m, ∀ q x, o = .st q x → Free k n p q
  | 0, _, o, ho, _, _, _ => by simp [backOps] at ho
  | m + 1, hm, o, ho, q, x, e => by
    simp only [backOps] at ho
    rcases List.mem_append.1 ho with ho | ho
    · exact back_ok h m (by omega) o ho q x e
    · have hac := k.act_le
      have hle := h.le
      obtain ⟨r1, r2⟩ := h.rng (n - 1 - m) (by omega)
      simp at ho
      rcases ho with rfl | rfl <;> cases e
      exact ⟨r2, by omega, fun j hj => by omega, fun j hj => by omega, fun _ => ⟨_, by omega, rfl⟩⟩
theorem P1.back_fe (hk : k.Ok) (hI : s.Is k.words) (h : P1 s k orig n p v) : P1 (s.run (backOps p v n n ++ [.fe])) k orig n p v ∧ ∀ j, k.act ≤ j → j < k.words → (s.run (backOps p v n n ++ [.fe])).all j (orig j) := by
  have h1 := h.run hk hI (backOps p v n n ++ [.fe]) fun o ho q x e => by
    rcases List.mem_append.1 ho with ho | ho
    · exact back_ok h n (Nat.le_refl _) o ho q x e
    · simp at ho; subst ho; cases e
  refine ⟨h1, fun j hj hjw => ?_⟩
  by_cases hu : ∀ i, i < n → p i ≠ j
  · exact h1.same j hj hjw hu
  · have hex : ∃ i, i < n ∧ p i = j := by
      rcases Classical.em (∃ i, i < n ∧ p i = j) with h | h
      · exact h
      · exact absurd (fun i hi e => h ⟨i, hi, e⟩) hu
    obtain ⟨i, hi, rfl, hf⟩ := first_ex hex
    have hv := h.first i hi hf
    have hb := back_first (v := v) hI (fun i hi => (h.rng i hi).2) n (Nat.le_refl _) i (by omega) hi (fun i' _ h => hf i' h)
    have I1 : (s.run (backOps p v n n)).Is k.words := hI.run _
    rw [St.run_append]
    generalize s.run (backOps p v n n) = t at *
    rw [hv] at hb
    exact ⟨hb.1, by show t.fence.pd _ = _; rw [St.pd_fence I1 hjw]; exact hb.2, by show t.fence.kp _ = _; rw [St.kp_fence I1 hjw]; exact hb.2⟩
theorem trunc_all {t : St} (hk : k.Ok) (hI : t.Is k.words) (l : List Dop) (hl : l <+: truncOps 1) {j : Nat} {y : Int} (hj : j < k.words) (hne : j ≠ 8) (ha : t.all j y) : (t.run l).all j y := by
  have hw := Kfg.words_le hk
  have hac := k.act_le
  refine St.all_run hj l hI ha fun o ho q z e => ?_
  have hm := hl.subset ho
  simp [truncOps] at hm
  rcases hm with rfl | rfl | rfl <;> cases e
  exact ⟨by omega, by omega⟩
theorem trunc_vals {t : St} (hk : k.Ok) (hI : t.Is k.words) (h8 : t.all 8 1) (l : List Dop) (hl : l <+: truncOps 1) : (∀ y, (y = (t.run l).nw 8 ∨ y = (t.run l).pd 8 ∨ y = (t.run l).kp 8) → y = 1 ∨ y = 2) ∧ (l.length = 3 → (t.run l).all 8 2) := by
  have hw := Kfg.words_le hk
  have hac := k.act_le
  have i1 := hI.store 8 2
  have i2 := i1.flush 8
  have n1 : (t.store 8 2).nw 8 = 2 := by rw [St.nw_store hI (by omega), if_pos rfl]
  have p2 : ((t.store 8 2).flush 8).pd 8 = 2 := by rw [St.pd_flush, if_pos rfl]; exact n1
  have p3 : (((t.store 8 2).flush 8).fence).pd 8 = 2 := by rw [St.pd_fence i2 (by omega)]; exact p2
  have k3 : (((t.store 8 2).flush 8).fence).kp 8 = 2 := by rw [St.kp_fence i2 (by omega)]; exact p2
  have hlen : l.length ≤ 3 := hl.length_le
  have he := List.prefix_iff_eq_take.1 hl
  rw [he]
  simp only [List.length_take]
  generalize l.length = q at *
  match q, hlen with
  | 0, _ => exact ⟨fun y hy => by rcases hy with rfl | rfl | rfl <;> first | exact .inl h8.1 | exact .inl h8.2.1 | exact .inl h8.2.2, fun h => by simp at h⟩
  | 1, _ => exact ⟨fun y hy => by rcases hy with rfl | rfl | rfl <;> first | exact .inr n1 | exact .inl h8.2.1 | exact .inl h8.2.2, fun h => by simp [truncOps] at h⟩
  | 2, _ => exact ⟨fun y hy => by rcases hy with rfl | rfl | rfl <;> first | exact .inr n1 | exact .inr p2 | exact .inl h8.2.2, fun h => by simp [truncOps] at h⟩
  | 3, _ => exact ⟨fun y hy => by rcases hy with rfl | rfl | rfl <;> first | exact .inr n1 | exact .inr p3 | exact .inr k3, fun _ => ⟨n1, p3, k3⟩⟩
theorem P2.of {t u : St} (hk : k.Ok) (h : P1 t k orig n p v) (hs : ∀ j, k.act ≤ j → j < k.words → t.all j (orig j)) (keep : ∀ j y, j < k.words → j ≠ 8 → t.all j y → u.all j y) (h8 : u.all 8 2) : P2 u k orig := by
  have hw := Kfg.words_le hk
  have hac := k.act_le
  refine ⟨h8, fun i hi => ?_, fun j hj hjw => keep _ _ hjw (by omega) (hs j hj hjw)⟩
  rcases Nat.lt_or_ge i n with hin | hin
  · exact ⟨stampOf 1 i, by unfold stampOf; omega, keep _ _ (by omega) (by omega) (h.st i hin)⟩
  · exact ⟨0, by unfold stampOf; omega, keep _ _ (by omega) (by omega) (h.no i hin hi)⟩
/-- Undone. -/
theorem P1.undo (hk : k.Ok) (hI : s.Is k.words) (h : P1 s k orig n p v) (hn : 0 < n) : P2 (s.run (undoOps 1 p v n)) k orig := by
  obtain ⟨h1, h2⟩ := h.back_fe hk hI
  have I1 : (s.run (backOps p v n n ++ [.fe])).Is k.words := hI.run _
  unfold undoOps
  rw [if_neg (by omega), St.run_append]
  generalize s.run (backOps p v n n ++ [.fe]) = t at *
  exact P2.of hk h1 h2 (fun j y hj hne ha => trunc_all hk I1 _ List.prefix_rfl hj hne ha) ((trunc_vals hk I1 h1.epo _ List.prefix_rfl).2 rfl)
theorem undo_none (ep : Int) (p : Nat → Nat) (v : Nat → Int) : undoOps ep p v 0 = [] := if_pos rfl
/-- Without records nothing was stored. -/
theorem P1.none (h : P1 s k orig 0 p v) : ∀ j, k.act ≤ j → j < k.words → s.all j (orig j) := fun j hj hjw => h.same j hj hjw fun i hi => by omega
/-- Cut anywhere, and left anyhow. -/
theorem P1.undo_cut (hk : k.Ok) (hI : s.Is k.words) (h : P1 s k orig n p v) (m : Nat) (ch : Nat → Int) :
    P1 ((s.run ((undoOps 1 p v n).take m)).crash ch) k orig n p v ∨ P2 ((s.run ((undoOps 1 p v n).take m)).crash ch) k orig := by
  have hw := Kfg.words_le hk
  have hac := k.act_le
  by_cases hn : n = 0
  · subst hn
    rw [undo_none, List.take_nil]
    exact .inl (h.crash hk hI ch)
  have hu : undoOps 1 p v n = (backOps p v n n ++ [.fe]) ++ truncOps 1 := by unfold undoOps; rw [if_neg hn]
  rw [hu, List.take_append]
  rcases Nat.lt_or_ge (backOps p v n n ++ [Dop.fe]).length m with hm | hm
  · rw [List.take_of_length_le (by omega), St.run_append]
    obtain ⟨h1, h2⟩ := h.back_fe hk hI
    have I1 : (s.run (backOps p v n n ++ [.fe])).Is k.words := hI.run _
    generalize s.run (backOps p v n n ++ [.fe]) = t at *
    obtain ⟨l, hl⟩ : ∃ l, (truncOps 1).take (m - (backOps p v n n ++ [Dop.fe]).length) = l := ⟨_, rfl⟩
    rw [hl]
    have hpre : l <+: truncOps 1 := by rw [← hl]; exact List.take_prefix _ _
    have I2 : (t.run l).Is k.words := I1.run _
    have keep : ∀ j y, j < k.words → j ≠ 8 → t.all j y → ((t.run l).crash ch).all j y := fun j y hj hne ha =>
      (trunc_all hk I1 l hpre hj hne ha).left ch ▸ St.all_crash I2 ch hj
    have hv := (trunc_vals hk I1 h1.epo l hpre).1 (left (t.run l) ch 8) (by
      rcases left_of (t.run l) ch 8 with e | e | e
      · exact .inr (.inl e)
      · exact .inl e
      · exact .inr (.inr e))
    have hleft := St.all_crash I2 ch (show 8 < k.words by omega)
    rcases hv with e | e
    · rw [e] at hleft
      refine .inl (h1.of_all hk fun j y hj ha _ => ?_)
      by_cases hj8 : j = 8
      · subst hj8
        have := ha.1.symm.trans h1.epo.1
        subst this
        exact hleft
      · exact keep j y hj hj8 ha
    · rw [e] at hleft
      exact .inr (P2.of hk h1 h2 keep hleft)
  · have e0 : m - (backOps p v n n ++ [Dop.fe]).length = 0 := Nat.sub_eq_zero_of_le hm
    rw [e0, List.take_zero, List.append_nil]
    refine .inl ((h.run hk hI _ fun o ho q x e => ?_).crash hk (hI.run _) ch)
    have ho := List.mem_of_mem_take ho
    rcases List.mem_append.1 ho with ho | ho
    · exact back_ok h n (Nat.le_refl _) o ho q x e
    · simp at ho; subst ho; cases e
end

/-- What a Format stores. -/
theorem fmt_free {k : Kfg} (hk : k.Ok) : ∀ o ∈ fmtOps k, ∀ q x, o = .st q x → q < k.act + 2 + k.R := by
  have hac := k.act_le
  intro o ho q x e
  subst e
  simp only [fmtOps, fmt1, fmt2, fmt3, cfgOps, recOps, zeroOps, recOp, zeroOp, List.mem_append, List.mem_flatMap, List.mem_cons, List.mem_range, List.not_mem_nil, Dop.st.injEq, reduceCtorEq, or_false, false_or] at ho
  rcases ho with ((((h | h) | h) | h) | h) | h
  all_goals first
    | omega
    | (obtain ⟨i, hi, h⟩ := h; omega)
/-- A new heap's log. -/
theorem AllS.start {s5 : St} {k : Kfg} (hk : k.Ok) (hA : AllS s5 k) {old : List Int} (hE : s5 = (St.fresh (-1) 0 (fill old k.words)).run (fmtOps k)) (p : Nat → Nat) (v : Nat → Int) : P1 s5 k s5.nw 0 p v := by
  refine ⟨by omega, hA.w8, fun i hi => by omega, fun i hi => by omega, fun i hi => by omega, fun i _ hi => hA.recs i hi, fun i hi => by omega, fun j hj hjw _ => ?_, fun i hi => by omega⟩
  by_cases hz : j < k.act + 2 + k.R
  · have := hA.zer (j - k.act) (by omega)
    rw [show k.act + (j - k.act) = j by omega] at this
    rw [this.1]; exact this
  · have hw := Kfg.words_le hk
    have h := St.all_run hjw (fmtOps k) (fresh_fill old k) (fresh_all (-1) 0 (fill old k.words) j) fun o ho q x e => by
      have := fmt_free hk o ho q x e
      omega
    rw [← hE] at h
    rw [h.1]; exact h
theorem P1.undo_all {s : St} {k : Kfg} {orig : Nat → Int} {n : Nat} {p : Nat → Nat} {v : Nat → Int} (hk : k.Ok) (hI : s.Is k.words) (h : P1 s k orig n p v) : ∀ j, k.act ≤ j → j < k.words → (s.run (undoOps 1 p v n)).all j (orig j) := by
  by_cases hn : n = 0
  · subst hn
    rw [undo_none]
    exact h.none
  · exact (h.undo hk hI (by omega)).same
/-- The log behind Undo: its epoch. -/
def undoEp (n : Nat) : Int := if n = 0 then 1 else 2
theorem P1.undo_log {s : St} {k : Kfg} {orig : Nat → Int} {n : Nat} {p : Nat → Nat} {v : Nat → Int} (hk : k.Ok) (hI : s.Is k.words) (h : P1 s k orig n p v) : (s.run (undoOps 1 p v n)).nw 8 = undoEp n ∧ LogIs (s.run (undoOps 1 p v n)) k (undoEp n) 0 := by
  by_cases hn : n = 0
  · subst hn
    rw [undo_none]
    exact ⟨h.epo.1, h.log⟩
  · have := h.undo hk hI (by omega)
    unfold undoEp
    rw [if_neg hn]
    exact ⟨this.epo.1, this.log⟩
theorem undo_cells {d : DevI} {k : Kfg} (n : Nat) : (if n = 0 then logC d k 1 0 else logC d k ((1 + 1) % 4294967296) 0) = logC d k (undoEp n) 0 := by
  unfold undoEp
  split <;> rfl
end Go.Proofs.Ytbdomdmnjclpdaa
