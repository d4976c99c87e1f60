/-
  Objects, one behind the other: the plain laws of a walk.
-/
import Derived.Test.YtbdomdmnjclpdaaFillP
import Derived.Test.YtbdomdmnjclpdaaRng
set_option linter.unusedSimpArgs false
set_option linter.unusedVariables false
set_option maxRecDepth 100000
namespace Go.Proofs.Ytbdomdmnjclpdaa
open Go.RowKit Go.Shelf

theorem tmod_natN (a n : Nat) : ((a : Int)).tmod (n : Int) = ((a % n : Nat) : Int) := by
  rw [Int.tmod_eq_emod_of_nonneg (by omega)]; simp

/-- What is met: where, how many words, how many names, an error. -/
structure It where
  p : Nat
  m : Int
  b : Int
  err : Int
/-- Is there an object at p that ends by e? -/
def goodAt (t : St) (e p : Nat) : Prop := (headOf (t.nw p)).2.2 = true ∧ (headOf (t.nw p)).1 + 1 ≤ (e : Int) - (p : Int)
instance (t : St) (e p : Nat) : Decidable (goodAt t e p) := inferInstanceAs (Decidable (_ ∧ _))
def itAt (t : St) (p : Nat) : It := ⟨p, (headOf (t.nw p)).1, (headOf (t.nw p)).2.1, 0⟩
def nextAt (t : St) (p : Nat) : Nat := p + ((headOf (t.nw p)).1.toNat + 1)
def scanF (t : St) (e : Nat) : Nat → Nat → List It
  | 0, _ => []
  | f + 1, p => if e ≤ p then [] else if goodAt t e p then itAt t p :: scanF t e f (nextAt t p) else [⟨p, 0, 0, 8⟩]
def scan (t : St) (e p : Nat) : List It := scanF t e (e - p + 1) p
theorem scanF_fuel (t : St) (e : Nat) : ∀ (f f' p : Nat), e - p < f → e - p < f' → scanF t e f p = scanF t e f' p
  | 0, _, p, h, _ => by omega
  | _ + 1, 0, p, _, h => by omega
  | f + 1, f' + 1, p, h, h' => by
    simp only [scanF]
    by_cases h1 : e ≤ p
    · rw [if_pos h1, if_pos h1]
    · rw [if_neg h1, if_neg h1]
      by_cases h2 : goodAt t e p
      · rw [if_pos h2, if_pos h2, scanF_fuel t e f f' (nextAt t p) (by unfold nextAt; omega) (by unfold nextAt; omega)]
      · rw [if_neg h2, if_neg h2]
theorem scan_end {t : St} {e p : Nat} (h : e ≤ p) : scan t e p = [] := by
  unfold scan
  simp only [scanF]
  rw [if_pos h]
theorem scan_ok {t : St} {e p : Nat} (h : p < e) (hg : goodAt t e p) : scan t e p = itAt t p :: scan t e (nextAt t p) := by
  unfold scan
  rw [show scanF t e (e - p + 1) p = if e ≤ p then [] else if goodAt t e p then itAt t p :: scanF t e (e - p) (nextAt t p) else [⟨p, 0, 0, 8⟩] from rfl, if_neg (by omega), if_pos hg]
  congr 1
  exact scanF_fuel t e _ _ _ (by unfold nextAt; omega) (by unfold nextAt; omega)
theorem scan_bad {t : St} {e p : Nat} (h : p < e) (hg : ¬ goodAt t e p) : scan t e p = [⟨p, 0, 0, 8⟩] := by
  unfold scan
  rw [show scanF t e (e - p + 1) p = if e ≤ p then [] else if goodAt t e p then itAt t p :: scanF t e (e - p) (nextAt t p) else [⟨p, 0, 0, 8⟩] from rfl, if_neg (by omega), if_neg hg]
/-- Where a walk goes on it hasn't come behind the end. -/
theorem next_le {t : St} {e p : Nat} (h : p < e) (hr : t.rng) (hg : goodAt t e p) : p < nextAt t p ∧ nextAt t p ≤ e ∧ headOk (headOf (t.nw p)).1 (headOf (t.nw p)).2.1 := by
  have hok := headOf_ok (x := t.nw p) (hr.nw p).1
  have h1 := hg.2
  have h0 := hok.1
  refine ⟨by unfold nextAt; omega, by unfold nextAt; omega, hok⟩
theorem headOf_head {t : St} {p : Nat} {n b : Nat} (h : t.nw p = hw (n : Nat) (b : Nat)) (hb : b ≤ n) (hn : n ≤ 64) : headOf (t.nw p) = ((n : Int), (b : Int), true) := by
  rw [h]
  exact headOf_hw ⟨by omega, by omega, by omega, by omega⟩
theorem goodAt_head {t : St} {e p : Nat} {n b : Nat} (h : t.nw p = hw (n : Nat) (b : Nat)) (hb : b ≤ n) (hn : n ≤ 64) (he : p + (n + 1) ≤ e) : goodAt t e p ∧ itAt t p = ⟨p, n, b, 0⟩ ∧ nextAt t p = p + (n + 1) := by
  have h2 := headOf_head h hb hn
  unfold goodAt itAt nextAt
  rw [h2]
  exact ⟨⟨rfl, by simp only; omega⟩, rfl, by simp⟩
/-- Heads in a row are met. -/
theorem scan_chain {t : St} {e : Nat} : ∀ {os : List Ob} {p q : Nat}, Chain p os q → q ≤ e → (∀ o ∈ os, t.nw o.at_ = hw (o.n : Nat) (o.b : Nat)) → (∀ o ∈ os, o.n ≤ 64 ∧ o.b ≤ o.n) → scan t e p = os.map (fun o => ⟨o.at_, o.n, o.b, 0⟩) ++ scan t e q
  | [], p, q, h, _, _, _ => by have : p = q := h; subst this; simp
  | o :: os, p, q, h, hq, hh, hs => by
    obtain ⟨h1, h5⟩ := h
    subst h1
    have h2 := hs o (by simp)
    have h3 := Chain.le h5
    obtain ⟨g1, g2, g3⟩ := goodAt_head (e := e) (hh o (by simp)) h2.2 h2.1 (by omega)
    rw [scan_ok (by omega) g1, g2, g3, scan_chain h5 hq (fun o ho => hh o (List.mem_cons_of_mem _ ho)) (fun o ho => hs o (List.mem_cons_of_mem _ ho))]
    simp
theorem FillS.scan {t : St} {k : Kfg} {a u : Nat} {os : List Ob} (h : FillS t k a os u) : scan t (k.from_ a + u) (k.from_ a) = os.map (fun o => ⟨o.at_, o.n, o.b, 0⟩) := by
  rw [scan_chain h.chain (Nat.le_refl _) h.heads (fun o ho => by have := h.small o ho; omega), scan_end (Nat.le_refl _), List.append_nil]
/-- What comes last alone may be an error. -/
theorem scanF_err {t : St} {e : Nat} : ∀ (f p m : Nat) (x : It), (scanF t e f p)[m]? = some x → x.err ≠ 0 → m + 1 = (scanF t e f p).length ∧ x.err = 8
  | 0, p, m, x, h, _ => by simp [scanF] at h
  | f + 1, p, m, x, h, hx => by
    simp only [scanF] at h ⊢
    by_cases h1 : e ≤ p
    · rw [if_pos h1] at h; simp at h
    · rw [if_neg h1] at h ⊢
      by_cases h2 : goodAt t e p
      · rw [if_pos h2] at h ⊢
        cases m with
        | zero => simp at h; subst h; exact absurd rfl hx
        | succ m =>
          simp only [List.getElem?_cons_succ] at h
          have := scanF_err f _ m x h hx
          simp only [List.length_cons]
          omega
      · rw [if_neg h2] at h ⊢
        cases m with
        | zero => simp at h; subst h; exact ⟨rfl, rfl⟩
        | succ m => simp at h
theorem scan_err {t : St} {e p m : Nat} {x : It} (h : (scan t e p)[m]? = some x) (hx : x.err ≠ 0) : m + 1 = (scan t e p).length ∧ x.err = 8 := scanF_err _ _ _ _ h hx
/-- Places rise. -/
theorem scanF_rise {t : St} {e : Nat} : ∀ (f p : Nat), (∀ x ∈ scanF t e f p, p ≤ x.p ∧ x.p < e) ∧ (scanF t e f p).Pairwise (fun x y => x.p < y.p)
  | 0, p => by simp [scanF]
  | f + 1, p => by
    simp only [scanF]
    by_cases h1 : e ≤ p
    · rw [if_pos h1]; simp
    · rw [if_neg h1]
      by_cases h2 : goodAt t e p
      · rw [if_pos h2]
        obtain ⟨i1, i2⟩ := scanF_rise (t := t) (e := e) f (nextAt t p)
        have hlt : p < nextAt t p := by unfold nextAt; omega
        refine ⟨?_, ?_⟩
        · intro x hx
          rcases List.mem_cons.1 hx with rfl | hx
          · exact ⟨Nat.le_refl _, by show p < e; omega⟩
          · have := i1 x hx; omega
        · refine List.pairwise_cons.2 ⟨fun y hy => ?_, i2⟩
          have := i1 y hy
          show p < y.p
          omega
      · rw [if_neg h2]
        simp
        omega
theorem scan_in {t : St} {e p : Nat} {x : It} (h : x ∈ scan t e p) : p ≤ x.p ∧ x.p < e := (scanF_rise _ _).1 x h
theorem scan_rise (t : St) (e p : Nat) : (scan t e p).Pairwise (fun x y => x.p < y.p) := (scanF_rise _ _).2

/-- The objects met, by their places. -/
def stepM (M : Int → Option Value) (x : It) : Int → Option Value := if x.err = 0 then mset M (x.p : Int) (.agg #[.int .i64 x.m, .int .i64 x.b, .int .i64 (x.p : Int)]) else M
def mapOf (l : List It) : Int → Option Value := l.foldl stepM (fun _ => none)
theorem mapOf_take {l : List It} {m : Nat} {x : It} (h : l[m]? = some x) : mapOf (l.take (m + 1)) = stepM (mapOf (l.take m)) x := by
  rw [List.take_add_one, h]
  simp [mapOf]
theorem snoc_ind {α : Type} {P : List α → Prop} (h0 : P []) (hs : ∀ l x, P l → P (l ++ [x])) (l : List α) : P l := by
  have h : ∀ l : List α, P l.reverse := by
    intro l
    induction l with
    | nil => exact h0
    | cons x l ih => rw [List.reverse_cons]; exact hs _ _ ih
  have := h l.reverse
  rwa [List.reverse_reverse] at this
theorem mapOf_get {j : Int} {v : Value} : ∀ {l : List It}, l.Pairwise (fun x y => x.p < y.p) → (mapOf l j = some v ↔ ∃ x ∈ l, x.err = 0 ∧ (x.p : Int) = j ∧ v = .agg #[.int .i64 x.m, .int .i64 x.b, .int .i64 (x.p : Int)]) := by
  intro l
  refine snoc_ind (P := fun l => l.Pairwise (fun x y => x.p < y.p) → (mapOf l j = some v ↔ ∃ x ∈ l, x.err = 0 ∧ (x.p : Int) = j ∧ v = .agg #[.int .i64 x.m, .int .i64 x.b, .int .i64 (x.p : Int)])) ?_ ?_ l
  · intro _; simp [mapOf]
  · intro l y ih hp
    rw [List.pairwise_append] at hp
    obtain ⟨hp1, _, hp2⟩ := hp
    have e : mapOf (l ++ [y]) = stepM (mapOf l) y := by simp [mapOf]
    rw [e]
    unfold stepM
    by_cases hy : y.err = 0
    · rw [if_pos hy]
      unfold mset
      by_cases hj : j = (y.p : Int)
      · rw [if_pos hj]
        constructor
        · intro hv; cases hv; exact ⟨y, by simp, hy, hj.symm, rfl⟩
        · rintro ⟨x, hx, h1, h2, rfl⟩
          rcases List.mem_append.1 hx with hx | hx
          · have := hp2 x hx y (by simp); omega
          · simp at hx; subst hx; rfl
      · rw [if_neg hj, ih hp1]
        constructor
        · rintro ⟨x, hx, h⟩; exact ⟨x, by simp [hx], h⟩
        · rintro ⟨x, hx, h1, h2, h3⟩
          rcases List.mem_append.1 hx with hx | hx
          · exact ⟨x, hx, h1, h2, h3⟩
          · simp at hx; subst hx; exact absurd h2.symm hj
    · rw [if_neg hy, ih hp1]
      constructor
      · rintro ⟨x, hx, h⟩; exact ⟨x, by simp [hx], h⟩
      · rintro ⟨x, hx, h1, h2, h3⟩
        rcases List.mem_append.1 hx with hx | hx
        · exact ⟨x, hx, h1, h2, h3⟩
        · simp at hx; subst hx; exact absurd h1 hy
/-- The first error. -/
def errAt (l : List It) : Int := match l.getLast? with | some x => x.err | none => 0
theorem errAt_zero {t : St} {e p : Nat} (h : ∀ x ∈ scan t e p, x.err = 0) : errAt (scan t e p) = 0 := by
  unfold errAt
  cases hg : (scan t e p).getLast? with
  | none => rfl
  | some x => exact h x (List.mem_of_getLast? hg)
theorem errAt_some {t : St} {e p m : Nat} {x : It} (h : (scan t e p)[m]? = some x) (hx : x.err ≠ 0) : errAt (scan t e p) = x.err := by
  have := (scan_err h hx).1
  unfold errAt
  rw [List.getLast?_eq_getElem?, show (scan t e p).length - 1 = m by omega, h]
/-- With less used: what ends by there is met; behind it nothing, or an error. -/
theorem scan_cut {t : St} {e : Nat} : ∀ {os : List Ob} {p q : Nat}, Chain p os q → p ≤ e → e ≤ q → (∀ o ∈ os, t.nw o.at_ = hw (o.n : Nat) (o.b : Nat)) → (∀ o ∈ os, o.n ≤ 64 ∧ o.b ≤ o.n) →
    ∃ l, scan t e p = (os.filter fun o => decide (o.at_ + (o.n + 1) ≤ e)).map (fun o => ⟨o.at_, o.n, o.b, 0⟩) ++ l ∧ ((l = [] ∧ (p = e ∨ ∃ o ∈ os, o.at_ + (o.n + 1) = e)) ∨ (∃ x, l = [⟨x, 0, 0, 8⟩]) ∧ ¬ (p = e ∨ ∃ o ∈ os, o.at_ + (o.n + 1) = e))
  | [], p, q, h, hp, he, _, _ => by
    have : p = q := h
    have hpe : p = e := by omega
    exact ⟨[], by rw [scan_end (by omega)]; rfl, .inl ⟨rfl, .inl hpe⟩⟩
  | o :: os, p, q, h, hp, he, hh, hs => by
    obtain ⟨h1, h5⟩ := h
    subst h1
    have h2 := hs o (by simp)
    have later : ∀ o' ∈ os, o.at_ + (o.n + 1) + 1 ≤ o'.at_ + (o'.n + 1) := fun o' ho' => by have := h5.mem ho'; omega
    have none_of : ∀ (hgt : e < o.at_ + (o.n + 1)), ((o :: os).filter fun o => decide (o.at_ + (o.n + 1) ≤ e)) = [] := fun hgt => by
      rw [List.filter_eq_nil_iff]
      intro o' ho'
      rcases List.mem_cons.1 ho' with rfl | ho'
      · simp; omega
      · have := later o' ho'; simp; omega
    rcases Nat.lt_or_ge o.at_ e with hlt | hge
    · by_cases hfit : o.at_ + (o.n + 1) ≤ e
      · obtain ⟨g1, g2, g3⟩ := goodAt_head (e := e) (hh o (by simp)) h2.2 h2.1 hfit
        obtain ⟨l, hl1, hl2⟩ := scan_cut h5 hfit he (fun o ho => hh o (List.mem_cons_of_mem _ ho)) (fun o ho => hs o (List.mem_cons_of_mem _ ho))
        refine ⟨l, ?_, ?_⟩
        · rw [scan_ok hlt g1, g2, g3, hl1, List.filter_cons_of_pos (by simpa using hfit)]
          rfl
        · have hiff : (o.at_ = e ∨ ∃ o' ∈ o :: os, o'.at_ + (o'.n + 1) = e) ↔ (o.at_ + (o.n + 1) = e ∨ ∃ o' ∈ os, o'.at_ + (o'.n + 1) = e) := by
            constructor
            · rintro (h | ⟨o', ho', h⟩)
              · omega
              · rcases List.mem_cons.1 ho' with rfl | ho'
                · exact .inl h
                · exact .inr ⟨o', ho', h⟩
            · rintro (h | ⟨o', ho', h⟩)
              · exact .inr ⟨o, by simp, h⟩
              · exact .inr ⟨o', by simp [ho'], h⟩
          rw [hiff]
          exact hl2
      · have hng : ¬ goodAt t e o.at_ := by
          unfold goodAt
          rw [headOf_head (hh o (by simp)) h2.2 h2.1]
          simp only
          omega
        refine ⟨[⟨o.at_, 0, 0, 8⟩], by rw [scan_bad hlt hng, none_of (by omega)]; rfl, .inr ⟨⟨_, rfl⟩, ?_⟩⟩
        rintro (h | ⟨o', ho', h⟩)
        · omega
        · rcases List.mem_cons.1 ho' with rfl | ho'
          · omega
          · have := later o' ho'; omega
    · refine ⟨[], by rw [scan_end hge, none_of (by omega)]; rfl, .inl ⟨rfl, .inl (by omega)⟩⟩
theorem mapOf_some {l : List It} (hp : l.Pairwise (fun x y => x.p < y.p)) (j : Int) : (mapOf l j).isSome = true ↔ j ∈ (l.filter fun x => decide (x.err = 0)).map fun x => (x.p : Int) := by
  rw [Option.isSome_iff_exists]
  constructor
  · rintro ⟨v, hv⟩
    obtain ⟨x, hx, h1, h2, _⟩ := (mapOf_get hp).1 hv
    exact List.mem_map.2 ⟨x, List.mem_filter.2 ⟨hx, by simpa using h1⟩, h2⟩
  · intro hj
    obtain ⟨x, hx, h2⟩ := List.mem_map.1 hj
    obtain ⟨hx1, hx2⟩ := List.mem_filter.1 hx
    exact ⟨_, (mapOf_get hp).2 ⟨x, hx1, by simpa using hx2, h2, rfl⟩⟩
theorem mapOf_nodup {l : List It} (hp : l.Pairwise (fun x y => x.p < y.p)) : ((l.filter fun x => decide (x.err = 0)).map fun x => (x.p : Int)).Nodup := by
  rw [List.Nodup, List.pairwise_map]
  exact (hp.filter _).imp (fun {a b} h => by omega)
end Go.Proofs.Ytbdomdmnjclpdaa
