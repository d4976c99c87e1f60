/-
  Regions that draw their order: operations that turn things that lie apart, each thing turned by one operation.
-/
import Derived.Test.YtaophnicdbmojaaApnd
import Derived.Test.YtaophnicdbmojaaRelT
set_option linter.unusedVariables false
set_option linter.unusedSimpArgs false
set_option maxRecDepth 100000
namespace Go.Proofs.Ytaophnicdbmojaa
open Go.RowKit

def fset {α : Type} (f : Nat → α) (j : Nat) (x : α) : Nat → α := fun i => if i = j then x else f i
theorem fset_same {α : Type} (f : Nat → α) (j : Nat) (x : α) : fset f j x j = x := if_pos rfl
theorem fset_ne {α : Type} (f : Nat → α) (x : α) {i j : Nat} (h : i ≠ j) : fset f j x i = f i := if_neg h

section
variable {P : Program} {Q : Exit → Act → World → Prop} {W : World} {S : List Nat}

/-- What is asked of operation j: in whatever state of the others. -/
def StStep (P : Program) (Q : Exit → Act → World → Prop) (l : List Oper) (a : Act) (W : World) (S : List Nat) (T : (Nat → Bool) → (Nat → Value) → List Res) (V : (Nat → Bool) → (Nat → Value) → Prop) (j : Nat) (o : Oper) : Prop :=
  ∀ (D : Nat → Bool) (u : Nat → Value) (w : World) (K : Value → World → Prop), D j = false → (∀ e ∈ o.after.toList, Region.binds .any e = true → D e.on = true) →
    (∀ k o', l[k]? = some o' → (∃ e ∈ o'.after.toList, Region.binds .any e = true ∧ e.on = j) → D k = false) → V D u → Sep W S (T D u) w →
    (∀ v w', V (fset D j true) (fset u j v) → Sep W S (T (fset D j true) (fset u j v)) w' → K v w') →
    (if Region.wanted o (yielded l.toArray (puts u 0 l a).tmps) then yUpon P (puts u 0 l a) K Q ((execOp (puts u 0 l a).eval o).run P w) else K undef w)

theorem wp_region_st {id : Nat} {a : Act} {w : World} {l : List Oper} (hm : P.follows .mixedOrders = true) (hB : downB .any l.toArray = true) (hF : freshB l = true)
    (T : (Nat → Bool) → (Nat → Value) → List Res) (V : (Nat → Bool) → (Nat → Value) → Prop)
    (h0 : ∀ u, V (fun _ => false) u ∧ Sep W S (T (fun _ => false) u) w)
    (hs : ∀ j o, l[j]? = some o → StStep P Q l a W S T V j o)
    (he : ∀ D u w, (∀ j, j < l.length → D j = true) → V D u → Sep W S (T D u) w → Q .normal (puts u 0 l a) w) : (Code.region id l.toArray true).wp P Q a w := by
  refine wp_region_inv hm hB (fun L a' w' => ∃ (D : Nat → Bool) (u : Nat → Value), (∀ i, i < l.length → D i = L.getD i false) ∧ (∀ i, l.length ≤ i → D i = false) ∧ L.size = l.length ∧
    (∀ k o, l[k]? = some o → L.getD k false = true → ∀ e ∈ o.after.toList, Region.binds .any e = true → L.getD e.on false = true) ∧ a' = puts u 0 l a ∧ V D u ∧ Sep W S (T D u) w') ?_ ?_ ?_
  · obtain ⟨u, hu⟩ : ∃ u : Nat → Value, u = fun i => match l[i]? with | some o => (match o.dst with | some d => a.tmps.getD d undef | none => undef) | none => undef := ⟨_, rfl⟩
    refine ⟨fun _ => false, u, fun i _ => (getD_replicate_false _ _).symm, fun _ _ => rfl, by simp, fun k o _ hl => (by rw [getD_replicate_false] at hl; cases hl), ?_, (h0 u).1, (h0 u).2.drew⟩
    refine (puts_start l _ 0 a (fun j o hj d hd => ?_)).symm
    rw [hu]
    simp only [Nat.zero_add, hj, hd]
  · rintro L a' w' i ⟨D, u, hD, hD2, hsz, hcl, rfl, hV, hS⟩ hi
    obtain ⟨hun, o, ho, hall⟩ := mem_ready.1 hi
    have ho' : l[i]? = some o := by simpa using ho
    have hil : i < l.length := (List.getElem?_eq_some_iff.1 ho').1
    have hDi : D i = false := by rw [hD i hil]; exact getD_both hun
    have hlt : ∀ e ∈ o.after.toList, Region.binds .any e = true → e.on < l.length := fun e he hb => by
      have h1 := hall e (by simpa using he) hb
      rcases Nat.lt_or_ge e.on l.length with h | h
      · exact h
      · rw [← hsz] at h
        simp [Array.getElem?_eq_none h] at h1
    have hdep : ∀ e ∈ o.after.toList, Region.binds .any e = true → D e.on = true := fun e he hb => by
      rw [hD _ (hlt e he hb)]
      exact hall e (by simpa using he) hb
    have hlate : ∀ k o', l[k]? = some o' → (∃ e ∈ o'.after.toList, Region.binds .any e = true ∧ e.on = i) → D k = false := by
      rintro k o' hk ⟨e, he, hb, rfl⟩
      have hkl : k < l.length := (List.getElem?_eq_some_iff.1 hk).1
      cases hDk : D k with
      | false => rfl
      | true =>
        rw [hD k hkl] at hDk
        have := hcl k o' hk hDk e he hb
        rw [getD_both hun] at this
        cases this
    have hq := hs i o ho' D u w' (fun v w'' => V (fset D i true) (fset u i v) ∧ Sep W S (T (fset D i true) (fset u i v)) w'') hDi hdep hlate hV hS (fun v w'' h1 h2 => ⟨h1, h2⟩)
    have hnext : ∀ v w'', (V (fset D i true) (fset u i v) ∧ Sep W S (T (fset D i true) (fset u i v)) w'') →
        ∃ (D' : Nat → Bool) (u' : Nat → Value), (∀ k, k < l.length → D' k = (L.setIfInBounds i true).getD k false) ∧ (∀ k, l.length ≤ k → D' k = false) ∧ (L.setIfInBounds i true).size = l.length ∧
          (∀ k o, l[k]? = some o → (L.setIfInBounds i true).getD k false = true → ∀ e ∈ o.after.toList, Region.binds .any e = true → (L.setIfInBounds i true).getD e.on false = true) ∧ (puts u 0 l a).put o.dst v = puts u' 0 l a ∧ V D' u' ∧ Sep W S (T D' u') w'' := by
      rintro v w'' ⟨h1, h2⟩
      refine ⟨fset D i true, fset u i v, fun k hk => ?_, fun k hk => ?_, by simp [hsz], fun k ok hk hl e he hb => ?_, ?_, h1, h2⟩
      · unfold fset
        by_cases hki : k = i
        · subst hki
          rw [if_pos rfl]
          simp [hsz, hil]
        · rw [if_neg hki, hD k hk]
          simp only [Array.getD_eq_getD_getElem?, Array.getElem?_setIfInBounds_ne (fun e => hki e.symm)]
      · unfold fset
        rw [if_neg (by omega)]
        exact hD2 k hk
      · by_cases hki : k = i
        · subst hki
          rw [ho'] at hk
          injection hk with hk
          subst hk
          exact getD_set_true (hall e (by simpa using he) hb)
        · have : L.getD k false = true := by
            rw [← hl]
            simp only [Array.getD_eq_getD_getElem?, Array.getElem?_setIfInBounds_ne (fun e => hki e.symm)]
          exact getD_set_true (hcl k ok hk this e he hb)
      · rw [puts_one v l u 0 i a o hF ho']
        refine puts_congr _ _ l 0 a fun k _ => ?_
        simp only [fset, Nat.zero_add]
    unfold wpOp
    rw [ho]
    simp only
    split
    · rename_i hw
      rw [if_pos hw] at hq
      exact .inl (upon_of_y hnext hq)
    · rename_i hw
      rw [if_neg hw] at hq
      exact hnext _ _ hq
  · rintro L a' w' ⟨D, u, hD, _, hsz, _, rfl, hV, hS⟩ hr
    exact he D u w' (fun j hj => by rw [hD j hj]; exact hr j (by simpa using hj)) hV hS

/-- What an operation waits for; what waits for it. -/
def depsOf (o : Oper) : List Nat := (o.after.toList.filter fun e => Region.binds .any e).map (·.on)
def lateOf (l : List Oper) (j : Nat) : List Nat := (List.range l.length).filter fun k => match l[k]? with | some o => (depsOf o).contains j | none => false

/-- The same, by what is told of each value. -/
theorem wp_region_st2 {id : Nat} {a : Act} {w : World} {l : List Oper} (hm : P.follows .mixedOrders = true) (hB : downB .any l.toArray = true) (hF : freshB l = true)
    (T : (Nat → Bool) → (Nat → Value) → List Res) (pf : Nat → Value → Prop)
    (h0 : ∀ u, Sep W S (T (fun _ => false) u) w)
    (hs : ∀ j o, l[j]? = some o → ∀ (D : Nat → Bool) (u : Nat → Value) (w : World) (K : Value → World → Prop), D j = false → (∀ i ∈ depsOf o, D i = true ∧ pf i (u i)) → (∀ k ∈ lateOf l j, D k = false) → Sep W S (T D u) w →
      (∀ v w', pf j v → Sep W S (T (fset D j true) (fset u j v)) w' → K v w') →
      (if Region.wanted o (yielded l.toArray (puts u 0 l a).tmps) then yUpon P (puts u 0 l a) K Q ((execOp (puts u 0 l a).eval o).run P w) else K undef w))
    (he : ∀ D u w, (∀ j, j < l.length → D j = true ∧ pf j (u j)) → Sep W S (T D u) w → Q .normal (puts u 0 l a) w) : (Code.region id l.toArray true).wp P Q a w := by
  refine wp_region_st hm hB hF T (fun D u => ∀ i, D i = true → pf i (u i)) (fun u => ⟨fun i h => by simp at h, h0 u⟩) ?_ (fun D u w hD hV hS => he D u w (fun j hj => ⟨hD j hj, hV j (hD j hj)⟩) hS)
  intro j o hj D u w K hDj hdep hlate hV hS hK
  refine hs j o hj D u w K hDj (fun i hi => ?_) (fun k hk => ?_) hS (fun v w' hp hs' => hK v w' (fun i hi => ?_) hs')
  · obtain ⟨e, he, rfl⟩ := List.mem_map.1 hi
    obtain ⟨he1, he2⟩ := List.mem_filter.1 he
    have := hdep e he1 he2
    exact ⟨this, hV _ this⟩
  · obtain ⟨hk1, hk2⟩ := List.mem_filter.1 hk
    cases hlk : l[k]? with
    | none => rw [hlk] at hk2; cases hk2
    | some o' =>
      rw [hlk] at hk2
      simp only [List.contains_iff_mem] at hk2
      obtain ⟨e, he, he3⟩ := List.mem_map.1 hk2
      obtain ⟨he1, he2⟩ := List.mem_filter.1 he
      exact hlate k o' hlk ⟨e, he1, he2, he3⟩
  · unfold fset at hi ⊢
    by_cases hij : i = j
    · subst hij
      rw [if_pos rfl]
      exact hp
    · rw [if_neg hij] at hi ⊢
      exact hV i hi

def AllFrom (R : Nat → Oper → Prop) : Nat → List Oper → Prop
  | _, [] => True
  | n, o :: l => R n o ∧ AllFrom R (n + 1) l
theorem AllFrom.get {R : Nat → Oper → Prop} : ∀ {l : List Oper} {n : Nat}, AllFrom R n l → ∀ j o, l[j]? = some o → R (n + j) o
  | [], _, _, j, o, h => by simp at h
  | o' :: l, n, h, 0, o, hj => by simp at hj; subst hj; exact h.1
  | o' :: l, n, h, j + 1, o, hj => by
    have := AllFrom.get h.2 j o (by simpa using hj)
    rwa [show n + 1 + j = n + (j + 1) by omega] at this

/-- What is asked of operation j. -/
def StOp (P : Program) (Q : Exit → Act → World → Prop) (l : List Oper) (a : Act) (W : World) (S : List Nat) (T : (Nat → Bool) → (Nat → Value) → List Res) (pf : Nat → Value → Prop) (j : Nat) (o : Oper) : Prop :=
  ∀ (D : Nat → Bool) (u : Nat → Value) (w : World) (K : Value → World → Prop), D j = false → (∀ i, (depsOf o).contains i = true → D i = true ∧ pf i (u i)) → (∀ k, (lateOf l j).contains k = true → D k = false) → Sep W S (T D u) w →
      (∀ v w', pf j v → Sep W S (T (fset D j true) (fset u j v)) w' → K v w') →
      (if Region.wanted o (yielded l.toArray (puts u 0 l a).tmps) then yUpon P (puts u 0 l a) K Q ((execOp (puts u 0 l a).eval o).run P w) else K undef w)
theorem wp_region_st3 {id : Nat} {a : Act} {w : World} {l : List Oper} (hm : P.follows .mixedOrders = true) (hB : downB .any l.toArray = true) (hF : freshB l = true)
    (T : (Nat → Bool) → (Nat → Value) → List Res) (pf : Nat → Value → Prop)
    (h0 : ∀ u, Sep W S (T (fun _ => false) u) w)
    (hs : AllFrom (StOp P Q l a W S T pf) 0 l)
    (he : ∀ D u w, (∀ j, j < l.length → D j = true ∧ pf j (u j)) → Sep W S (T D u) w → Q .normal (puts u 0 l a) w) : (Code.region id l.toArray true).wp P Q a w :=
  wp_region_st2 hm hB hF T pf h0 (fun j o hj => by
    have := hs.get j o hj
    rw [Nat.zero_add] at this
    intro D u w K h1 h2 h3
    exact this D u w K h1 (fun i hi => h2 i (by simpa using hi)) (fun k hk => h3 k (by simpa using hk))) he
end
end Go.Proofs.Ytaophnicdbmojaa
