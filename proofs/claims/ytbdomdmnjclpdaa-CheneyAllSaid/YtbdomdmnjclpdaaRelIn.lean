/-
  A region that draws its order, in a round of a range over a function: as wp_region_st3.
-/
import Derived.Test.YtbdomdmnjclpdaaRelS
import Derived.OrdersIn
import Derived.RangeFuncCalls
import Derived.TacticsIn
import Derived.LoopIn
set_option linter.unusedVariables false
set_option linter.unusedSimpArgs false
set_option maxRecDepth 100000
namespace Go.Proofs.Ytbdomdmnjclpdaa
open Go.RowKit

section
variable {P : Program} {ops : Array Oper} {md : Region.Mode} {Q : Exit → Act → World → Prop} {l0 : Nat}
theorem wpAnyIn_inv (hB : downB md ops = true) (I : Array Bool → Act → World → Prop) (hs : ∀ listed a w i, I listed a w → i ∈ Region.ready md ops listed → wpOpIn (Fence.wide.inRound l0) 0 P ops Q i (fun a' w' => I (listed.setIfInBounds i true) a' w') a w)
    (he : ∀ listed a w, I listed a w → (∀ i, i < ops.size → listed.getD i false = true) → Q .normal a w) :
    ∀ (f : Nat) (listed : Array Bool) (a : Act) (w : World), listed.size = ops.size → toCome ops listed ≤ f → I listed a w → wpAnyIn (Fence.wide.inRound l0) 0 P md ops Q f listed a w
  | 0, listed, a, w, hz, hc, h => by
    have hr : Region.ready md ops listed = [] := by
      cases hr : Region.ready md ops listed with
      | nil => rfl
      | cons i rest =>
        have hi : i ∈ Region.ready md ops listed := by rw [hr]; simp
        obtain ⟨h1, o, ho, _⟩ := mem_ready.1 hi
        have : i ∈ (List.range ops.size).filter fun i => !listed.getD i true := by
          rw [List.mem_filter, List.mem_range]
          exact ⟨(Array.getElem?_eq_some_iff.1 ho).1, by rw [h1]; rfl⟩
        have h3 : 0 < toCome ops listed := List.length_pos_of_mem this
        omega
    exact ⟨hr, he _ _ _ h (all_listed hB hz hr)⟩
  | f + 1, listed, a, w, hz, hc, h => by
    refine ⟨fun hr => he _ _ _ h (all_listed hB hz hr), fun i hi => ?_⟩
    refine wpOpIn_mono (fun a' w' h' => wpAnyIn_inv hB I hs he f _ a' w' (by simpa using hz) ?_ h') (hs listed a w i h hi)
    obtain ⟨h1, o, ho, _⟩ := mem_ready.1 hi
    have hio := (Array.getElem?_eq_some_iff.1 ho).1
    have : toCome ops (listed.setIfInBounds i true) < toCome ops listed := by
      refine filter_lt _ _ _ (fun j _ hj => ?_) i (List.mem_range.2 hio) (by rw [h1]; rfl) ?_
      · by_cases hij : i = j
        · subst hij; simp [hz, hio] at hj
        · simp only [Array.getD_eq_getD_getElem?, Array.getElem?_setIfInBounds_ne hij] at hj ⊢
          exact hj
      · simp [hz, hio]
    omega
theorem wpIn_region_inv {id : Nat} {a : Act} {w : World} {l : List Oper} (hm : P.follows .mixedOrders = true) (hB : downB .any l.toArray = true) (I : Array Bool → Act → World → Prop) (h0 : I (Array.replicate l.toArray.size false) a w.drew)
    (hs : ∀ listed a w i, I listed a w → i ∈ Region.ready .any l.toArray listed → wpOpIn (Fence.wide.inRound l0) 0 P l.toArray Q i (fun a' w' => I (listed.setIfInBounds i true) a' w') a w)
    (he : ∀ listed a w, I listed a w → (∀ i, i < l.toArray.size → listed.getD i false = true) → Q .normal a w) : (Code.region id l.toArray true).wpIn (Fence.wide.inRound l0) 0 P Q a w := by
  refine wpIn_region_any hm (wpAnyIn_inv hB I hs he _ _ _ _ (by simp) ?_ h0)
  exact Nat.le_trans (List.length_filter_le _ _) (by simp)

def noDeferB (l : List Oper) : Bool := l.all fun o => match o.op with | .defer _ => false | _ => true
theorem noDefer {l : List Oper} (h : noDeferB l = true) {j : Nat} {o : Oper} (hj : l[j]? = some o) : ∀ c, o.op ≠ .defer c := fun c hc => by
  have := List.all_eq_true.1 h o (List.mem_of_getElem? hj)
  rw [hc] at this
  cases this
theorem uponIn_of_y (l0 : Nat) {o : Oper} {a : Act} {K : Value → World → Prop} {next : Act → World → Prop} {r : Result Next} (hn : ∀ v w', K v w' → next (a.put o.dst v) w') (h : yUpon P a K Q r) : o.uponIn (Fence.wide.inRound l0) 0 P a next Q r := by
  unfold yUpon at h
  unfold Oper.uponIn
  split at h
  · exact hn _ _ h
  · exact hn _ _ h
  · refine ⟨fun h => by simp [Fence.wide, Fence.inRound] at h, (CallsIn.inRound l0 (callsIn_wide.2 h)).mono fun e w'' h' => ?_⟩
    cases e with
    | returned v => exact hn _ _ h'
    | panicked c => exact h'
    | outgrown => exact h'
  · exact h
  · exact h.elim
end

section
variable {P : Program} {Q : Exit → Act → World → Prop} {W : World} {S : List Nat} {l0 : Nat}
theorem wpIn_region_st {id : Nat} {a : Act} {w : World} {l : List Oper} (hm : P.follows .mixedOrders = true) (hB : downB .any l.toArray = true) (hF : freshB l = true) (hnd : noDeferB l = true)
    (T : (Nat → Bool) → (Nat → Value) → List Res) (V : (Nat → Bool) → (Nat → Value) → Prop)
    (h0 : ∀ u, V (fun _ => false) u ∧ Sep W S (T (fun _ => false) u) w)
    (hs : ∀ j o, l[j]? = some o → StStep P Q l a W S T V j o)
    (he : ∀ D u w, (∀ j, j < l.length → D j = true) → V D u → Sep W S (T D u) w → Q .normal (puts u 0 l a) w) : (Code.region id l.toArray true).wpIn (Fence.wide.inRound l0) 0 P Q a w := by
  refine wpIn_region_inv (l0 := l0) hm hB (fun L a' w' => ∃ (D : Nat → Bool) (u : Nat → Value), (∀ i, i < l.length → D i = L.getD i false) ∧ (∀ i, l.length ≤ i → D i = false) ∧ L.size = l.length ∧
    (∀ k o, l[k]? = some o → L.getD k false = true → ∀ e ∈ o.after.toList, Region.binds .any e = true → L.getD e.on false = true) ∧ a' = puts u 0 l a ∧ V D u ∧ Sep W S (T D u) w') ?_ ?_ ?_
  · obtain ⟨u, hu⟩ : ∃ u : Nat → Value, u = fun i => match l[i]? with | some o => (match o.dst with | some d => a.tmps.getD d undef | none => undef) | none => undef := ⟨_, rfl⟩
    refine ⟨fun _ => false, u, fun i _ => (getD_replicate_false _ _).symm, fun _ _ => rfl, by simp, fun k o _ hl => (by rw [getD_replicate_false] at hl; cases hl), ?_, (h0 u).1, (h0 u).2.drew⟩
    refine (puts_start l _ 0 a (fun j o hj d hd => ?_)).symm
    rw [hu]
    simp only [Nat.zero_add, hj, hd]
  · rintro L a' w' i ⟨D, u, hD, hD2, hsz, hcl, rfl, hV, hS⟩ hi
    obtain ⟨hun, o, ho, hall⟩ := mem_ready.1 hi
    have ho' : l[i]? = some o := by simpa using ho
    have hil : i < l.length := (List.getElem?_eq_some_iff.1 ho').1
    have hDi : D i = false := by rw [hD i hil]; exact getD_both hun
    have hlt : ∀ e ∈ o.after.toList, Region.binds .any e = true → e.on < l.length := fun e he hb => by
      have h1 := hall e (by simpa using he) hb
      rcases Nat.lt_or_ge e.on l.length with h | h
      · exact h
      · rw [← hsz] at h
        simp [Array.getElem?_eq_none h] at h1
    have hdep : ∀ e ∈ o.after.toList, Region.binds .any e = true → D e.on = true := fun e he hb => by
      rw [hD _ (hlt e he hb)]
      exact hall e (by simpa using he) hb
    have hlate : ∀ k o', l[k]? = some o' → (∃ e ∈ o'.after.toList, Region.binds .any e = true ∧ e.on = i) → D k = false := by
      rintro k o' hk ⟨e, he, hb, rfl⟩
      have hkl : k < l.length := (List.getElem?_eq_some_iff.1 hk).1
      cases hDk : D k with
      | false => rfl
      | true =>
        rw [hD k hkl] at hDk
        have := hcl k o' hk hDk e he hb
        rw [getD_both hun] at this
        cases this
    have hq := hs i o ho' D u w' (fun v w'' => V (fset D i true) (fset u i v) ∧ Sep W S (T (fset D i true) (fset u i v)) w'') hDi hdep hlate hV hS (fun v w'' h1 h2 => ⟨h1, h2⟩)
    have hnext : ∀ v w'', (V (fset D i true) (fset u i v) ∧ Sep W S (T (fset D i true) (fset u i v)) w'') →
        ∃ (D' : Nat → Bool) (u' : Nat → Value), (∀ k, k < l.length → D' k = (L.setIfInBounds i true).getD k false) ∧ (∀ k, l.length ≤ k → D' k = false) ∧ (L.setIfInBounds i true).size = l.length ∧
          (∀ k o, l[k]? = some o → (L.setIfInBounds i true).getD k false = true → ∀ e ∈ o.after.toList, Region.binds .any e = true → (L.setIfInBounds i true).getD e.on false = true) ∧ (puts u 0 l a).put o.dst v = puts u' 0 l a ∧ V D' u' ∧ Sep W S (T D' u') w'' := by
      rintro v w'' ⟨h1, h2⟩
      refine ⟨fset D i true, fset u i v, fun k hk => ?_, fun k hk => ?_, by simp [hsz], fun k ok hk hl e he hb => ?_, ?_, h1, h2⟩
      · unfold fset
        by_cases hki : k = i
        · subst hki
          rw [if_pos rfl]
          simp [hsz, hil]
        · rw [if_neg hki, hD k hk]
          simp only [Array.getD_eq_getD_getElem?, Array.getElem?_setIfInBounds_ne (fun e => hki e.symm)]
      · unfold fset
        rw [if_neg (by omega)]
        exact hD2 k hk
      · by_cases hki : k = i
        · subst hki
          rw [ho'] at hk
          injection hk with hk
          subst hk
          exact getD_set_true (hall e (by simpa using he) hb)
        · have : L.getD k false = true := by
            rw [← hl]
            simp only [Array.getD_eq_getD_getElem?, Array.getElem?_setIfInBounds_ne (fun e => hki e.symm)]
          exact getD_set_true (hcl k ok hk this e he hb)
      · rw [puts_one v l u 0 i a o hF ho']
        refine puts_congr _ _ l 0 a fun k _ => ?_
        simp only [fset, Nat.zero_add]
    unfold wpOpIn
    rw [ho]
    simp only
    split
    · rename_i hw
      rw [if_pos hw] at hq
      exact ⟨fun _ _ => trivial, by rw [show (Fence.wide.inRound l0).round = some l0 from rfl, Oper.semAt_some l0 _ _ (noDefer hnd ho')]; exact uponIn_of_y l0 hnext hq⟩
    · rename_i hw
      rw [if_neg hw] at hq
      exact ⟨fun _ _ => trivial, hnext _ _ hq⟩
  · rintro L a' w' ⟨D, u, hD, _, hsz, _, rfl, hV, hS⟩ hr
    exact he D u w' (fun j hj => by rw [hD j hj]; exact hr j (by simpa using hj)) hV hS

/-- The same, by what is told of each value. -/
theorem wpIn_region_st2 {id : Nat} {a : Act} {w : World} {l : List Oper} (hm : P.follows .mixedOrders = true) (hB : downB .any l.toArray = true) (hF : freshB l = true) (hnd : noDeferB l = true)
    (T : (Nat → Bool) → (Nat → Value) → List Res) (pf : Nat → Value → Prop)
    (h0 : ∀ u, Sep W S (T (fun _ => false) u) w)
    (hs : ∀ j o, l[j]? = some o → ∀ (D : Nat → Bool) (u : Nat → Value) (w : World) (K : Value → World → Prop), D j = false → (∀ i ∈ depsOf o, D i = true ∧ pf i (u i)) → (∀ k ∈ lateOf l j, D k = false) → Sep W S (T D u) w →
      (∀ v w', pf j v → Sep W S (T (fset D j true) (fset u j v)) w' → K v w') →
      (if Region.wanted o (yielded l.toArray (puts u 0 l a).tmps) then yUpon P (puts u 0 l a) K Q ((execOp (puts u 0 l a).eval o).run P w) else K undef w))
    (he : ∀ D u w, (∀ j, j < l.length → D j = true ∧ pf j (u j)) → Sep W S (T D u) w → Q .normal (puts u 0 l a) w) : (Code.region id l.toArray true).wpIn (Fence.wide.inRound l0) 0 P Q a w := by
  refine wpIn_region_st hm hB hF hnd T (fun D u => ∀ i, D i = true → pf i (u i)) (fun u => ⟨fun i h => by simp at h, h0 u⟩) ?_ (fun D u w hD hV hS => he D u w (fun j hj => ⟨hD j hj, hV j (hD j hj)⟩) hS)
  intro j o hj D u w K hDj hdep hlate hV hS hK
  refine hs j o hj D u w K hDj (fun i hi => ?_) (fun k hk => ?_) hS (fun v w' hp hs' => hK v w' (fun i hi => ?_) hs')
  · obtain ⟨e, he, rfl⟩ := List.mem_map.1 hi
    obtain ⟨he1, he2⟩ := List.mem_filter.1 he
    have := hdep e he1 he2
    exact ⟨this, hV _ this⟩
  · obtain ⟨hk1, hk2⟩ := List.mem_filter.1 hk
    cases hlk : l[k]? with
    | none => rw [hlk] at hk2; cases hk2
    | some o' =>
      rw [hlk] at hk2
      simp only [List.contains_iff_mem] at hk2
      obtain ⟨e, he, he3⟩ := List.mem_map.1 hk2
      obtain ⟨he1, he2⟩ := List.mem_filter.1 he
      exact hlate k o' hlk ⟨e, he1, he2, he3⟩
  · unfold fset at hi ⊢
    by_cases hij : i = j
    · subst hij
      rw [if_pos rfl]
      exact hp
    · rw [if_neg hij] at hi ⊢
      exact hV i hi

theorem wpIn_region_st3 {id : Nat} {a : Act} {w : World} {l : List Oper} (hm : P.follows .mixedOrders = true) (hB : downB .any l.toArray = true) (hF : freshB l = true) (hnd : noDeferB l = true)
    (T : (Nat → Bool) → (Nat → Value) → List Res) (pf : Nat → Value → Prop)
    (h0 : ∀ u, Sep W S (T (fun _ => false) u) w)
    (hs : AllFrom (StOp P Q l a W S T pf) 0 l)
    (he : ∀ D u w, (∀ j, j < l.length → D j = true ∧ pf j (u j)) → Sep W S (T D u) w → Q .normal (puts u 0 l a) w) : (Code.region id l.toArray true).wpIn (Fence.wide.inRound l0) 0 P Q a w :=
  wpIn_region_st2 hm hB hF hnd T pf h0 (fun j o hj => by
    have := hs.get j o hj
    rw [Nat.zero_add] at this
    intro D u w K h1 h2 h3
    exact this D u w K h1 (fun i hi => h2 i (by simpa using hi)) (fun k hk => h3 k (by simpa using hk))) he
end
end Go.Proofs.Ytbdomdmnjclpdaa
