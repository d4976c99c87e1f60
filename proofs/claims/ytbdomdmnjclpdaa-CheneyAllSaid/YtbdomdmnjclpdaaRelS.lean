/-
  A slice that grows, as a thing in memory; append.
  Regions that draw their order: operations that turn things that lie apart, each thing turned by one operation.
-/
import Derived.Laws.AppendOwn
import Derived.Deep.DeepAppendRoom
import Derived.Maps.AppendAt
import Derived.Test.YtbdomdmnjclpdaaSt
import Derived.Test.YtbdomdmnjclpdaaRel
set_option linter.unusedVariables false
set_option linter.unusedSimpArgs false
set_option maxRecDepth 100000
namespace Go.Proofs.Ytbdomdmnjclpdaa
open Go.RowKit Go.Shelf

/-- A slice with a block of its own (or none yet), that reads so. -/
def rowR (e : TypeId) (v : Value) (xs : List Value) : Res :=
  ⟨v.ownBlock.toList, fun w => w.ownsRow 0 e 1 v xs.length xs,
   fun w h k hk => (h.lt k (by simpa using hk)).2,
   fun w w' h hs => by
    refine ⟨h.1, ?_⟩
    rcases h.2 with hn | ⟨g, cap, cur, hv, hb, hg, hr⟩
    · exact .inl hn
    · exact .inr ⟨g, cap, cur, hv, hb, (hs g (by rw [hv]; simp [Value.ownBlock])).trans hg, hr⟩⟩

section
variable {W w : World} {S : List Nat} {L : List Res} {e : TypeId} {v : Value} {xs : List Value}
theorem Keep.of_grown {w' : World} (h : w.grownBy w' v.ownBlock) : Keep w.heap.size v.ownBlock.toList w w' :=
  ⟨h.os, h.tape, h.output, h.size, fun k hk hm => h.block k hk fun he => hm (by rw [← he]; simp)⟩
/-- No slice yet. -/
theorem Sep.nilRow (h : Sep W S L w) (e : TypeId) : Sep W S (L ++ [rowR e (.slice none 0 0) []]) w :=
  h.add (Keep.refl _ _ _) (r := rowR e (.slice none 0 0) []) (World.ownsRow_nil w 0 e 1) (by simp [rowR, Value.ownBlock])
theorem Sep.row (h : Sep W S L w) (i : Nat) (hi : L[i]? = some (rowR e v xs)) : w.ownsRow 0 e 1 v xs.length xs := h.all i _ hi
theorem rowR_rd {w : World} (h : w.ownsRow 0 e 1 v xs.length xs) : Rd w v xs := by
  rcases h.2 with ⟨hv, hn⟩ | ⟨g, cap, cur, hv, _, hg, _⟩
  · have hx : xs = [] := List.eq_nil_of_length_eq_zero hn
    subst hx
    exact ⟨none, 0, hv, fun h => absurd h (by simp)⟩
  · subst hv
    refine ⟨some ⟨g, 0, none⟩, cap, rfl, fun _ => ⟨g, 0, rfl, fun j u hu => ?_⟩⟩
    have := h.cells (g := g) rfl j u hu
    rw [show (⟨g, 0, none⟩ : Addr).add j = ⟨g, j, none⟩ by unfold Addr.add; split <;> simp_all] at this
    simpa using this
theorem rowR_val {w : World} (h : w.ownsRow 0 e 1 v xs.length xs) : ∃ A c, v = .slice A xs.length c := by
  rcases h.2 with ⟨hv, hn⟩ | ⟨g, cap, cur, hv, _⟩
  · exact ⟨none, 0, by rw [hv, hn]⟩
  · exact ⟨_, cap, hv⟩

variable {P : Program}
/-- append, run. -/
theorem run_append_row (w : World) {t ty : TypeId} {i : TypeInfo} {z : Value} {bytes : Nat} (ht : P.underlying t = some (.slice e)) (hi : P.info? e = some i) (hz : i.zero = some z) (hsize : i.size = 1) (hby : i.bytes = bytes) (hzs : z.cells.size = 1)
    (hown : w.ownsRow 0 e 1 v xs.length xs) (a : Addr) (m c : Nat) (news : List Value) (hl : news.length = m) (hm : 0 < m) (hnews : ∀ j u, news[j]? = some u → w.cell? (a.add j) = some u) (h1 : ∀ u ∈ news, u.oneCell' = true)
    (h63 : xs.length + m ≤ 1099511627776) (hb8 : bytes ≤ 64) :
    ∃ v' w', (Builtin.append_ #[t, t] ty #[v, .slice (some a) m c]).run P w = .ok v' w' ∧ w'.ownsRow 0 e 1 v' (xs ++ news).length (xs ++ news) ∧ Keep w.heap.size v.ownBlock.toList w w' ∧ (∀ k ∈ v'.ownBlock.toList, k ∈ v.ownBlock.toList ∨ w.heap.size ≤ k) := by
  have hlen : (xs ++ news).length = xs.length + m := by simp [hl]
  have hmax : xs.length + m ≤ maxLen := by simp only [maxLen]; omega
  have hbb : (xs.length + m) * bytes ≤ 140737488355328 := by
    have := Nat.mul_le_mul h63 hb8
    omega
  by_cases hn : v = .slice none 0 0
  · subst hn
    have hx0 : xs.length = 0 := by
      rcases hown.2 with ⟨_, h⟩ | ⟨g, cap, cur, hv, _⟩
      · exact h
      · cases hv
    have hx : xs = [] := List.eq_nil_of_length_eq_zero hx0
    subst hx
    obtain ⟨v', w', hr, h2, h3, _⟩ := run_append_own (P := P) w w.heap.size t ty e i z 1 bytes ht hi hz hsize hby hzs (by omega) (.slice none 0 0) 0 [] (World.ownsRow_nil w _ e 1) a m c news (by simpa using hl) hnews h1 (by simpa using hmax) (by simpa using hbb) (Nat.le_refl _)
    refine ⟨v', w', hr, ?_, Keep.of_grown h3, fun k hk => .inr (h2.lt k (by simpa using hk)).1⟩
    rw [hlen]
    refine ⟨h2.1, ?_⟩
    rcases h2.2 with h | ⟨g, cap, cur, hv, hb, hg, hr⟩
    · exact .inl h
    · exact .inr ⟨g, cap, cur, hv, Nat.zero_le _, hg, hr⟩
  · rcases hown.2 with ⟨hv, _⟩ | ⟨g, cap, cur, hv, hb, hg, hnc, hcm, hcs, htk⟩
    · exact absurd hv hn
    · subst hv
      by_cases hroom : xs.length + m ≤ cap
      · obtain ⟨w', hr, h2, h3⟩ := run_append_own_spare (P := P) w 0 t ty e i 1 ht hi hsize g xs.length cap xs hown a m c news (by simpa using hl) hnews h1 hroom
        rw [hlen]
        exact ⟨_, w', hr, h2, Keep.of_grown (v := .slice (some ⟨g, 0, none⟩) xs.length cap) h3, fun k hk => .inl (by simpa [Value.ownBlock] using hk)⟩
      · have holds : ∀ j u, xs[j]? = some u → w.cell? ((⟨g, 0, none⟩ : Addr).add j) = some u := hown.cells (g := g) rfl
        have hr := run_append_grow (P := P) w t ty e i z ht hi hz ⟨g, 0, none⟩ xs.length cap xs (by rw [hsize]; simp) holds a m c news (by rw [hsize]; simpa using hl) hnews (by omega) (by simp only [maxLen] at hmax; omega) (growslice_fits (by omega) (by rw [hby]; exact hbb))
        have hge := grownCap_ge w (xs.length + m) cap e
        have hcm2 := grownCap_le_maxLen w (xs.length + m) cap e hmax
        refine ⟨_, _, hr, ?_, ?_, fun k hk => .inr (by simp [Value.ownBlock] at hk; omega)⟩
        · rw [hlen]
          refine ⟨by rw [hlen]; simp, .inr ⟨w.heap.size, _, _, rfl, Nat.zero_le _, heap_alloc_new w.drew _, hge, hcm2, ?_, ?_⟩⟩
          · simp only [Array.size_append, List.size_toArray, size_zeroCells, hzs, hl]
            omega
          · simp only [Array.toList_append, List.append_assoc]
            rw [← List.append_assoc, show (xs.length + m) * 1 = (xs ++ news).length by rw [hlen]; simp]
            exact List.take_left
        · exact ⟨rfl, rfl, rfl, by simp, fun k hk _ => Below.heap_alloc w.drew _ k hk⟩
/-- append, as an operation that comes in its order. -/
theorem wpList_append {ops : Array Oper} {rest : List Oper} {o : Oper} {a : Act} {Q : Exit → Act → World → Prop} (HS : Sep W S L w) (i : Nat) (hi : L[i]? = some (rowR e v xs)) (hgd : o.guard = none) (s x : Operand) (t : TypeId)
    (ho : o.op = .call { callee := .builtin .append, args := #[s, x], argTypes := #[t, t] }) {z : Value} {bytes : Nat} (ht : P.underlying t = some (.slice e)) (hinfo : (P.info? e).map (fun i => (i.zero, i.size, i.bytes)) = some (some z, 1, bytes)) (hzs : z.cells.size = 1) (hb8 : bytes ≤ 64)
    (hs : a.eval s = v) (ad : Addr) (m c : Nat) (news : List Value) (hx : a.eval x = .slice (some ad) m c) (hl : news.length = m) (hm : 0 < m) (hnews : ∀ j u, news[j]? = some u → w.cell? (ad.add j) = some u) (h1 : ∀ u ∈ news, u.oneCell' = true)
    (h63 : xs.length + m ≤ 1099511627776)
    (h : ∀ v' w', Sep W S (L.set i (rowR e v' (xs ++ news))) w' → wpList P ops Q rest (a.put o.dst v') w') : wpList P ops Q (o :: rest) a w := by
  obtain ⟨i0, hi0, hz0, hz1, hz2⟩ := info_parts hinfo
  refine wpList_plain hgd fun _ hK => ?_
  obtain ⟨v', w', hr, h2, h3, h4⟩ := run_append_row (P := P) w (ty := o.type) ht hi0 hz0 hz1 hz2 hzs (HS.row i hi) ad m c news hl hm hnews h1 h63 hb8
  have hs2 := HS.step hi (r' := rowR e v' (xs ++ news)) h3 h2 h4
  unfold Oper.wp execOp
  simp only [ho, resolve, invoke, builtin, Sem.run_bind, Sem.run_pure, Result.andThen_ok, List.map_toArray, List.map_cons, List.map_nil, hs, hx, hr]
  exact hK _ _ (h v' w' hs2)
end
end Go.Proofs.Ytbdomdmnjclpdaa
set_option linter.unusedVariables false
set_option linter.unusedSimpArgs false
set_option maxRecDepth 100000
namespace Go.Proofs.Ytbdomdmnjclpdaa
open Go.RowKit

def fset {α : Type} (f : Nat → α) (j : Nat) (x : α) : Nat → α := fun i => if i = j then x else f i
theorem fset_same {α : Type} (f : Nat → α) (j : Nat) (x : α) : fset f j x j = x := if_pos rfl
theorem fset_ne {α : Type} (f : Nat → α) (x : α) {i j : Nat} (h : i ≠ j) : fset f j x i = f i := if_neg h

section
variable {P : Program} {Q : Exit → Act → World → Prop} {W : World} {S : List Nat}

/-- What is asked of operation j: in whatever state of the others. -/
def StStep (P : Program) (Q : Exit → Act → World → Prop) (l : List Oper) (a : Act) (W : World) (S : List Nat) (T : (Nat → Bool) → (Nat → Value) → List Res) (V : (Nat → Bool) → (Nat → Value) → Prop) (j : Nat) (o : Oper) : Prop :=
  ∀ (D : Nat → Bool) (u : Nat → Value) (w : World) (K : Value → World → Prop), D j = false → (∀ e ∈ o.after.toList, Region.binds .any e = true → D e.on = true) →
    (∀ k o', l[k]? = some o' → (∃ e ∈ o'.after.toList, Region.binds .any e = true ∧ e.on = j) → D k = false) → V D u → Sep W S (T D u) w →
    (∀ v w', V (fset D j true) (fset u j v) → Sep W S (T (fset D j true) (fset u j v)) w' → K v w') →
    (if Region.wanted o (yielded l.toArray (puts u 0 l a).tmps) then yUpon P (puts u 0 l a) K Q ((execOp (puts u 0 l a).eval o).run P w) else K undef w)

theorem wp_region_st {id : Nat} {a : Act} {w : World} {l : List Oper} (hm : P.follows .mixedOrders = true) (hB : downB .any l.toArray = true) (hF : freshB l = true)
    (T : (Nat → Bool) → (Nat → Value) → List Res) (V : (Nat → Bool) → (Nat → Value) → Prop)
    (h0 : ∀ u, V (fun _ => false) u ∧ Sep W S (T (fun _ => false) u) w)
    (hs : ∀ j o, l[j]? = some o → StStep P Q l a W S T V j o)
    (he : ∀ D u w, (∀ j, j < l.length → D j = true) → V D u → Sep W S (T D u) w → Q .normal (puts u 0 l a) w) : (Code.region id l.toArray true).wp P Q a w := by
  refine wp_region_inv hm hB (fun L a' w' => ∃ (D : Nat → Bool) (u : Nat → Value), (∀ i, i < l.length → D i = L.getD i false) ∧ (∀ i, l.length ≤ i → D i = false) ∧ L.size = l.length ∧
    (∀ k o, l[k]? = some o → L.getD k false = true → ∀ e ∈ o.after.toList, Region.binds .any e = true → L.getD e.on false = true) ∧ a' = puts u 0 l a ∧ V D u ∧ Sep W S (T D u) w') ?_ ?_ ?_
  · obtain ⟨u, hu⟩ : ∃ u : Nat → Value, u = fun i => match l[i]? with | some o => (match o.dst with | some d => a.tmps.getD d undef | none => undef) | none => undef := ⟨_, rfl⟩
    refine ⟨fun _ => false, u, fun i _ => (getD_replicate_false _ _).symm, fun _ _ => rfl, by simp, fun k o _ hl => (by rw [getD_replicate_false] at hl; cases hl), ?_, (h0 u).1, (h0 u).2.drew⟩
    refine (puts_start l _ 0 a (fun j o hj d hd => ?_)).symm
    rw [hu]
    simp only [Nat.zero_add, hj, hd]
  · rintro L a' w' i ⟨D, u, hD, hD2, hsz, hcl, rfl, hV, hS⟩ hi
    obtain ⟨hun, o, ho, hall⟩ := mem_ready.1 hi
    have ho' : l[i]? = some o := by simpa using ho
    have hil : i < l.length := (List.getElem?_eq_some_iff.1 ho').1
    have hDi : D i = false := by rw [hD i hil]; exact getD_both hun
    have hlt : ∀ e ∈ o.after.toList, Region.binds .any e = true → e.on < l.length := fun e he hb => by
      have h1 := hall e (by simpa using he) hb
      rcases Nat.lt_or_ge e.on l.length with h | h
      · exact h
      · rw [← hsz] at h
        simp [Array.getElem?_eq_none h] at h1
    have hdep : ∀ e ∈ o.after.toList, Region.binds .any e = true → D e.on = true := fun e he hb => by
      rw [hD _ (hlt e he hb)]
      exact hall e (by simpa using he) hb
    have hlate : ∀ k o', l[k]? = some o' → (∃ e ∈ o'.after.toList, Region.binds .any e = true ∧ e.on = i) → D k = false := by
      rintro k o' hk ⟨e, he, hb, rfl⟩
      have hkl : k < l.length := (List.getElem?_eq_some_iff.1 hk).1
      cases hDk : D k with
      | false => rfl
      | true =>
        rw [hD k hkl] at hDk
        have := hcl k o' hk hDk e he hb
        rw [getD_both hun] at this
        cases this
    have hq := hs i o ho' D u w' (fun v w'' => V (fset D i true) (fset u i v) ∧ Sep W S (T (fset D i true) (fset u i v)) w'') hDi hdep hlate hV hS (fun v w'' h1 h2 => ⟨h1, h2⟩)
    have hnext : ∀ v w'', (V (fset D i true) (fset u i v) ∧ Sep W S (T (fset D i true) (fset u i v)) w'') →
        ∃ (D' : Nat → Bool) (u' : Nat → Value), (∀ k, k < l.length → D' k = (L.setIfInBounds i true).getD k false) ∧ (∀ k, l.length ≤ k → D' k = false) ∧ (L.setIfInBounds i true).size = l.length ∧
          (∀ k o, l[k]? = some o → (L.setIfInBounds i true).getD k false = true → ∀ e ∈ o.after.toList, Region.binds .any e = true → (L.setIfInBounds i true).getD e.on false = true) ∧ (puts u 0 l a).put o.dst v = puts u' 0 l a ∧ V D' u' ∧ Sep W S (T D' u') w'' := by
      rintro v w'' ⟨h1, h2⟩
      refine ⟨fset D i true, fset u i v, fun k hk => ?_, fun k hk => ?_, by simp [hsz], fun k ok hk hl e he hb => ?_, ?_, h1, h2⟩
      · unfold fset
        by_cases hki : k = i
        · subst hki
          rw [if_pos rfl]
          simp [hsz, hil]
        · rw [if_neg hki, hD k hk]
          simp only [Array.getD_eq_getD_getElem?, Array.getElem?_setIfInBounds_ne (fun e => hki e.symm)]
      · unfold fset
        rw [if_neg (by omega)]
        exact hD2 k hk
      · by_cases hki : k = i
        · subst hki
          rw [ho'] at hk
          injection hk with hk
          subst hk
          exact getD_set_true (hall e (by simpa using he) hb)
        · have : L.getD k false = true := by
            rw [← hl]
            simp only [Array.getD_eq_getD_getElem?, Array.getElem?_setIfInBounds_ne (fun e => hki e.symm)]
          exact getD_set_true (hcl k ok hk this e he hb)
      · rw [puts_one v l u 0 i a o hF ho']
        refine puts_congr _ _ l 0 a fun k _ => ?_
        simp only [fset, Nat.zero_add]
    unfold wpOp
    rw [ho]
    simp only
    split
    · rename_i hw
      rw [if_pos hw] at hq
      exact .inl (upon_of_y hnext hq)
    · rename_i hw
      rw [if_neg hw] at hq
      exact hnext _ _ hq
  · rintro L a' w' ⟨D, u, hD, _, hsz, _, rfl, hV, hS⟩ hr
    exact he D u w' (fun j hj => by rw [hD j hj]; exact hr j (by simpa using hj)) hV hS

/-- What an operation waits for; what waits for it. -/
def depsOf (o : Oper) : List Nat := (o.after.toList.filter fun e => Region.binds .any e).map (·.on)
def lateOf (l : List Oper) (j : Nat) : List Nat := (List.range l.length).filter fun k => match l[k]? with | some o => (depsOf o).contains j | none => false

/-- The same, by what is told of each value. -/
theorem wp_region_st2 {id : Nat} {a : Act} {w : World} {l : List Oper} (hm : P.follows .mixedOrders = true) (hB : downB .any l.toArray = true) (hF : freshB l = true)
    (T : (Nat → Bool) → (Nat → Value) → List Res) (pf : Nat → Value → Prop)
    (h0 : ∀ u, Sep W S (T (fun _ => false) u) w)
    (hs : ∀ j o, l[j]? = some o → ∀ (D : Nat → Bool) (u : Nat → Value) (w : World) (K : Value → World → Prop), D j = false → (∀ i ∈ depsOf o, D i = true ∧ pf i (u i)) → (∀ k ∈ lateOf l j, D k = false) → Sep W S (T D u) w →
      (∀ v w', pf j v → Sep W S (T (fset D j true) (fset u j v)) w' → K v w') →
      (if Region.wanted o (yielded l.toArray (puts u 0 l a).tmps) then yUpon P (puts u 0 l a) K Q ((execOp (puts u 0 l a).eval o).run P w) else K undef w))
    (he : ∀ D u w, (∀ j, j < l.length → D j = true ∧ pf j (u j)) → Sep W S (T D u) w → Q .normal (puts u 0 l a) w) : (Code.region id l.toArray true).wp P Q a w := by
  refine wp_region_st hm hB hF T (fun D u => ∀ i, D i = true → pf i (u i)) (fun u => ⟨fun i h => by simp at h, h0 u⟩) ?_ (fun D u w hD hV hS => he D u w (fun j hj => ⟨hD j hj, hV j (hD j hj)⟩) hS)
  intro j o hj D u w K hDj hdep hlate hV hS hK
  refine hs j o hj D u w K hDj (fun i hi => ?_) (fun k hk => ?_) hS (fun v w' hp hs' => hK v w' (fun i hi => ?_) hs')
  · obtain ⟨e, he, rfl⟩ := List.mem_map.1 hi
    obtain ⟨he1, he2⟩ := List.mem_filter.1 he
    have := hdep e he1 he2
    exact ⟨this, hV _ this⟩
  · obtain ⟨hk1, hk2⟩ := List.mem_filter.1 hk
    cases hlk : l[k]? with
    | none => rw [hlk] at hk2; cases hk2
    | some o' =>
      rw [hlk] at hk2
      simp only [List.contains_iff_mem] at hk2
      obtain ⟨e, he, he3⟩ := List.mem_map.1 hk2
      obtain ⟨he1, he2⟩ := List.mem_filter.1 he
      exact hlate k o' hlk ⟨e, he1, he2, he3⟩
  · unfold fset at hi ⊢
    by_cases hij : i = j
    · subst hij
      rw [if_pos rfl]
      exact hp
    · rw [if_neg hij] at hi ⊢
      exact hV i hi

def AllFrom (R : Nat → Oper → Prop) : Nat → List Oper → Prop
  | _, [] => True
  | n, o :: l => R n o ∧ AllFrom R (n + 1) l
theorem AllFrom.get {R : Nat → Oper → Prop} : ∀ {l : List Oper} {n : Nat}, AllFrom R n l → ∀ j o, l[j]? = some o → R (n + j) o
  | [], _, _, j, o, h => by simp at h
  | o' :: l, n, h, 0, o, hj => by simp at hj; subst hj; exact h.1
  | o' :: l, n, h, j + 1, o, hj => by
    have := AllFrom.get h.2 j o (by simpa using hj)
    rwa [show n + 1 + j = n + (j + 1) by omega] at this

/-- What is asked of operation j. -/
def StOp (P : Program) (Q : Exit → Act → World → Prop) (l : List Oper) (a : Act) (W : World) (S : List Nat) (T : (Nat → Bool) → (Nat → Value) → List Res) (pf : Nat → Value → Prop) (j : Nat) (o : Oper) : Prop :=
  ∀ (D : Nat → Bool) (u : Nat → Value) (w : World) (K : Value → World → Prop), D j = false → (∀ i, (depsOf o).contains i = true → D i = true ∧ pf i (u i)) → (∀ k, (lateOf l j).contains k = true → D k = false) → Sep W S (T D u) w →
      (∀ v w', pf j v → Sep W S (T (fset D j true) (fset u j v)) w' → K v w') →
      (if Region.wanted o (yielded l.toArray (puts u 0 l a).tmps) then yUpon P (puts u 0 l a) K Q ((execOp (puts u 0 l a).eval o).run P w) else K undef w)
theorem wp_region_st3 {id : Nat} {a : Act} {w : World} {l : List Oper} (hm : P.follows .mixedOrders = true) (hB : downB .any l.toArray = true) (hF : freshB l = true)
    (T : (Nat → Bool) → (Nat → Value) → List Res) (pf : Nat → Value → Prop)
    (h0 : ∀ u, Sep W S (T (fun _ => false) u) w)
    (hs : AllFrom (StOp P Q l a W S T pf) 0 l)
    (he : ∀ D u w, (∀ j, j < l.length → D j = true ∧ pf j (u j)) → Sep W S (T D u) w → Q .normal (puts u 0 l a) w) : (Code.region id l.toArray true).wp P Q a w :=
  wp_region_st2 hm hB hF T pf h0 (fun j o hj => by
    have := hs.get j o hj
    rw [Nat.zero_add] at this
    intro D u w K h1 h2 h3
    exact this D u w K h1 (fun i hi => h2 i (by simpa using hi)) (fun k hk => h3 k (by simpa using hk))) he
end
end Go.Proofs.Ytbdomdmnjclpdaa
