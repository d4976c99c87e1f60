/-
  Things in memory that lie apart: what a walk knows of memory, as one list.
-/
import Derived.Test.YtaophnicdbmojaaAwk2
set_option linter.unusedVariables false
set_option linter.unusedSimpArgs false
set_option maxRecDepth 100000
namespace Go.Proofs.Ytaophnicdbmojaa
open Go.RowKit Go.Shelf

/-- A thing in memory: the blocks that it lies in; what it says speaks of these alone. -/
structure Res where
  blocks : List Nat
  holds : World → Prop
  lt : ∀ w, holds w → ∀ k ∈ blocks, k < w.heap.size
  same : ∀ w w', holds w → (∀ k ∈ blocks, w'.heap[k]? = w.heap[k]?) → holds w'

def devR (d : DevI) (s : St) : Res := ⟨d.blocks, fun w => Dev w d s, fun _ h => h.lt, fun _ _ h e => h.same e⟩
def blkR (g : Nat) (t : TypeId) (cs : Array Value) : Res :=
  ⟨[g], fun w => Blk w g t cs, fun _ h k hk => by simp at hk; subst hk; exact h.lt, fun _ _ h e => (e g (by simp)).trans h⟩
/-- Nothing: where a thing is not wanted any more. -/
def noR : Res := ⟨[], fun _ => True, fun _ _ k hk => by simp at hk, fun _ _ _ _ => trivial⟩

/-- Since W, but for the blocks of S, nothing that was there has turned; these things hold, and lie apart. -/
structure Sep (W : World) (S : List Nat) (L : List Res) (w : World) : Prop where
  keep : Keep W.heap.size S W w
  all : ∀ (i : Nat) (r : Res), L[i]? = some r → r.holds w
  apart : ∀ (i j : Nat) (a b : Res), i ≠ j → L[i]? = some a → L[j]? = some b → ∀ k ∈ a.blocks, k ∉ b.blocks
  old : ∀ (i : Nat) (r : Res), L[i]? = some r → ∀ k ∈ r.blocks, k < W.heap.size → k ∈ S

section
variable {W w w' : World} {S : List Nat} {L L' : List Res} {r r' : Res}

theorem Sep.start (W : World) (S : List Nat) : Sep W S [] W := ⟨Keep.refl _ _ _, by simp, by simp, by simp⟩
theorem Sep.one (h : r.holds W) : Sep W r.blocks [r] W := by
  refine ⟨Keep.refl _ _ _, ?_, ?_, ?_⟩
  · intro i r' hi
    rcases i with _ | i <;> simp at hi
    exact hi ▸ h
  · intro i j a b hne hi hj
    rcases i with _ | i <;> rcases j with _ | j <;> simp at hi hj hne
  · intro i r' hi k hk _
    rcases i with _ | i <;> simp at hi
    exact hi ▸ hk
theorem Sep.le (h : Sep W S L w) : W.heap.size ≤ w.heap.size := h.keep.size

/-- Anything may happen to one thing, and new memory be made. -/
theorem Sep.step (h : Sep W S L w) {i : Nat} (hi : L[i]? = some r) (hk : Keep w.heap.size r.blocks w w') (hr : r'.holds w') (hb : ∀ k ∈ r'.blocks, k ∈ r.blocks ∨ w.heap.size ≤ k) : Sep W S (L.set i r') w' := by
  have hil : i < L.length := by
    rcases Nat.lt_or_ge i L.length with h | h
    · exact h
    · rw [List.getElem?_eq_none h] at hi; cases hi
  have hget : ∀ j x, (L.set i r')[j]? = some x → (j = i ∧ x = r') ∨ (j ≠ i ∧ L[j]? = some x) := by
    intro j x hx
    rw [List.getElem?_set] at hx
    by_cases hji : i = j
    · subst hji; simp [hil] at hx; exact .inl ⟨rfl, hx.symm⟩
    · simp [hji] at hx; exact .inr ⟨fun e => hji e.symm, hx⟩
  refine ⟨h.keep.join hk h.keep.size (fun k hlt hm => h.old i r hi k hm hlt), ?_, ?_, ?_⟩
  · intro j x hx
    rcases hget j x hx with ⟨_, rfl⟩ | ⟨hne, hx⟩
    · exact hr
    · refine x.same w w' (h.all j x hx) fun k hkx => hk.block k (x.lt w (h.all j x hx) k hkx) (fun hm => h.apart i j r x (fun e => hne e.symm) hi hx k hm hkx)
  · intro j1 j2 a b hne ha hb' k hka hkb
    rcases hget j1 a ha with ⟨e1, e1'⟩ | ⟨h1, ga⟩
    · rcases hget j2 b hb' with ⟨e2, e2'⟩ | ⟨h2, gb⟩
      · exact hne (e1.trans e2.symm)
      · subst e1 e1'
        rcases hb k hka with hm | hm
        · exact h.apart _ _ _ _ hne hi gb k hm hkb
        · have := b.lt w (h.all _ _ gb) k hkb; omega
    · rcases hget j2 b hb' with ⟨e2, e2'⟩ | ⟨h2, gb⟩
      · subst e2 e2'
        rcases hb k hkb with hm | hm
        · exact h.apart _ _ _ _ hne ga hi k hka hm
        · have := a.lt w (h.all _ _ ga) k hka; omega
      · exact h.apart _ _ _ _ hne ga gb k hka hkb
  · intro j x hx k hkx hlt
    rcases hget j x hx with ⟨_, rfl⟩ | ⟨hne, hx⟩
    · rcases hb k hkx with hm | hm
      · exact h.old i r hi k hm hlt
      · have := h.keep.size; omega
    · exact h.old j x hx k hkx hlt

/-- New memory was made, nothing else. -/
theorem Sep.grow (h : Sep W S L w) (hk : Keep w.heap.size [] w w') : Sep W S L w' :=
  ⟨h.keep.join hk h.keep.size (by simp), fun i r hi => r.same w w' (h.all i r hi) fun k hm => hk.block k (r.lt w (h.all i r hi) k hm) (by simp), h.apart, h.old⟩
/-- A new thing. -/
theorem Sep.add (h : Sep W S L w) (hk : Keep w.heap.size [] w w') (hr : r.holds w') (hb : ∀ k ∈ r.blocks, w.heap.size ≤ k) : Sep W S (L ++ [r]) w' := by
  have hg := h.grow hk
  have hget : ∀ j x, (L ++ [r])[j]? = some x → (j = L.length ∧ x = r) ∨ (j ≠ L.length ∧ L[j]? = some x) := by
    intro j x hx
    rcases Nat.lt_trichotomy j L.length with hlt | rfl | hgt
    · rw [List.getElem?_append_left hlt] at hx; exact .inr ⟨by omega, hx⟩
    · simp at hx; exact .inl ⟨rfl, hx.symm⟩
    · rw [List.getElem?_eq_none (by simp; omega)] at hx; cases hx
  refine ⟨hg.keep, ?_, ?_, ?_⟩
  · intro j x hx
    rcases hget j x hx with ⟨_, rfl⟩ | ⟨_, hx⟩
    · exact hr
    · exact hg.all j x hx
  · intro j1 j2 a b hne ha hb' k hka hkb
    rcases hget j1 a ha with ⟨e1, e1'⟩ | ⟨h1, ga⟩
    · rcases hget j2 b hb' with ⟨e2, e2'⟩ | ⟨h2, gb⟩
      · exact hne (e1.trans e2.symm)
      · subst e1'
        have := hb k hka; have := b.lt w (h.all _ _ gb) k hkb; omega
    · rcases hget j2 b hb' with ⟨e2, e2'⟩ | ⟨h2, gb⟩
      · subst e2'
        have := hb k hkb; have := a.lt w (h.all _ _ ga) k hka; omega
      · exact h.apart _ _ _ _ hne ga gb k hka hkb
  · intro j x hx k hkx hlt
    rcases hget j x hx with ⟨_, rfl⟩ | ⟨_, hx⟩
    · have := hb k hkx; have := h.keep.size; omega
    · exact h.old j x hx k hkx hlt
/-- The same memory. -/
theorem Sep.drew (h : Sep W S L w) : Sep W S L w.drew := h.grow (Keep.refl _ _ _).drew
theorem Sep.drewN (h : Sep W S L w) (n : Nat) : Sep W S L (w.drewN n) := h.grow ((Keep.refl _ _ _).drewN n)
theorem Sep.undrew (h : Sep W S L w.drew) : Sep W S L w :=
  ⟨⟨h.keep.os, h.keep.tape, h.keep.output, h.keep.size, h.keep.block⟩, fun i r hi => r.same w.drew w (h.all i r hi) fun _ _ => rfl, h.apart, h.old⟩
theorem Sep.alloc (h : Sep W S L w) (o : Obj) : Sep W S L (w.alloc o) := h.grow ((Keep.refl _ _ _).alloc (Nat.le_refl _) o)
theorem Sep.new (h : Sep W S L w) (t : TypeId) (cs : Array Value) : Sep W S (L ++ [blkR w.heap.size t cs]) (w.alloc (.cells cs t)) :=
  h.add ((Keep.refl _ _ _).alloc (Nat.le_refl _) _) (r := blkR w.heap.size t cs) (Blk.new w t cs) (by simp [blkR])
/-- A cell of a block is another one. -/
theorem Sep.put (h : Sep W S L w) {i g : Nat} {t : TypeId} {cs : Array Value} (hi : L[i]? = some (blkR g t cs)) (o : Nat) (u : Value) : Sep W S (L.set i (blkR g t (cs.setIfInBounds o u))) (w.setCell ⟨g, o, none⟩ u) := by
  have hb : Blk w g t cs := h.all i _ hi
  refine h.step hi (r' := blkR g t (cs.setIfInBounds o u)) ((Keep.refl _ _ _).setCell (by simp [blkR]) _) (hb.set_ o u) (fun _ hk => .inl hk)
theorem Sep.dev (h : Sep W S L w) (i : Nat) {d : DevI} {s : St} (hi : L[i]? = some (devR d s)) : Dev w d s := h.all i _ hi
theorem Sep.blk (h : Sep W S L w) (i : Nat) {g : Nat} {t : TypeId} {cs : Array Value} (hi : L[i]? = some (blkR g t cs)) : Blk w g t cs := h.all i _ hi
theorem Sep.did (h : Sep W S L w) {i : Nat} {d : DevI} {s s' : St} (hi : L[i]? = some (devR d s)) (h1 : Dev w' d s') (hk : Keep w.heap.size d.blocks w w') : Sep W S (L.set i (devR d s')) w' :=
  h.step hi (r' := devR d s') hk h1 (fun _ hk => .inl hk)
theorem Sep.ne (h : Sep W S L w) (i j : Nat) {g g' : Nat} {t t' : TypeId} {cs cs' : Array Value} (hi : L[i]? = some (blkR g t cs)) (hj : L[j]? = some (blkR g' t' cs')) (hne : i ≠ j) : g ≠ g' :=
  fun e => h.apart i j _ _ hne hi hj g (by simp [blkR]) (by simp [blkR, e])
/-- Two things turn. -/
theorem Sep.step2 (h : Sep W S L w) {i j : Nat} {q q' : Res} (hij : i ≠ j) (hi : L[i]? = some r) (hj : L[j]? = some q) (hk : Keep w.heap.size (r.blocks ++ q.blocks) w w') (hr : r'.holds w') (hq : q'.holds w')
    (hb : ∀ k ∈ r'.blocks, k ∈ r.blocks) (hb2 : ∀ k ∈ q'.blocks, k ∈ q.blocks) : Sep W S ((L.set i r').set j q') w' := by
  have lt_of : ∀ {i : Nat} {x : Res}, L[i]? = some x → i < L.length := fun {i x} hx => (List.getElem?_eq_some_iff.1 hx).1
  have hil := lt_of hi
  have hjl := lt_of hj
  have hget : ∀ (l : Nat) (x : Res), ((L.set i r').set j q')[l]? = some x → (l = j ∧ x = q') ∨ (l = i ∧ l ≠ j ∧ x = r') ∨ (l ≠ i ∧ l ≠ j ∧ L[l]? = some x) := by
    intro l x hx
    rw [List.getElem?_set] at hx
    by_cases hlj : j = l
    · subst hlj; simp [hjl] at hx; exact .inl ⟨rfl, hx.symm⟩
    · simp [hlj] at hx
      rw [List.getElem?_set] at hx
      by_cases hli : i = l
      · subst hli; simp [hil] at hx; exact .inr (.inl ⟨rfl, fun e => hlj e.symm, hx.symm⟩)
      · simp [hli] at hx; exact .inr (.inr ⟨fun e => hli e.symm, fun e => hlj e.symm, hx⟩)
  have src : ∀ (l : Nat) (x : Res), ((L.set i r').set j q')[l]? = some x → ∃ y : Res, L[l]? = some y ∧ ∀ k ∈ x.blocks, k ∈ y.blocks := by
    intro l x hx
    rcases hget l x hx with ⟨rfl, rfl⟩ | ⟨rfl, _, rfl⟩ | ⟨_, _, hx⟩
    · exact ⟨q, hj, hb2⟩
    · exact ⟨r, hi, hb⟩
    · exact ⟨x, hx, fun _ h => h⟩
  refine ⟨h.keep.join hk h.keep.size (fun k hlt hm => ?_), ?_, ?_, ?_⟩
  · rcases List.mem_append.1 hm with hm | hm
    · exact h.old i r hi k hm hlt
    · exact h.old j q hj k hm hlt
  · intro l x hx
    rcases hget l x hx with ⟨rfl, rfl⟩ | ⟨rfl, _, rfl⟩ | ⟨h1, h2, hx⟩
    · exact hq
    · exact hr
    · refine x.same w w' (h.all l x hx) fun k hkx => hk.block k (x.lt w (h.all l x hx) k hkx) (fun hm => ?_)
      rcases List.mem_append.1 hm with hm | hm
      · exact h.apart i l r x (fun e => h1 e.symm) hi hx k hm hkx
      · exact h.apart j l q x (fun e => h2 e.symm) hj hx k hm hkx
  · intro l1 l2 a b hne ha hb' k hka hkb
    obtain ⟨y1, e1, f1⟩ := src l1 a ha
    obtain ⟨y2, e2, f2⟩ := src l2 b hb'
    exact h.apart l1 l2 y1 y2 hne e1 e2 k (f1 k hka) (f2 k hkb)
  · intro l x hx k hkx hlt
    obtain ⟨y, e, f⟩ := src l x hx
    exact h.old l y e k (f k hkx) hlt
/-- The first things alone. -/
theorem Sep.take (h : Sep W S L w) (n : Nat) : Sep W S (L.take n) w := by
  have g : ∀ (i : Nat) (r : Res), (L.take n)[i]? = some r → L[i]? = some r := by
    intro i r hi
    rw [List.getElem?_take] at hi
    split at hi
    · exact hi
    · cases hi
  exact ⟨h.keep, fun i r hi => h.all i r (g i r hi), fun i j a b hne hi hj => h.apart i j a b hne (g i a hi) (g j b hj), fun i r hi => h.old i r (g i r hi)⟩
/-- One thing is forgotten. -/
theorem Sep.forget (h : Sep W S L w) (i : Nat) : Sep W S (L.set i noR) w := by
  cases hr : L[i]? with
  | none =>
    have : L.set i noR = L := by
      apply List.ext_getElem?
      intro j
      rw [List.getElem?_set]
      by_cases hij : i = j
      · subst hij
        have : ¬ i < L.length := fun hl => by rw [List.getElem?_eq_getElem hl] at hr; cases hr
        simp [this]
      · simp [hij]
    rw [this]; exact h
  | some r => exact h.step hr (r' := noR) (Keep.refl _ _ _) trivial (by simp [noR])
/-- A call that knows what it needs of one thing, and leaves another one. -/
theorem Sep.app {S' : List Nat} {L'' : List Res} (h : Sep W S L w) (h' : Sep w S' L'' w') {i : Nat} (hi : L[i]? = some r) (hS : ∀ k ∈ S', k ∈ r.blocks) {j : Nat} (hj : L''[j]? = some r') : Sep W S (L.set i r') w' := by
  refine h.step hi (h'.keep.sub fun k _ hk => hS k hk) (h'.all j r' hj) fun k hk => ?_
  rcases Nat.lt_or_ge k w.heap.size with hlt | hge
  · exact .inl (hS k (h'.old j r' hj k hk hlt))
  · exact .inr hge
end
end Go.Proofs.Ytaophnicdbmojaa
