/-
  How a word is left, by bits.
  Things in memory that lie apart: what a walk knows of memory, as one list.
  Several new things at once.
  slices.Equal of words.
  Plain laws of a device's state; Crash by bits, by one number; cells of slices.
-/
import Derived.Laws.BitsLemmas
import Derived.Laws.Bits64
import Derived.Test.YtbdomdmnjclpdaaAwk2
import Derived.Test.YtbdomdmnjclpdaaNvm
import Derived.Test.YtbdomdmnjclpdaaRel
set_option linter.unusedSimpArgs false
set_option linter.unusedVariables false
set_option maxRecDepth 100000
namespace Go.Proofs.Ytbdomdmnjclpdaa
open Go.RowKit Go.Shelf

def choiceOf (b : Int) (i : Nat) : Int := b / 2 ^ (2 * (i % 32)) % 4
theorem choiceOf_small (b : Int) (i : Nat) : 0 ≤ choiceOf b i ∧ choiceOf b i ≤ 3 := by unfold choiceOf; omega

theorem u64_wraps (n : Int) (h0 : 0 ≤ n) (h1 : n < 2 ^ 64) : IntKind.u64.wrap n = n := by rw [IntKind.wrap_u64]; omega
theorem and3 (x : Int) (h0 : 0 ≤ x) (h1 : x < 18446744073709551616) : bits .and .u64 x 3 = x % 4 := by
  have h := bits_mask .u64 64 (by decide) u64_wraps 2 (by decide) x h0 (by omega)
  simpa using h

theorem chooses_bits (G : FuncId) (g : Nat) (b : Int) (n : Nat) (B : List Nat) (hG : Enters Try.prog G) (hg : g ∉ B) (hn : n ≤ 1099511627776)
    (h : ∀ (k : Nat) (w : World), k ≤ 1099511627776 → w.cell? ⟨g, 0, none⟩ = some (.int .u64 b) → Calls Try.prog G #[.int .i64 k, .pointer (some ⟨g, 0, none⟩)] w fun e w' => e = .returned (.int .u8 (choiceOf b k)) ∧ w = w') :
    Chooses G #[.pointer (some ⟨g, 0, none⟩)] (choiceOf b) n (fun _ w => Blk w g 38 #[.int .u64 b]) [] B :=
  ⟨hG, fun k w hk hJ => (h k w (by omega) (by simpa using hJ.cell 0)).mono fun e w' ⟨h1, h2⟩ => ⟨h1, h2 ▸ hJ, h2 ▸ Keep.refl _ _ _⟩, fun k => by have := choiceOf_small b k; omega,
    fun _ _ _ hJ hk => hJ.keep hk hJ.lt hg, by simp⟩
end Go.Proofs.Ytbdomdmnjclpdaa
set_option linter.unusedVariables false
set_option linter.unusedSimpArgs false
set_option maxRecDepth 100000
namespace Go.Proofs.Ytbdomdmnjclpdaa
open Go.RowKit Go.Shelf

/-- A thing in memory: the blocks that it lies in; what it says speaks of these alone. -/
structure Res where
  blocks : List Nat
  holds : World → Prop
  lt : ∀ w, holds w → ∀ k ∈ blocks, k < w.heap.size
  same : ∀ w w', holds w → (∀ k ∈ blocks, w'.heap[k]? = w.heap[k]?) → holds w'

def devR (d : DevI) (s : St) : Res := ⟨d.blocks, fun w => Dev w d s, fun _ h => h.lt, fun _ _ h e => h.same e⟩
def blkR (g : Nat) (t : TypeId) (cs : Array Value) : Res :=
  ⟨[g], fun w => Blk w g t cs, fun _ h k hk => by simp at hk; subst hk; exact h.lt, fun _ _ h e => (e g (by simp)).trans h⟩
/-- Nothing: where a thing is not wanted any more. -/
def noR : Res := ⟨[], fun _ => True, fun _ _ k hk => by simp at hk, fun _ _ _ _ => trivial⟩

/-- Since W, but for the blocks of S, nothing that was there has turned; these things hold, and lie apart. -/
structure Sep (W : World) (S : List Nat) (L : List Res) (w : World) : Prop where
  keep : Keep W.heap.size S W w
  all : ∀ (i : Nat) (r : Res), L[i]? = some r → r.holds w
  apart : ∀ (i j : Nat) (a b : Res), i ≠ j → L[i]? = some a → L[j]? = some b → ∀ k ∈ a.blocks, k ∉ b.blocks
  old : ∀ (i : Nat) (r : Res), L[i]? = some r → ∀ k ∈ r.blocks, k < W.heap.size → k ∈ S

section
variable {W w w' : World} {S : List Nat} {L L' : List Res} {r r' : Res}

theorem Sep.start (W : World) (S : List Nat) : Sep W S [] W := ⟨Keep.refl _ _ _, by simp, by simp, by simp⟩
theorem Sep.one (h : r.holds W) : Sep W r.blocks [r] W := by
  refine ⟨Keep.refl _ _ _, ?_, ?_, ?_⟩
  · intro i r' hi
    rcases i with _ | i <;> simp at hi
    exact hi ▸ h
  · intro i j a b hne hi hj
    rcases i with _ | i <;> rcases j with _ | j <;> simp at hi hj hne
  · intro i r' hi k hk _
    rcases i with _ | i <;> simp at hi
    exact hi ▸ hk
theorem Sep.le (h : Sep W S L w) : W.heap.size ≤ w.heap.size := h.keep.size

/-- Anything may happen to one thing, and new memory be made. -/
theorem Sep.step (h : Sep W S L w) {i : Nat} (hi : L[i]? = some r) (hk : Keep w.heap.size r.blocks w w') (hr : r'.holds w') (hb : ∀ k ∈ r'.blocks, k ∈ r.blocks ∨ w.heap.size ≤ k) : Sep W S (L.set i r') w' := by
  have hil : i < L.length := by
    rcases Nat.lt_or_ge i L.length with h | h
    · exact h
    · rw [List.getElem?_eq_none h] at hi; cases hi
  have hget : ∀ j x, (L.set i r')[j]? = some x → (j = i ∧ x = r') ∨ (j ≠ i ∧ L[j]? = some x) := by
    intro j x hx
    rw [List.getElem?_set] at hx
    by_cases hji : i = j
    · subst hji; simp [hil] at hx; exact .inl ⟨rfl, hx.symm⟩
    · simp [hji] at hx; exact .inr ⟨fun e => hji e.symm, hx⟩
  refine ⟨h.keep.join hk h.keep.size (fun k hlt hm => h.old i r hi k hm hlt), ?_, ?_, ?_⟩
  · intro j x hx
    rcases hget j x hx with ⟨_, rfl⟩ | ⟨hne, hx⟩
    · exact hr
    · refine x.same w w' (h.all j x hx) fun k hkx => hk.block k (x.lt w (h.all j x hx) k hkx) (fun hm => h.apart i j r x (fun e => hne e.symm) hi hx k hm hkx)
  · intro j1 j2 a b hne ha hb' k hka hkb
    rcases hget j1 a ha with ⟨e1, e1'⟩ | ⟨h1, ga⟩
    · rcases hget j2 b hb' with ⟨e2, e2'⟩ | ⟨h2, gb⟩
      · exact hne (e1.trans e2.symm)
      · subst e1 e1'
        rcases hb k hka with hm | hm
        · exact h.apart _ _ _ _ hne hi gb k hm hkb
        · have := b.lt w (h.all _ _ gb) k hkb; omega
    · rcases hget j2 b hb' with ⟨e2, e2'⟩ | ⟨h2, gb⟩
      · subst e2 e2'
        rcases hb k hkb with hm | hm
        · exact h.apart _ _ _ _ hne ga hi k hka hm
        · have := a.lt w (h.all _ _ ga) k hka; omega
      · exact h.apart _ _ _ _ hne ga gb k hka hkb
  · intro j x hx k hkx hlt
    rcases hget j x hx with ⟨_, rfl⟩ | ⟨hne, hx⟩
    · rcases hb k hkx with hm | hm
      · exact h.old i r hi k hm hlt
      · have := h.keep.size; omega
    · exact h.old j x hx k hkx hlt

/-- New memory was made, nothing else. -/
theorem Sep.grow (h : Sep W S L w) (hk : Keep w.heap.size [] w w') : Sep W S L w' :=
  ⟨h.keep.join hk h.keep.size (by simp), fun i r hi => r.same w w' (h.all i r hi) fun k hm => hk.block k (r.lt w (h.all i r hi) k hm) (by simp), h.apart, h.old⟩
/-- A new thing. -/
theorem Sep.add (h : Sep W S L w) (hk : Keep w.heap.size [] w w') (hr : r.holds w') (hb : ∀ k ∈ r.blocks, w.heap.size ≤ k) : Sep W S (L ++ [r]) w' := by
  have hg := h.grow hk
  have hget : ∀ j x, (L ++ [r])[j]? = some x → (j = L.length ∧ x = r) ∨ (j ≠ L.length ∧ L[j]? = some x) := by
    intro j x hx
    rcases Nat.lt_trichotomy j L.length with hlt | rfl | hgt
    · rw [List.getElem?_append_left hlt] at hx; exact .inr ⟨by omega, hx⟩
    · simp at hx; exact .inl ⟨rfl, hx.symm⟩
    · rw [List.getElem?_eq_none (by simp; omega)] at hx; cases hx
  refine ⟨hg.keep, ?_, ?_, ?_⟩
  · intro j x hx
    rcases hget j x hx with ⟨_, rfl⟩ | ⟨_, hx⟩
    · exact hr
    · exact hg.all j x hx
  · intro j1 j2 a b hne ha hb' k hka hkb
    rcases hget j1 a ha with ⟨e1, e1'⟩ | ⟨h1, ga⟩
    · rcases hget j2 b hb' with ⟨e2, e2'⟩ | ⟨h2, gb⟩
      · exact hne (e1.trans e2.symm)
      · subst e1'
        have := hb k hka; have := b.lt w (h.all _ _ gb) k hkb; omega
    · rcases hget j2 b hb' with ⟨e2, e2'⟩ | ⟨h2, gb⟩
      · subst e2'
        have := hb k hkb; have := a.lt w (h.all _ _ ga) k hka; omega
      · exact h.apart _ _ _ _ hne ga gb k hka hkb
  · intro j x hx k hkx hlt
    rcases hget j x hx with ⟨_, rfl⟩ | ⟨_, hx⟩
    · have := hb k hkx; have := h.keep.size; omega
    · exact h.old j x hx k hkx hlt
/-- The same memory. -/
theorem Sep.drew (h : Sep W S L w) : Sep W S L w.drew := h.grow (Keep.refl _ _ _).drew
theorem Sep.drewN (h : Sep W S L w) (n : Nat) : Sep W S L (w.drewN n) := h.grow ((Keep.refl _ _ _).drewN n)
theorem Sep.undrew (h : Sep W S L w.drew) : Sep W S L w :=
  ⟨⟨h.keep.os, h.keep.tape, h.keep.output, h.keep.size, h.keep.block⟩, fun i r hi => r.same w.drew w (h.all i r hi) fun _ _ => rfl, h.apart, h.old⟩
theorem Sep.alloc (h : Sep W S L w) (o : Obj) : Sep W S L (w.alloc o) := h.grow ((Keep.refl _ _ _).alloc (Nat.le_refl _) o)
theorem Sep.new (h : Sep W S L w) (t : TypeId) (cs : Array Value) : Sep W S (L ++ [blkR w.heap.size t cs]) (w.alloc (.cells cs t)) :=
  h.add ((Keep.refl _ _ _).alloc (Nat.le_refl _) _) (r := blkR w.heap.size t cs) (Blk.new w t cs) (by simp [blkR])
/-- A cell of a block is another one. -/
theorem Sep.put (h : Sep W S L w) {i g : Nat} {t : TypeId} {cs : Array Value} (hi : L[i]? = some (blkR g t cs)) (o : Nat) (u : Value) : Sep W S (L.set i (blkR g t (cs.setIfInBounds o u))) (w.setCell ⟨g, o, none⟩ u) := by
  have hb : Blk w g t cs := h.all i _ hi
  refine h.step hi (r' := blkR g t (cs.setIfInBounds o u)) ((Keep.refl _ _ _).setCell (by simp [blkR]) _) (hb.set_ o u) (fun _ hk => .inl hk)
theorem Sep.dev (h : Sep W S L w) (i : Nat) {d : DevI} {s : St} (hi : L[i]? = some (devR d s)) : Dev w d s := h.all i _ hi
theorem Sep.blk (h : Sep W S L w) (i : Nat) {g : Nat} {t : TypeId} {cs : Array Value} (hi : L[i]? = some (blkR g t cs)) : Blk w g t cs := h.all i _ hi
theorem Sep.did (h : Sep W S L w) {i : Nat} {d : DevI} {s s' : St} (hi : L[i]? = some (devR d s)) (h1 : Dev w' d s') (hk : Keep w.heap.size d.blocks w w') : Sep W S (L.set i (devR d s')) w' :=
  h.step hi (r' := devR d s') hk h1 (fun _ hk => .inl hk)
theorem Sep.ne (h : Sep W S L w) (i j : Nat) {g g' : Nat} {t t' : TypeId} {cs cs' : Array Value} (hi : L[i]? = some (blkR g t cs)) (hj : L[j]? = some (blkR g' t' cs')) (hne : i ≠ j) : g ≠ g' :=
  fun e => h.apart i j _ _ hne hi hj g (by simp [blkR]) (by simp [blkR, e])
/-- Two things turn. -/
theorem Sep.step2 (h : Sep W S L w) {i j : Nat} {q q' : Res} (hij : i ≠ j) (hi : L[i]? = some r) (hj : L[j]? = some q) (hk : Keep w.heap.size (r.blocks ++ q.blocks) w w') (hr : r'.holds w') (hq : q'.holds w')
    (hb : ∀ k ∈ r'.blocks, k ∈ r.blocks) (hb2 : ∀ k ∈ q'.blocks, k ∈ q.blocks) : Sep W S ((L.set i r').set j q') w' := by
  have lt_of : ∀ {i : Nat} {x : Res}, L[i]? = some x → i < L.length := fun {i x} hx => (List.getElem?_eq_some_iff.1 hx).1
  have hil := lt_of hi
  have hjl := lt_of hj
  have hget : ∀ (l : Nat) (x : Res), ((L.set i r').set j q')[l]? = some x → (l = j ∧ x = q') ∨ (l = i ∧ l ≠ j ∧ x = r') ∨ (l ≠ i ∧ l ≠ j ∧ L[l]? = some x) := by
    intro l x hx
    rw [List.getElem?_set] at hx
    by_cases hlj : j = l
    · subst hlj; simp [hjl] at hx; exact .inl ⟨rfl, hx.symm⟩
    · simp [hlj] at hx
      rw [List.getElem?_set] at hx
      by_cases hli : i = l
      · subst hli; simp [hil] at hx; exact .inr (.inl ⟨rfl, fun e => hlj e.symm, hx.symm⟩)
      · simp [hli] at hx; exact .inr (.inr ⟨fun e => hli e.symm, fun e => hlj e.symm, hx⟩)
  have src : ∀ (l : Nat) (x : Res), ((L.set i r').set j q')[l]? = some x → ∃ y : Res, L[l]? = some y ∧ ∀ k ∈ x.blocks, k ∈ y.blocks := by
    intro l x hx
    rcases hget l x hx with ⟨rfl, rfl⟩ | ⟨rfl, _, rfl⟩ | ⟨_, _, hx⟩
    · exact ⟨q, hj, hb2⟩
    · exact ⟨r, hi, hb⟩
    · exact ⟨x, hx, fun _ h => h⟩
  refine ⟨h.keep.join hk h.keep.size (fun k hlt hm => ?_), ?_, ?_, ?_⟩
  · rcases List.mem_append.1 hm with hm | hm
    · exact h.old i r hi k hm hlt
    · exact h.old j q hj k hm hlt
  · intro l x hx
    rcases hget l x hx with ⟨rfl, rfl⟩ | ⟨rfl, _, rfl⟩ | ⟨h1, h2, hx⟩
    · exact hq
    · exact hr
    · refine x.same w w' (h.all l x hx) fun k hkx => hk.block k (x.lt w (h.all l x hx) k hkx) (fun hm => ?_)
      rcases List.mem_append.1 hm with hm | hm
      · exact h.apart i l r x (fun e => h1 e.symm) hi hx k hm hkx
      · exact h.apart j l q x (fun e => h2 e.symm) hj hx k hm hkx
  · intro l1 l2 a b hne ha hb' k hka hkb
    obtain ⟨y1, e1, f1⟩ := src l1 a ha
    obtain ⟨y2, e2, f2⟩ := src l2 b hb'
    exact h.apart l1 l2 y1 y2 hne e1 e2 k (f1 k hka) (f2 k hkb)
  · intro l x hx k hkx hlt
    obtain ⟨y, e, f⟩ := src l x hx
    exact h.old l y e k (f k hkx) hlt
/-- The first things alone. -/
theorem Sep.take (h : Sep W S L w) (n : Nat) : Sep W S (L.take n) w := by
  have g : ∀ (i : Nat) (r : Res), (L.take n)[i]? = some r → L[i]? = some r := by
    intro i r hi
    rw [List.getElem?_take] at hi
    split at hi
    · exact hi
    · cases hi
  exact ⟨h.keep, fun i r hi => h.all i r (g i r hi), fun i j a b hne hi hj => h.apart i j a b hne (g i a hi) (g j b hj), fun i r hi => h.old i r (g i r hi)⟩
/-- One thing is forgotten. -/
theorem Sep.forget (h : Sep W S L w) (i : Nat) : Sep W S (L.set i noR) w := by
  cases hr : L[i]? with
  | none =>
    have : L.set i noR = L := by
      apply List.ext_getElem?
      intro j
      rw [List.getElem?_set]
      by_cases hij : i = j
      · subst hij
        have : ¬ i < L.length := fun hl => by rw [List.getElem?_eq_getElem hl] at hr; cases hr
        simp [this]
      · simp [hij]
    rw [this]; exact h
  | some r => exact h.step hr (r' := noR) (Keep.refl _ _ _) trivial (by simp [noR])
/-- A call that knows what it needs of one thing, and leaves another one. -/
theorem Sep.app {S' : List Nat} {L'' : List Res} (h : Sep W S L w) (h' : Sep w S' L'' w') {i : Nat} (hi : L[i]? = some r) (hS : ∀ k ∈ S', k ∈ r.blocks) {j : Nat} (hj : L''[j]? = some r') : Sep W S (L.set i r') w' := by
  refine h.step hi (h'.keep.sub fun k _ hk => hS k hk) (h'.all j r' hj) fun k hk => ?_
  rcases Nat.lt_or_ge k w.heap.size with hlt | hge
  · exact .inl (hS k (h'.old j r' hj k hk hlt))
  · exact .inr hge
end
end Go.Proofs.Ytbdomdmnjclpdaa
set_option linter.unusedVariables false
set_option linter.unusedSimpArgs false
set_option maxRecDepth 100000
namespace Go.Proofs.Ytbdomdmnjclpdaa
open Go.RowKit Go.Shelf

section
variable {W w w' : World} {S : List Nat} {L : List Res} {r r' : Res}
theorem Sep.news (h : Sep W S L w) (n : Nat) (hW : W.heap.size ≤ n) (hL : ∀ (i : Nat) (x : Res), L[i]? = some x → ∀ k ∈ x.blocks, k < n) (N : List Res) (hN : ∀ q ∈ N, q.holds w ∧ ∀ k ∈ q.blocks, n ≤ k)
    (hap : N.Pairwise fun a b => ∀ k ∈ a.blocks, k ∉ b.blocks) : Sep W S (L ++ N) w := by
  have hget : ∀ j x, (L ++ N)[j]? = some x → (L[j]? = some x ∧ j < L.length) ∨ (N[j - L.length]? = some x ∧ L.length ≤ j) := by
    intro j x hx
    rcases Nat.lt_or_ge j L.length with hlt | hge
    · rw [List.getElem?_append_left hlt] at hx; exact .inl ⟨hx, hlt⟩
    · rw [List.getElem?_append_right hge] at hx; exact .inr ⟨hx, hge⟩
  have hmem : ∀ {j : Nat} {x : Res}, N[j]? = some x → x ∈ N := fun hx => List.mem_of_getElem? hx
  have hp : ∀ (i j : Nat) (a b : Res), i < j → N[i]? = some a → N[j]? = some b → ∀ k ∈ a.blocks, k ∉ b.blocks := by
    intro i j a b hij ha hb
    obtain ⟨hi, rfl⟩ := List.getElem?_eq_some_iff.1 ha
    obtain ⟨hj, rfl⟩ := List.getElem?_eq_some_iff.1 hb
    exact List.pairwise_iff_getElem.1 hap i j hi hj hij
  refine ⟨h.keep, ?_, ?_, ?_⟩
  · intro j x hx
    rcases hget j x hx with ⟨hx, _⟩ | ⟨hx, _⟩
    · exact h.all j x hx
    · exact (hN x (hmem hx)).1
  · intro i j a b hne ha hb k hka hkb
    rcases hget i a ha with ⟨ga, ia⟩ | ⟨ga, ia⟩ <;> rcases hget j b hb with ⟨gb, jb⟩ | ⟨gb, jb⟩
    · exact h.apart i j a b hne ga gb k hka hkb
    · have := hL i a ga k hka
      have := (hN b (hmem gb)).2 k hkb
      omega
    · have := hL j b gb k hkb
      have := (hN a (hmem ga)).2 k hka
      omega
    · rcases Nat.lt_or_gt_of_ne (show i - L.length ≠ j - L.length by omega) with hlt | hgt
      · exact hp _ _ a b hlt ga gb k hka hkb
      · exact hp _ _ b a hgt gb ga k hkb hka
  · intro j x hx k hk hlt
    rcases hget j x hx with ⟨hx, _⟩ | ⟨hx, _⟩
    · exact h.old j x hx k hk hlt
    · have := (hN x (hmem hx)).2 k hk
      omega
theorem Sep.all_lt (h : Sep W S L w) : ∀ (i : Nat) (x : Res), L[i]? = some x → ∀ k ∈ x.blocks, k < w.heap.size := fun i x hi k hk => x.lt w (h.all i x hi) k hk
/-- New memory was made: these things. -/
theorem Sep.grow_news (h : Sep W S L w) (hk : Keep w.heap.size [] w w') (N : List Res) (hN : ∀ q ∈ N, q.holds w' ∧ ∀ k ∈ q.blocks, w.heap.size ≤ k)
    (hap : N.Pairwise fun a b => ∀ k ∈ a.blocks, k ∉ b.blocks) : Sep W S (L ++ N) w' :=
  (h.grow hk).news w.heap.size h.le h.all_lt N hN hap
/-- A thing has turned, and new memory was made: these things. -/
theorem Sep.step_news (h : Sep W S L w) {i : Nat} (hi : L[i]? = some r) (hk : Keep w.heap.size r.blocks w w') (hr : r'.holds w') (hb : ∀ k ∈ r'.blocks, k ∈ r.blocks) (N : List Res) (hN : ∀ q ∈ N, q.holds w' ∧ ∀ k ∈ q.blocks, w.heap.size ≤ k)
    (hap : N.Pairwise fun a b => ∀ k ∈ a.blocks, k ∉ b.blocks) : Sep W S (L.set i r' ++ N) w' := by
  refine (h.step hi hk hr (fun k hm => .inl (hb k hm))).news w.heap.size h.le (fun j x hj k hkx => ?_) N hN hap
  rw [List.getElem?_set] at hj
  by_cases hij : i = j
  · subst hij
    have hil : i < L.length := (List.getElem?_eq_some_iff.1 hi).1
    simp [hil] at hj
    subst hj
    exact h.all_lt i r hi k (hb k hkx)
  · simp [hij] at hj
    exact h.all_lt j x hj k hkx
end
end Go.Proofs.Ytbdomdmnjclpdaa
set_option maxRecDepth 100000
namespace Go.Proofs.Ytbdomdmnjclpdaa
open Go.RowKit Go.Shelf

theorem Rd.cellAt {w : World} {v : Value} {xs : List Int} (h : Rd w v (uw xs)) : ∃ A c, v = .slice A xs.length c ∧ ∀ k, k < xs.length → ∃ g off, A = some ⟨g, off, none⟩ ∧ w.cell? ⟨g, off + k, none⟩ = some (.int .u64 (xs.getD k 0)) := by
  obtain ⟨A, c, rfl, h⟩ := h
  rw [show (uw xs).length = xs.length by simp [uw]] at *
  refine ⟨A, c, rfl, fun k hk => ?_⟩
  obtain ⟨g, off, hA, h⟩ := h (by omega)
  refine ⟨g, off, hA, h k _ ?_⟩
  simp [uw, hk]

theorem eq_of_getD {xs ys : List Int} (hl : xs.length = ys.length) (h : ∀ j, j < xs.length → xs.getD j 0 = ys.getD j 0) : xs = ys := by
  apply List.ext_getElem hl
  intro i h1 h2
  have := h i h1
  simpa [h1, h2] using this

set_option maxHeartbeats 1000000 in
theorem equal_any (a b : Value) (xs ys : List Int) (w : World) (ha : Rd w a (uw xs)) (hb : Rd w b (uw ys)) (hl : xs.length ≤ 1099511627776) :
    Calls Try.prog 22 #[a, b] w fun e w' => e = .returned (.bool (decide (xs = ys))) ∧ Keep w.heap.size [] w w' := by
  obtain ⟨A, c, rfl, hca⟩ := ha.cellAt
  obtain ⟨B, d, rfl, hcb⟩ := hb.cellAt
  clear ha hb
  have hlI : (xs.length : Int) ≤ 1099511627776 := by omega
  by_cases hlen : xs.length = ys.length
  · rw [← hlen]
    have HCA := Lib.hid hca
    have HCB := Lib.hid hcb
    have HL := Lib.hid hlen
    clear hca hcb hlen
    go_enter Try.func22, Try.ntmps22
    go_wp2_with fail
    go_loopw [13] (fun v wr => ∃ i : Nat, i ≤ xs.length ∧ v = .int .i64 i ∧ Keep w.heap.size [] w wr ∧ ∀ j, j < i → xs.getD j 0 = ys.getD j 0) (fun v _ => xs.length - (intOf v).toNat)
    case atStart => exact ⟨0, Nat.zero_le _, rfl, Keep.refl _ _ _, fun j hj => absurd hj (Nat.not_lt_zero _)⟩
    case round =>
      obtain ⟨i, hi, rfl, hkr, heq⟩ := hrel
      have HKR := Lib.hid hkr
      have HEQ := Lib.hid heq
      clear heq
      by_cases hlt : i < xs.length
      · obtain ⟨g, off, rfl, hx⟩ := HCA.out i hlt
        obtain ⟨g', off', rfl, hy⟩ := HCB.out i (by rw [← HL.out]; exact hlt)
        obtain ⟨x, hxx⟩ : ∃ x, xs.getD i 0 = x := ⟨_, rfl⟩
        obtain ⟨y, hyy⟩ : ∃ y, ys.getD i 0 = y := ⟨_, rfl⟩
        rw [hxx] at hx
        rw [hyy] at hy
        have hx : wr.cell? ⟨g, off + i, none⟩ = some (.int .u64 x) := (World.cell?_of_block (hkr.block g (World.block_lt_of_cell? w _ hx) (by simp))).trans hx
        have hy : wr.cell? ⟨g', off' + i, none⟩ = some (.int .u64 y) := (World.cell?_of_block (hkr.block g' (World.block_lt_of_cell? w _ hy) (by simp))).trans hy
        clear hkr
        have HXX := Lib.hid hxx
        have HYY := Lib.hid hyy
        clear hxx hyy
        by_cases hxy : x = y
        · subst hxy
          go_wp2_with fail
          go_quiet (fail)
          go_wp2
          refine ⟨⟨i + 1, by omega, by go_num, HKR.out.drewN _, fun j hj => ?_⟩, by simp [intOf]; omega⟩
          rcases Nat.lt_or_ge j i with h | h
          · exact HEQ.out j h
          · obtain rfl : j = i := by omega
            rw [HXX.out, HYY.out]
        · go_wp2_with fail
          go_quiet (fail)
          go_wp2
          go_ret
          refine ⟨?_, HKR.out.drewN _⟩
          have : xs ≠ ys := by
            rintro rfl
            exact hxy (HXX.out.symm.trans HYY.out)
          simp [this]
      · obtain rfl : i = xs.length := by omega
        go_wp2
        go_ret
        refine ⟨?_, HKR.out⟩
        simp [eq_of_getD HL.out HEQ.out]
  · have hne : xs ≠ ys := by rintro rfl; exact hlen rfl
    have hlen' : ((xs.length : Int) = ys.length) = False := by simp; omega
    rw [show decide (xs = ys) = false by simp [hne]]
    clear hca hcb hne
    go_enter Try.func22, Try.ntmps22
    go_wp2
    go_ret
    exact ⟨rfl, Keep.refl _ _ _⟩
end Go.Proofs.Ytbdomdmnjclpdaa
set_option linter.unusedSimpArgs false
set_option linter.unusedVariables false
set_option maxRecDepth 100000
namespace Go.Proofs.Ytbdomdmnjclpdaa
open Go.RowKit Go.Shelf

theorem line_at (xs : List Int) (b x : Nat) (h : x / 8 = b) : (line xs b).getD (x % 8) 0 = xs.getD x 0 := by
  subst h
  simp only [line, List.getD_eq_getElem?_getD, List.getElem?_take, List.getElem?_drop]
  rw [if_pos (by omega)]
  congr 2
  omega
theorem fenced_at (kept : List Int) (q : Nat → Option (List Int)) (x : Nat) (h : x < kept.length) : (fenced kept q).getD x 0 = match q (x / 8) with | some l => l.getD (x % 8) 0 | none => kept.getD x 0 := by
  rw [List.getD_eq_getElem?_getD, fenced_get, if_pos h]; rfl
theorem set_at (xs : List Int) (k : Nat) (v : Int) (j : Nat) (hk : k < xs.length) : (xs.set k v).getD j 0 = if j = k then v else xs.getD j 0 := by
  rw [List.getD_eq_getElem?_getD, List.getElem?_set, List.getD_eq_getElem?_getD]
  by_cases h : k = j
  · subst h; simp [hk]
  · have : ¬ j = k := fun e => h e.symm
    simp [h, this]
theorem crash_at (s : St) (ch : Nat → Int) (j : Nat) (h : j < s.now.length) : (s.crash ch).now.getD j 0 = left s ch j := by
  show (leftTo s ch s.now.length).getD j 0 = _
  rw [List.getD_eq_getElem?_getD, leftTo_get, if_pos h, if_pos h]; rfl
theorem uw_length (xs : List Int) : (uw xs).length = xs.length := by simp [uw]
theorem tmod_some (a : Int) (n : Nat) (h0 : 0 ≤ a) (hn : 0 < n) : ∃ k : Nat, a.tmod n = k ∧ k < n ∧ a % n = k := by
  have h1 := Int.emod_nonneg a (show (n : Int) ≠ 0 by omega)
  have h2 := Int.emod_lt_of_pos a (b := n) (by omega)
  refine ⟨(a % n).toNat, ?_, by omega, by omega⟩
  rw [Int.tmod_eq_emod_of_nonneg h0]
  omega
theorem wordAt_nat (xs : List Int) (k : Nat) : wordAt xs (k : Int) = xs.getD k 0 := by simp [wordAt]

/-- The cells of a slice of integers. -/
theorem Rd.cells {K : IntKind} {w : World} {v : Value} {xs : List Int} (h : Rd w v (xs.map (Value.int K))) : ∃ A c, v = .slice A xs.length c ∧ ∀ k, k < xs.length → ∃ g off, A = some ⟨g, off, none⟩ ∧ w.cell? ⟨g, off + k, none⟩ = some (.int K (xs.getD k 0)) := by
  obtain ⟨A, c, rfl, h⟩ := h
  rw [show (xs.map (Value.int K)).length = xs.length by simp] at *
  refine ⟨A, c, rfl, fun k hk => ?_⟩
  obtain ⟨g, off, hA, h⟩ := h (by omega)
  exact ⟨g, off, hA, h k _ (by simp [hk])⟩

/-- A crash, each word left by bits that a closure has caught. -/
theorem crash_bits (d : DevI) (s : St) (G : FuncId) (g : Nat) (b : Int) (w : World) (h : Dev w d s) (hG : Enters Try.prog G) (hb : Blk w g 38 #[.int .u64 b]) (hg : g ∉ d.blocks)
    (hc : ∀ (k : Nat) (w : World), k ≤ 1099511627776 → w.cell? ⟨g, 0, none⟩ = some (.int .u64 b) → Calls Try.prog G #[.int .i64 k, .pointer (some ⟨g, 0, none⟩)] w fun e w' => e = .returned (.int .u8 (choiceOf b k)) ∧ w = w') :
    Calls Try.prog 97 #[.pointer (some ⟨d.b, 0, none⟩), .func (.func G) #[] #[.pointer (some ⟨g, 0, none⟩)]] w (Did w d (.tuple #[]) (s.crash (choiceOf b))) :=
  (crash_any d s G _ _ _ _ w h (chooses_bits G g b s.now.length d.blocks hG hg h.small hc) hb (by simp)).mono fun _ _ ⟨h1, h2, _, h4⟩ => ⟨h1, h2, by simpa using h4⟩
theorem crash_const (d : DevI) (s : St) (G : FuncId) (c : Int) (w : World) (h : Dev w d s) (hG : Enters Try.prog G) (h0 : 0 ≤ c) (h1 : c ≤ 255)
    (hc : ∀ (k : Int) (w : World), Calls Try.prog G #[.int .i64 k] w fun e w' => e = .returned (.int .u8 c) ∧ w = w') :
    Calls Try.prog 97 #[.pointer (some ⟨d.b, 0, none⟩), .func (.func G) #[] #[]] w (Did w d (.tuple #[]) (s.crash fun _ => c)) :=
  (crash_any d s G _ _ _ _ w h (chooses_const G c s.now.length d.blocks hG h0 h1 hc) trivial (by simp)).mono fun _ _ ⟨h1, h2, _, h4⟩ => ⟨h1, h2, by simpa using h4⟩
theorem NewRow.rd {w w' : World} {v : Value} {xs : List Value} {g : Nat} {ex : List Value} (h : NewRow w w' v xs g ex) : Rd w' v xs := h.at_.rd
theorem Rd.of_uw {w : World} {g n : Nat} {t : TypeId} {xs : List Int} {ex : List Value} (h : Blk w g t (uw xs ++ ex).toArray) : Rd w (.slice (some ⟨g, 0, none⟩) xs.length n) (uw xs) := by
  have := Rd.of_blk (n := n) h
  rwa [uw_length] at this
theorem Sep.gd {W w : World} {S : List Nat} {L : List Res} (h : Sep W S L w) (i j : Nat) {g : Nat} {t : TypeId} {cs : Array Value} {d : DevI} {s : St} (hi : L[i]? = some (blkR g t cs)) (hj : L[j]? = some (devR d s)) (hne : i ≠ j) : g ∉ d.blocks :=
  h.apart i j _ _ hne hi hj g (by simp [blkR])
end Go.Proofs.Ytbdomdmnjclpdaa
