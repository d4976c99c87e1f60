/-
  Things that become one thing; one part of two turned.
-/
import Derived.Test.YtbdomdmnjclpdaaSt
import Derived.Test.YtbdomdmnjclpdaaRelS
set_option linter.unusedSimpArgs false
set_option linter.unusedVariables false
namespace Go.Proofs.Ytbdomdmnjclpdaa
open Go.RowKit Go.Shelf

/-- Two things as one. -/
def andR (a b : Res) : Res :=
  ⟨a.blocks ++ b.blocks, fun w => a.holds w ∧ b.holds w ∧ ∀ k ∈ a.blocks, k ∉ b.blocks,
   fun w h k hk => by rcases List.mem_append.1 hk with hk | hk; exact a.lt w h.1 k hk; exact b.lt w h.2.1 k hk,
   fun w w' h e => ⟨a.same w w' h.1 fun k hk => e k (by simp [hk]), b.same w w' h.2.1 fun k hk => e k (by simp [hk]), h.2.2⟩⟩

def Stop (p : Prop) : Prop := p
theorem of_stop {p : Prop} (h : Stop p) : p := h

theorem ownsRow_new (w : World) (t : TypeId) (xs : List Value) (h : xs.length ≤ 1000) : (w.alloc (.cells xs.toArray t)).ownsRow 0 t 1 (.slice (some ⟨w.heap.size, 0, none⟩) xs.length xs.length) xs.length xs :=
  ⟨by simp, .inr ⟨w.heap.size, xs.length, xs.toArray, rfl, Nat.zero_le _, heap_alloc_new w _, Nat.le_refl _, by simp only [maxLen]; omega, by simp, by simp⟩⟩


/-- A block by its address. -/
def ptrR (v : Value) (t : TypeId) (cs : Array Value) : Res := match v with | .pointer (some ⟨g, 0, none⟩) => blkR g t cs | _ => noR

section
variable {W w w' : World} {S : List Nat} {L : List Res} {r r' q a a' b b' : Res}
theorem andR_right (h : (andR a b).holds w) (hk : Keep w.heap.size b.blocks w w') (hb : b'.holds w') (he : b'.blocks = b.blocks) : (andR a b').holds w' := by
  obtain ⟨h1, h2, h3⟩ := h
  refine ⟨a.same w w' h1 fun k hkx => hk.block k (a.lt w h1 k hkx) (h3 k hkx), hb, fun k hk => by rw [he]; exact h3 k hk⟩
theorem andR_left (h : (andR a b).holds w) (hk : Keep w.heap.size a.blocks w w') (ha : a'.holds w') (he : a'.blocks = a.blocks) : (andR a' b).holds w' := by
  obtain ⟨h1, h2, h3⟩ := h
  refine ⟨ha, b.same w w' h2 fun k hkx => hk.block k (b.lt w h2 k hkx) (fun hm => h3 k hm hkx), fun k hk => h3 k (by rwa [he] at hk)⟩
/-- The first thing is forgotten. -/
theorem Sep.tail (h : Sep W S (r :: L) w) : Sep W S L w :=
  ⟨h.keep, fun i a ha => h.all (i + 1) a (by simpa using ha), fun i j a b hij ha hb => h.apart (i + 1) (j + 1) a b (by omega) (by simpa using ha) (by simpa using hb), fun i a ha => h.old (i + 1) a (by simpa using ha)⟩
theorem Sep.dropN (n : Nat) (h : Sep W S L w) : Sep W S (L.drop n) w :=
  ⟨h.keep, fun i a ha => h.all (n + i) a (by simpa using ha), fun i j a b hij ha hb => h.apart (n + i) (n + j) a b (by omega) (by simpa using ha) (by simpa using hb), fun i a ha => h.old (n + i) a (by simpa using ha)⟩
/-- Two things become one. -/
theorem Sep.join (h : Sep W S L w) {i j : Nat} (hij : i ≠ j) (hi : L[i]? = some r) (hj : L[j]? = some q) : Sep W S ((L.set i (andR r q)).set j noR) w := by
  have lt_of : ∀ {i : Nat} {x : Res}, L[i]? = some x → i < L.length := fun {i x} hx => (List.getElem?_eq_some_iff.1 hx).1
  have hil := lt_of hi
  have hjl := lt_of hj
  have hget : ∀ (l : Nat) (x : Res), ((L.set i (andR r q)).set j noR)[l]? = some x → (l = j ∧ x = noR) ∨ (l = i ∧ l ≠ j ∧ x = andR r q) ∨ (l ≠ i ∧ l ≠ j ∧ L[l]? = some x) := by
    intro l x hx
    rw [List.getElem?_set] at hx
    by_cases hlj : j = l
    · subst hlj; simp [hjl] at hx; exact .inl ⟨rfl, hx.symm⟩
    · simp [hlj] at hx
      rw [List.getElem?_set] at hx
      by_cases hli : i = l
      · subst hli; simp [hil] at hx; exact .inr (.inl ⟨rfl, fun e => hlj e.symm, hx.symm⟩)
      · simp [hli] at hx; exact .inr (.inr ⟨fun e => hli e.symm, fun e => hlj e.symm, hx⟩)
  have far : ∀ (l : Nat) (x : Res), l ≠ i → l ≠ j → L[l]? = some x → ∀ k ∈ x.blocks, k ∉ (andR r q).blocks := by
    intro l x h1 h2 hx k hkx hkr
    rcases List.mem_append.1 hkr with hm | hm
    · exact h.apart l i x r h1 hx hi k hkx hm
    · exact h.apart l j x q h2 hx hj k hkx hm
  refine ⟨h.keep, ?_, ?_, ?_⟩
  · intro l x hx
    rcases hget l x hx with ⟨rfl, rfl⟩ | ⟨rfl, _, rfl⟩ | ⟨h1, h2, hx⟩
    · exact trivial
    · exact ⟨h.all _ _ hi, h.all _ _ hj, fun k hk hkq => h.apart _ _ r q hij hi hj k hk hkq⟩
    · exact h.all l x hx
  · intro l1 l2 a b hne ha hb' k hka hkb
    rcases hget l1 a ha with ⟨_, rfl⟩ | ⟨e1, _, rfl⟩ | ⟨h1, h2, ga⟩
    · simp [noR] at hka
    · rcases hget l2 b hb' with ⟨_, rfl⟩ | ⟨e2, _, rfl⟩ | ⟨h3, h4, gb⟩
      · simp [noR] at hkb
      · exact hne (e1.trans e2.symm)
      · exact far l2 b h3 h4 gb k hkb hka
    · rcases hget l2 b hb' with ⟨_, rfl⟩ | ⟨e2, _, rfl⟩ | ⟨h3, h4, gb⟩
      · simp [noR] at hkb
      · exact far l1 a h1 h2 ga k hka hkb
      · exact h.apart l1 l2 a b hne ga gb k hka hkb
  · intro l x hx k hkx hlt
    rcases hget l x hx with ⟨rfl, rfl⟩ | ⟨rfl, _, rfl⟩ | ⟨h1, h2, hx⟩
    · simp [noR] at hkx
    · rcases List.mem_append.1 hkx with hm | hm
      · exact h.old _ _ hi k hm hlt
      · exact h.old _ _ hj k hm hlt
    · exact h.old l x hx k hkx hlt
/-- A row as the block that it lies in. -/
theorem Sep.rowBlk {e : TypeId} {v : Value} {xs : List Value} (h : Sep W S L w) {i : Nat} (hi : L[i]? = some (rowR e v xs)) (hx : 0 < xs.length) : ∃ g c ex, v = .slice (some ⟨g, 0, none⟩) xs.length c ∧ Sep W S (L.set i (blkR g e (xs ++ ex).toArray)) w := by
  rcases (h.row i hi).2 with ⟨_, h0⟩ | ⟨g, cap, cs, hv, _, hg, hnc, hcm, hcs, htk⟩
  · omega
  · rw [Nat.mul_one] at htk
    refine ⟨g, cap, cs.toList.drop xs.length, hv, h.step hi (Keep.refl _ _ _) (r' := blkR g e _) ?_ (fun k hk => .inl ?_)⟩
    · have : (xs ++ cs.toList.drop xs.length).toArray = cs := by
        apply Array.ext'
        simp only
        conv => lhs; lhs; rw [← htk]
        exact List.take_append_drop _ _
      rw [this]
      exact hg
    · subst hv
      simpa [rowR, blkR, Value.ownBlock] using hk
/-- Things that a call has made, beside those that were there. -/
theorem Sep.adds {L' : List Res} (h : Sep W S L w) (h' : Sep w [] L' w') : Sep W S (L ++ L') w' := by
  have old : ∀ (i : Nat) (x : Res), L[i]? = some x → ∀ k ∈ x.blocks, k < w.heap.size := fun i x hx k hk => x.lt w (h.all i x hx) k hk
  have new : ∀ (i : Nat) (x : Res), L'[i]? = some x → ∀ k ∈ x.blocks, w.heap.size ≤ k := fun i x hx k hk => Nat.le_of_not_lt fun hlt => by simpa using h'.old i x hx k hk hlt
  have split : ∀ (i : Nat) (x : Res), (L ++ L')[i]? = some x → (i < L.length ∧ L[i]? = some x) ∨ (L.length ≤ i ∧ L'[i - L.length]? = some x) := by
    intro i x hx
    rcases Nat.lt_or_ge i L.length with hi | hi
    · rw [List.getElem?_append_left hi] at hx; exact .inl ⟨hi, hx⟩
    · rw [List.getElem?_append_right hi] at hx; exact .inr ⟨hi, hx⟩
  refine ⟨h.keep.join h'.keep h.keep.size (by simp), ?_, ?_, ?_⟩
  · intro i x hx
    rcases split i x hx with ⟨_, hx⟩ | ⟨_, hx⟩
    · exact x.same w w' (h.all i x hx) fun k hk => h'.keep.block k (old i x hx k hk) (by simp)
    · exact h'.all _ x hx
  · intro i j a b hij ha hb k hka hkb
    rcases split i a ha with ⟨hi, ha⟩ | ⟨hi, ha⟩ <;> rcases split j b hb with ⟨hj, hb⟩ | ⟨hj, hb⟩
    · exact h.apart i j a b hij ha hb k hka hkb
    · have := old i a ha k hka; have := new _ b hb k hkb; omega
    · have := new _ a ha k hka; have := old j b hb k hkb; omega
    · exact h'.apart _ _ a b (by omega) ha hb k hka hkb
  · intro i x hx k hk hlt
    rcases split i x hx with ⟨_, hx⟩ | ⟨_, hx⟩
    · exact h.old i x hx k hk hlt
    · have := new _ x hx k hk; have := h.keep.size; omega
end
end Go.Proofs.Ytbdomdmnjclpdaa
