/-
  Several new things at once.
-/
import Derived.Test.YtaophnicdbmojaaSep
set_option linter.unusedVariables false
set_option linter.unusedSimpArgs false
set_option maxRecDepth 100000
namespace Go.Proofs.Ytaophnicdbmojaa
open Go.RowKit Go.Shelf

section
variable {W w w' : World} {S : List Nat} {L : List Res} {r r' : Res}
theorem Sep.news (h : Sep W S L w) (n : Nat) (hW : W.heap.size ≤ n) (hL : ∀ (i : Nat) (x : Res), L[i]? = some x → ∀ k ∈ x.blocks, k < n) (N : List Res) (hN : ∀ q ∈ N, q.holds w ∧ ∀ k ∈ q.blocks, n ≤ k)
    (hap : N.Pairwise fun a b => ∀ k ∈ a.blocks, k ∉ b.blocks) : Sep W S (L ++ N) w := by
  have hget : ∀ j x, (L ++ N)[j]? = some x → (L[j]? = some x ∧ j < L.length) ∨ (N[j - L.length]? = some x ∧ L.length ≤ j) := by
    intro j x hx
    rcases Nat.lt_or_ge j L.length with hlt | hge
    · rw [List.getElem?_append_left hlt] at hx; exact .inl ⟨hx, hlt⟩
    · rw [List.getElem?_append_right hge] at hx; exact .inr ⟨hx, hge⟩
  have hmem : ∀ {j : Nat} {x : Res}, N[j]? = some x → x ∈ N := fun hx => List.mem_of_getElem? hx
  have hp : ∀ (i j : Nat) (a b : Res), i < j → N[i]? = some a → N[j]? = some b → ∀ k ∈ a.blocks, k ∉ b.blocks := by
    intro i j a b hij ha hb
    obtain ⟨hi, rfl⟩ := List.getElem?_eq_some_iff.1 ha
    obtain ⟨hj, rfl⟩ := List.getElem?_eq_some_iff.1 hb
    exact List.pairwise_iff_getElem.1 hap i j hi hj hij
  refine ⟨h.keep, ?_, ?_, ?_⟩
  · intro j x hx
    rcases hget j x hx with ⟨hx, _⟩ | ⟨hx, _⟩
    · exact h.all j x hx
    · exact (hN x (hmem hx)).1
  · intro i j a b hne ha hb k hka hkb
    rcases hget i a ha with ⟨ga, ia⟩ | ⟨ga, ia⟩ <;> rcases hget j b hb with ⟨gb, jb⟩ | ⟨gb, jb⟩
    · exact h.apart i j a b hne ga gb k hka hkb
    · have := hL i a ga k hka
      have := (hN b (hmem gb)).2 k hkb
      omega
    · have := hL j b gb k hkb
      have := (hN a (hmem ga)).2 k hka
      omega
    · rcases Nat.lt_or_gt_of_ne (show i - L.length ≠ j - L.length by omega) with hlt | hgt
      · exact hp _ _ a b hlt ga gb k hka hkb
      · exact hp _ _ b a hgt gb ga k hkb hka
  · intro j x hx k hk hlt
    rcases hget j x hx with ⟨hx, _⟩ | ⟨hx, _⟩
    · exact h.old j x hx k hk hlt
    · have := (hN x (hmem hx)).2 k hk
      omega
theorem Sep.all_lt (h : Sep W S L w) : ∀ (i : Nat) (x : Res), L[i]? = some x → ∀ k ∈ x.blocks, k < w.heap.size := fun i x hi k hk => x.lt w (h.all i x hi) k hk
/-- New memory was made: these things. -/
theorem Sep.grow_news (h : Sep W S L w) (hk : Keep w.heap.size [] w w') (N : List Res) (hN : ∀ q ∈ N, q.holds w' ∧ ∀ k ∈ q.blocks, w.heap.size ≤ k)
    (hap : N.Pairwise fun a b => ∀ k ∈ a.blocks, k ∉ b.blocks) : Sep W S (L ++ N) w' :=
  (h.grow hk).news w.heap.size h.le h.all_lt N hN hap
/-- A thing has turned, and new memory was made: these things. -/
theorem Sep.step_news (h : Sep W S L w) {i : Nat} (hi : L[i]? = some r) (hk : Keep w.heap.size r.blocks w w') (hr : r'.holds w') (hb : ∀ k ∈ r'.blocks, k ∈ r.blocks) (N : List Res) (hN : ∀ q ∈ N, q.holds w' ∧ ∀ k ∈ q.blocks, w.heap.size ≤ k)
    (hap : N.Pairwise fun a b => ∀ k ∈ a.blocks, k ∉ b.blocks) : Sep W S (L.set i r' ++ N) w' := by
  refine (h.step hi hk hr (fun k hm => .inl (hb k hm))).news w.heap.size h.le (fun j x hj k hkx => ?_) N hN hap
  rw [List.getElem?_set] at hj
  by_cases hij : i = j
  · subst hij
    have hil : i < L.length := (List.getElem?_eq_some_iff.1 hi).1
    simp [hil] at hj
    subst hj
    exact h.all_lt i r hi k (hb k hkx)
  · simp [hij] at hj
    exact h.all_lt j x hj k hkx
end
end Go.Proofs.Ytaophnicdbmojaa
