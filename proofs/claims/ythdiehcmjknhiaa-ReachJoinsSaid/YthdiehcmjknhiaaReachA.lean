/-
  All objects named one by one: what is reached.
-/
import Derived.Test.YthdiehcmjknhiaaReachP
import Derived.Test.YthdiehcmjknhiaaRchF
set_option linter.unusedSimpArgs false
set_option linter.unusedVariables false
set_option maxRecDepth 100000
namespace Go.Proofs.Ythdiehcmjknhiaa
open Go.RowKit Go.Shelf

section
variable {G : Int → Bool} {nm : Int → List Int}
theorem foldl_in : ∀ {l L : List Int}, (∀ x ∈ l, x ∈ L ∨ G x = false) → l.foldl (seeF G) L = L
  | [], L, _ => rfl
  | x :: l, L, h => by
    have e : seeF G L x = L := by
      rcases h x (by simp) with h1 | h1
      · exact seeF_old h1
      · exact seeF_no h1
    show l.foldl (seeF G) (seeF G L x) = L
    rw [e]
    exact foldl_in fun y hy => h y (List.mem_cons_of_mem _ hy)
theorem foldl_new : ∀ {l L : List Int}, (L ++ l).Nodup → (∀ x ∈ l, G x = true) → l.foldl (seeF G) L = L ++ l
  | [], L, _, _ => by simp
  | x :: l, L, hn, h => by
    have hx : x ∉ L := fun hm => by
      rw [List.nodup_append] at hn
      exact hn.2.2 x hm x (by simp) rfl
    show l.foldl (seeF G) (seeF G L x) = L ++ x :: l
    rw [seeF_new hx (h x (by simp)), foldl_new (by simpa using hn) fun y hy => h y (List.mem_cons_of_mem _ hy)]
    simp
theorem foF_all {ws vs : List Int} (hn : ws.Nodup) (hg : ∀ x ∈ ws, G x = true) (hv : ∀ x ∈ vs, x ∈ ws) (hnm : ∀ x ∈ ws, ∀ y ∈ nm x, y ∈ ws ∨ G y = false) : ∀ n, foF G nm (ws ++ vs) n = ws
  | 0 => by
    show (ws ++ vs).foldl (seeF G) [] = ws
    rw [List.foldl_append, foldl_new (by simpa using hn) hg, List.nil_append]
    exact foldl_in fun x hx => .inl (hv x hx)
  | n + 1 => by
    simp only [foF]
    rw [foF_all hn hg hv hnm n]
    split
    · rename_i x hx
      exact foldl_in (hnm x (List.mem_of_getElem? hx))
    · rfl
end
def placesI (os : List Ob) : List Int := os.map fun o => (o.at_ : Int)
theorem placesI_nodup {os : List Ob} {p q : Nat} (h : Chain p os q) : (placesI os).Nodup := by
  have key : ∀ {os : List Ob} {p q : Nat}, Chain p os q → (placesI os).Nodup ∧ ∀ x ∈ placesI os, (p : Int) ≤ x := by
    intro os
    induction os with
    | nil => intro p q _; exact ⟨List.nodup_nil, by simp [placesI]⟩
    | cons o os ih =>
      intro p q h
      obtain ⟨h1, h2⟩ := h
      obtain ⟨h3, h4⟩ := ih h2
      refine ⟨List.nodup_cons.2 ⟨fun hm => ?_, h3⟩, fun x hx => ?_⟩
      · have h5 : ((p + (o.n + 1) : Nat) : Int) ≤ (o.at_ : Int) := h4 _ hm
        omega
      · rcases List.mem_cons.1 hx with rfl | hx
        · show (p : Int) ≤ (o.at_ : Int); omega
        · have := h4 x hx
          omega
  exact (key h).1
theorem sizeF_append (t : St) (A B : List Int) : sizeF t (A ++ B) = sizeF t A + sizeF t B := by simp [sizeF]
theorem sizeF_reverse (t : St) : ∀ (L : List Int), sizeF t L.reverse = sizeF t L
  | [] => rfl
  | x :: L => by
    rw [List.reverse_cons, sizeF_append, sizeF_reverse t L]
    simp [sizeF]
    omega
section
variable {t : St} {k : Kfg} {os : List Ob} {u : Nat}
theorem LinkS.sizeAll {wr : Prop} (h : LinkS t k os u (nameP os wr)) : sizeF t (placesI os) = u := by
  have hh : ∀ o ∈ os, wordsOf t (o.at_ : Int) = o.n := fun o ho => by
    unfold wordsOf
    simp only [Int.toNat_natCast]
    rw [h.head ho]
    simp
  have key : ∀ {os : List Ob} {p q : Nat}, Chain p os q → (∀ o ∈ os, wordsOf t (o.at_ : Int) = o.n) → p + sizeF t (placesI os) = q := by
    intro os
    induction os with
    | nil => intro p q h _; have : p = q := h; simp [sizeF, placesI]; exact this
    | cons o os ih =>
      intro p q h hw
      have h1 := ih h.2 fun o' ho => hw o' (List.mem_cons_of_mem _ ho)
      have h2 := hw o (by simp)
      have e : sizeF t (placesI (o :: os)) = (o.n + 1) + sizeF t (placesI os) := by
        unfold sizeF placesI
        simp only [List.map_cons, List.sum_cons]
        rw [h2]
      rw [e]
      omega
  have := key h.fill.chain hh
  omega
theorem LinkS.names_in (h : LinkS t k os u (nameP os (¬ (0 : Int) = 0))) {o : Ob} (ho : o ∈ os) : ∀ y ∈ nmsOf t (o.at_ : Int), y ∈ placesI os := by
  intro y hy
  unfold nmsOf refsOf at hy
  simp only [Int.toNat_natCast] at hy
  rw [h.head ho] at hy
  simp only [Int.toNat_natCast] at hy
  obtain ⟨⟨i, z⟩, hz, rfl⟩ := List.mem_map.1 hy
  obtain ⟨h1, h2, h3⟩ := namesTo_mem.1 hz
  simp only at h1 h2 h3 ⊢
  have hp := h.names o ho i h1
  rw [← h2] at hp
  rcases hp with hp | ⟨o', ho', hp | ⟨hw, _⟩⟩
  · exact absurd hp h3
  · exact List.mem_map.2 ⟨o', ho', hp.symm⟩
  · exact absurd rfl hw
/-- Named one by one, in whatever order, twice or once: it is they. -/
theorem LinkS.reachAll (h : LinkS t k os u (nameP os (¬ (0 : Int) = 0))) {ws vs : List Int} (hp : ws.Perm (placesI os)) (hv : ∀ x ∈ vs, x ∈ ws) (n : Nat) : reachF (isOb t k 0 u) (nmsOf t) (ws ++ vs) n = ws := by
  have hin : ∀ x ∈ ws, ∃ o ∈ os, x = (o.at_ : Int) := fun x hx => by
    obtain ⟨o, ho, rfl⟩ := List.mem_map.1 (hp.mem_iff.1 hx)
    exact ⟨o, ho, rfl⟩
  refine foF_all (hp.nodup_iff.2 (placesI_nodup h.fill.chain)) (fun x hx => ?_) hv (fun x hx y hy => .inl ?_) n
  · obtain ⟨o, ho, rfl⟩ := hin x hx
    exact h.isOb_at ho
  · obtain ⟨o, ho, rfl⟩ := hin x hx
    exact hp.mem_iff.2 (h.names_in ho y hy)
end
end Go.Proofs.Ythdiehcmjknhiaa
