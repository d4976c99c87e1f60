/-
  Plain: what is reached is closed, and the least such; joined rows; its size.
-/
import Derived.Test.YthdiehcmjknhiaaReachA
namespace Go.Proofs.Ythdiehcmjknhiaa
set_option linter.unusedVariables false
section
variable {G : Int → Bool} {nm : Int → List Int} {ws vs : List Int} {B : Nat}
theorem foldl_mem : ∀ (l : List Int) {L : List Int} {x : Int}, x ∈ l → G x = true → x ∈ l.foldl (seeF G) L
  | y :: l, L, x, h, hg => by
    rcases List.mem_cons.1 h with rfl | h
    · refine (foldl_pre l _).subset ?_
      by_cases hx : x ∈ L
      · rw [seeF_old hx]; exact hx
      · rw [seeF_new hx hg]; simp
    · exact foldl_mem l h hg
theorem foldl_only : ∀ (l : List Int) {L : List Int} {x : Int}, x ∈ l.foldl (seeF G) L → x ∈ L ∨ (x ∈ l ∧ G x = true)
  | [], L, x, h => .inl h
  | y :: l, L, x, h => by
    rcases foldl_only l h with h | ⟨h1, h2⟩
    · unfold seeF at h
      split at h
      · exact .inl h
      · rename_i hc
        rcases List.mem_append.1 h with h | h
        · exact .inl h
        · simp at h
          subst h
          refine .inr ⟨by simp, ?_⟩
          cases hg : G x with
          | true => rfl
          | false => exact absurd (by simp [hg]) hc
    · exact .inr ⟨by simp [h1], h2⟩
theorem reach_min {P : Int → Prop} (h1 : ∀ x ∈ ws, G x = true → P x) (h2 : ∀ x, P x → ∀ y ∈ nm x, G y = true → P y) : ∀ n, ∀ x ∈ foF G nm ws n, P x
  | 0 => fun x hx => by
    rcases foldl_only _ hx with h | ⟨h, hg⟩
    · simp at h
    · exact h1 x h hg
  | n + 1 => fun x hx => by
    simp only [foF] at hx
    split at hx
    · rename_i z hz
      rcases foldl_only _ hx with h | ⟨h, hg⟩
      · exact reach_min h1 h2 n x h
      · exact h2 z (reach_min h1 h2 n z (List.mem_of_getElem? hz)) x h hg
    · exact reach_min h1 h2 n x hx
theorem reach_has {x : Int} (hx : x ∈ ws) (hg : G x = true) (n : Nat) : x ∈ foF G nm ws n := by
  have h := (foF_le (G := G) (nm := nm) (ws := ws) 0 n).subset (foldl_mem ws hx hg)
  rwa [Nat.zero_add] at h
theorem reach_closed (hB : ∀ L, Fine G L → L.length ≤ B) {x y : Int} (hx : x ∈ reachF G nm ws B) (hy : y ∈ nm x) (hg : G y = true) : y ∈ reachF G nm ws B := by
  obtain ⟨n, hn, rfl⟩ := List.getElem_of_mem hx
  obtain ⟨z, h1, h2⟩ := foF_at hB hn
  rw [List.getElem?_eq_getElem hn] at h2
  injection h2 with h2
  subst h2
  have h3 : y ∈ foF G nm ws (n + 1) := by
    simp only [foF, h1]
    exact foldl_mem _ hy hg
  exact (foF_reach hB (show n + 1 ≤ _ from hn)).subset h3
theorem reach_join (hB : ∀ L, Fine G L → L.length ≤ B) {x : Int} : x ∈ reachF G nm (ws ++ vs) B ↔ x ∈ reachF G nm ws B ∨ x ∈ reachF G nm vs B := by
  constructor
  · refine reach_min (P := fun x => x ∈ reachF G nm ws B ∨ x ∈ reachF G nm vs B) ?_ ?_ B x
    · intro y hy hg
      rcases List.mem_append.1 hy with h | h
      · exact .inl (reach_has h hg B)
      · exact .inr (reach_has h hg B)
    · rintro z (hz | hz) y hy hg
      · exact .inl (reach_closed hB hz hy hg)
      · exact .inr (reach_closed hB hz hy hg)
  · rintro (h | h)
    · exact reach_min (P := fun x => x ∈ reachF G nm (ws ++ vs) B) (fun y hy hg => reach_has (by simp [hy]) hg B) (fun z hz y hy hg => reach_closed hB hz hy hg) B x h
    · exact reach_min (P := fun x => x ∈ reachF G nm (ws ++ vs) B) (fun y hy hg => reach_has (by simp [hy]) hg B) (fun z hz y hy hg => reach_closed hB hz hy hg) B x h
theorem sizeF_sub {t : St} : ∀ {A L : List Int}, A.Nodup → (∀ x ∈ A, x ∈ L) → sizeF t A ≤ sizeF t L
  | [], L, _, _ => by simp [sizeF]
  | x :: A, L, hn, hs => by
    obtain ⟨L1, L2, rfl⟩ := List.append_of_mem (hs x (by simp))
    rw [List.nodup_cons] at hn
    have ih := sizeF_sub (t := t) (A := A) (L := L1 ++ L2) hn.2 (fun y hy => by
      have h := hs y (by simp [hy])
      simp only [List.mem_append, List.mem_cons] at h ⊢
      rcases h with h | rfl | h
      · exact .inl h
      · exact absurd hy hn.1
      · exact .inr h)
    rw [sizeF_append] at ih ⊢
    simp only [sizeF, List.map_cons, List.sum_cons] at ih ⊢
    omega
end
/-- What is reached fits into what is used. -/
theorem LinkS.reach_size {t : St} {k : Kfg} {os : List Ob} {u : Nat} {wr : Prop} (h : LinkS t k os u (nameP os wr)) (hk : k.Ok) (ws : List Int) (n : Nat) : sizeF t (reachF (isOb t k 0 u) (nmsOf t) ws n) ≤ u := by
  have hf := Fine.fo (G := isOb t k 0 u) (nm := nmsOf t) (ws := ws) n
  have h1 := sizeF_sub (t := t) (L := placesI os) hf.1 (fun x hx => by
    obtain ⟨o, ho, rfl⟩ := (h.isOb_iff' hk).1 (hf.2 x hx)
    exact List.mem_map.2 ⟨o, ho, rfl⟩)
  rw [h.sizeAll] at h1
  exact h1
/-- A name of what is reached is reached. -/
theorem LinkS.reach_names {t : St} {k : Kfg} {os : List Ob} {u : Nat} (h : LinkS t k os u (nameP os (¬ (0 : Int) = 0))) (hk : k.Ok) {ws : List Int} {x y : Int} (hx : x ∈ reachF (isOb t k 0 u) (nmsOf t) ws u) (hy : y ∈ nmsOf t x) : y ∈ reachF (isOb t k 0 u) (nmsOf t) ws u := by
  obtain ⟨o, ho, rfl⟩ := (h.isOb_iff' hk).1 ((Fine.fo (G := isOb t k 0 u) (nm := nmsOf t) (ws := ws) u).2 x hx)
  obtain ⟨o2, ho2, rfl⟩ := List.mem_map.1 (h.names_in ho y hy)
  exact reach_closed Fine.le hx hy (h.isOb_at ho2)
end Go.Proofs.Ythdiehcmjknhiaa
