/-
  The words of a device are words.
-/
import Derived.Test.YtbdomdmnjclpdaaFmtP
set_option linter.unusedSimpArgs false
set_option linter.unusedVariables false
set_option maxRecDepth 100000
namespace Go.Proofs.Ytbdomdmnjclpdaa
open Go.RowKit

def Wd (x : Int) : Prop := 0 ≤ x ∧ x ≤ 18446744073709551615
def St.rng (s : St) : Prop := ∀ x ∈ s.now, Wd x
theorem St.rng.nw {s : St} (h : s.rng) (j : Nat) : Wd (s.nw j) := by
  unfold St.nw
  rw [List.getD_eq_getElem?_getD]
  cases hg : s.now[j]? with
  | none => exact ⟨by simp, by simp⟩
  | some x => exact h x (List.mem_of_getElem? hg)
theorem St.rng.store {s : St} (h : s.rng) {k : Nat} {v : Int} (hv : Wd v) : (s.store k v).rng := by
  intro x hx
  rcases List.mem_or_eq_of_mem_set hx with hx | rfl
  · exact h x hx
  · exact hv
def Dop.wd : Dop → Prop
  | .st _ v => Wd v
  | _ => True
theorem St.rng.run {s : St} (h : s.rng) : ∀ l : List Dop, (∀ o ∈ l, o.wd) → (s.run l).rng := by
  intro l
  induction l generalizing s with
  | nil => intro _; exact h
  | cons o l ih =>
    intro ho
    refine ih (s := s.op o) ?_ fun o' h' => ho o' (List.mem_cons_of_mem _ h')
    have := ho o (by simp)
    cases o with
    | st k v => exact h.store this
    | fl k => exact h
    | fe => exact h
theorem fresh_rng {l u : Int} {xs : List Int} (h : ∀ x ∈ xs, Wd x) : (St.fresh l u xs).rng := by
  intro x hx
  have hx' : x ∈ pad xs := hx
  unfold pad at hx'
  rcases List.mem_append.1 hx' with hx | hx
  · exact h x hx
  · have := List.eq_of_mem_replicate hx
    subst this
    exact ⟨by decide, by decide⟩
theorem fill_rng {old : List Int} (n : Nat) (h : ∀ x ∈ old, Wd x) : ∀ x ∈ fill old n, Wd x := by
  intro x hx
  obtain ⟨i, hi⟩ := List.mem_iff_getElem?.1 hx
  rw [fill, fillTo_get] at hi
  split at hi
  · cases hi
    unfold fillAt
    rw [List.getD_eq_getElem?_getD]
    cases hg : old[i % old.length]? with
    | none => exact ⟨by simp, by simp⟩
    | some y => exact h y (List.mem_of_getElem? hg)
  · cases hi
theorem fmtOps_wd {k : Kfg} (hk : k.Ok) : ∀ o ∈ fmtOps k, o.wd := by
  have h1 := hk.l1
  have h2 := hk.r1
  have h3 := hk.s1
  intro o ho
  simp only [fmtOps, fmt1, fmt2, fmt3, cfgOps, recOps, zeroOps, recOp, zeroOp, List.mem_append, List.mem_cons, List.mem_flatMap, List.mem_range, List.not_mem_nil, or_false] at ho
  rcases ho with ((((((rfl | rfl | rfl) | (rfl | rfl | rfl)) | (rfl | rfl)) | ⟨i, _, rfl | rfl⟩) | ⟨i, _, rfl | rfl⟩) | (rfl | rfl | rfl | rfl | rfl)) <;> first | exact trivial | (unfold Dop.wd Wd MAGIC; omega) | (unfold Dop.wd Wd; omega)
theorem fmt_rng {k : Kfg} (hk : k.Ok) {old : List Int} (h : ∀ x ∈ old, Wd x) : ((St.fresh (-1) 0 (fill old k.words)).run (fmtOps k)).rng := (fresh_rng (fill_rng _ h)).run _ (fmtOps_wd hk)
end Go.Proofs.Ytbdomdmnjclpdaa
