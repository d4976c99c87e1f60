/-
  tumuluslaw02.M in memory, each row told by a function.
-/
import Derived.Test.YtanjmbjnpcekcaaMDo
set_option linter.unusedSimpArgs false
set_option linter.unusedVariables false
namespace Go.Proofs.Ytanjmbjnpcekcaa
open Go.RowKit Go.Shelf

/-- So many numbers of a function. -/
def row (n : Nat) (N : Nat → Int) : List Int := (List.range n).map N
def rowB (n : Nat) (I : Nat → Bool) : List Value := (List.range n).map fun k => .bool (I k)
theorem row_length (n : Nat) (N : Nat → Int) : (row n N).length = n := by simp [row]
theorem row_get (n : Nat) (N : Nat → Int) (k : Nat) (h : k < n) : (row n N)[k]? = some (N k) := by simp [row, h]
theorem rowB_get (n : Nat) (I : Nat → Bool) (k : Nat) (h : k < n) : (rowB n I)[k]? = some (.bool (I k)) := by simp [rowB, h]
theorem row_of (xs : List Int) : row xs.length (fun k => xs.getD k 0) = xs := by
  apply List.ext_getElem?
  intro k
  by_cases h : k < xs.length
  · rw [row_get _ _ _ h]; simp [h]
  · rw [List.getElem?_eq_none (by rw [row_length]; omega), List.getElem?_eq_none (by omega)]
theorem row_congr (n : Nat) (N N' : Nat → Int) (h : ∀ k, k < n → N k = N' k) : row n N = row n N' := List.map_congr_left fun k hk => h k (List.mem_range.1 hk)
theorem rowB_congr (n : Nat) (N N' : Nat → Bool) (h : ∀ k, k < n → N k = N' k) : rowB n N = rowB n N' := List.map_congr_left fun k hk => by rw [h k (List.mem_range.1 hk)]
theorem row_set (n : Nat) (N : Nat → Int) (k : Nat) (v : Int) : (row n N).set k v = row n fun x => if x = k then v else N x := by
  apply List.ext_getElem?
  intro x
  rw [List.getElem?_set]
  by_cases h : x < n
  · rw [row_get _ _ _ h, row_get _ _ _ h, row_length]
    by_cases e : k = x
    · subst e; simp [h]
    · simp [e, show ¬ x = k from fun h => e h.symm]
  · rw [List.getElem?_eq_none (show (row n N).length ≤ x by rw [row_length]; omega), List.getElem?_eq_none (show (row n fun x => if x = k then v else N x).length ≤ x by rw [row_length]; omega), row_length]
    by_cases e : k = x
    · subst e; simp [h]
    · simp [e]
theorem rowB_set (n : Nat) (I : Nat → Bool) (k : Nat) (v : Bool) : (rowB n I).set k (.bool v) = rowB n fun x => if x = k then v else I x := by
  have hl : ∀ J, (rowB n J).length = n := fun J => by simp [rowB]
  apply List.ext_getElem?
  intro x
  rw [List.getElem?_set]
  by_cases h : x < n
  · rw [rowB_get _ _ _ h, rowB_get _ _ _ h, hl]
    by_cases e : k = x
    · subst e; simp [h]
    · simp [e, show ¬ x = k from fun h => e h.symm]
  · rw [List.getElem?_eq_none (show (rowB n I).length ≤ x by rw [hl]; omega), List.getElem?_eq_none (show (rowB n fun x => if x = k then v else I x).length ≤ x by rw [hl]; omega), hl]
    by_cases e : k = x
    · subst e; simp [h]
    · simp [e]

/-- An M, each row by a function. -/
structure MMem (w : World) (m : MI) (n : Nat) (N K T : Nat → Int) (I : Nat → Bool) : Prop where
  blk : Blk w m.b 62 #[.slice (some ⟨m.nb, 0, none⟩) n n, .slice (some ⟨m.kb, 0, none⟩) n (n + m.kx.length), .slice (some ⟨m.tb, 0, none⟩) n n, .slice (some ⟨m.ib, 0, none⟩) n n]
  now : Blk w m.nb 25 (uw (row n N)).toArray
  kept : Blk w m.kb 25 (uw (row n K) ++ m.kx).toArray
  to : Blk w m.tb 25 (uw (row n T)).toArray
  is : Blk w m.ib 4 (rowB n I).toArray
  nodup : m.blocks.Nodup

theorem MOf.mem {w : World} {m : MI} {s : St} {t : List Int} (h : MOf w m s t) : MMem w m s.now.length (fun k => s.now.getD k 0) (fun k => s.kept.getD k 0) (fun k => t.getD k 0) (fun k => (s.q (k / 8)).isSome) := by
  refine ⟨h.blk, ?_, ?_, ?_, h.is, h.nodup⟩
  · rw [row_of]; exact h.now
  · have := h.kept
    rw [← h.lk, row_of]; exact this
  · have := h.to
    rw [← h.tl, row_of]; exact this

theorem MMem.of {w : World} {m : MI} {n : Nat} {N K T : Nat → Int} {I : Nat → Bool} (h : MMem w m n N K T I) (s : St) (hn : s.now.length = n) (hk : s.kept.length = n) (h8 : ∃ j, s.now.length = 8 * j) (hs : s.now.length ≤ 1099511627776)
    (eN : ∀ k, k < n → N k = s.now.getD k 0) (eK : ∀ k, k < n → K k = s.kept.getD k 0) (eI : ∀ k, k < n → I k = (s.q (k / 8)).isSome) (eT : ∀ k l, k < n → s.q (k / 8) = some l → T k = l.getD (k % 8) 0) : MOf w m s (row n T) := by
  subst hn
  refine ⟨h.blk, ?_, ?_, h.to, ?_, row_length _ _, ?_, hk, h8, hs, h.nodup⟩
  · have := h.now
    rwa [row_congr _ _ _ eN, row_of] at this
  · have := h.kept
    have e : row s.now.length K = s.kept := by rw [row_congr _ _ _ eK, ← hk, row_of]
    rwa [e] at this
  · have := h.is
    rwa [rowB_congr _ _ _ eI] at this
  · intro k l hk hq
    rw [List.getD_eq_getElem?_getD, row_get _ _ _ hk]
    exact eT k l hk hq

section
variable {w w' : World} {m : MI} {n : Nat} {N K T : Nat → Int} {I : Nat → Bool}
theorem MMem.cells (h : MMem w m n N K T I) : w.cell? ⟨m.b, 0, none⟩ = some (.slice (some ⟨m.nb, 0, none⟩) n n) ∧ w.cell? ⟨m.b, 1, none⟩ = some (.slice (some ⟨m.kb, 0, none⟩) n (n + m.kx.length)) ∧
    w.cell? ⟨m.b, 2, none⟩ = some (.slice (some ⟨m.tb, 0, none⟩) n n) ∧ w.cell? ⟨m.b, 3, none⟩ = some (.slice (some ⟨m.ib, 0, none⟩) n n) := by
  have h0 := h.blk.cell 0
  have h1 := h.blk.cell 1
  have h2 := h.blk.cell 2
  have h3 := h.blk.cell 3
  simp at h0 h1 h2 h3
  exact ⟨h0, h1, h2, h3⟩
theorem MMem.at_ (h : MMem w m n N K T I) {k : Nat} (hk : k < n) : w.cell? ⟨m.nb, k, none⟩ = some (.int .u64 (N k)) ∧ w.cell? ⟨m.kb, k, none⟩ = some (.int .u64 (K k)) ∧ w.cell? ⟨m.tb, k, none⟩ = some (.int .u64 (T k)) ∧ w.cell? ⟨m.ib, k, none⟩ = some (.bool (I k)) := by
  refine ⟨?_, ?_, ?_, ?_⟩
  · rw [h.now.cell, getElem?_toArray_uw, row_get _ _ _ hk]; rfl
  · rw [h.kept.cell]
    simp only [List.getElem?_toArray]
    rw [List.getElem?_append_left (by simp [uw, row_length, hk])]
    simp [uw, row_get _ _ _ hk]
  · rw [h.to.cell, getElem?_toArray_uw, row_get _ _ _ hk]; rfl
  · rw [h.is.cell]
    simp only [List.getElem?_toArray]
    exact rowB_get _ _ _ hk
theorem MMem.lt (h : MMem w m n N K T I) : ∀ k ∈ m.blocks, k < w.heap.size := by
  intro k hk
  simp only [MI.blocks, List.mem_cons, List.not_mem_nil, or_false] at hk
  rcases hk with rfl | rfl | rfl | rfl | rfl
  · exact h.blk.lt
  · exact h.now.lt
  · exact h.kept.lt
  · exact h.to.lt
  · exact h.is.lt
theorem MMem.same (h : MMem w m n N K T I) (hb : ∀ k ∈ m.blocks, w'.heap[k]? = w.heap[k]?) : MMem w' m n N K T I := by
  have e := fun k hk => hb k (by simp only [MI.blocks, List.mem_cons, List.not_mem_nil, or_false]; exact hk)
  exact { h with
    blk := (e m.b (by simp)).trans h.blk
    now := (e m.nb (by simp)).trans h.now
    kept := (e m.kb (by simp)).trans h.kept
    to := (e m.tb (by simp)).trans h.to
    is := (e m.ib (by simp)).trans h.is }
theorem MMem.keep (h : MMem w m n N K T I) {x : Nat} {S : List Nat} (hk : Keep x S w w') (hn : ∀ k ∈ m.blocks, k < x ∧ k ∉ S) : MMem w' m n N K T I :=
  h.same fun k hm => hk.block k (hn k hm).1 (hn k hm).2
theorem MMem.heap (h : MMem w m n N K T I) (he : w'.heap = w.heap) : MMem w' m n N K T I := h.same fun k _ => by rw [he]
theorem MMem.setK (h : MMem w m n N K T I) {k : Nat} (hk : k < n) (v : Int) : MMem (w.setCell ⟨m.kb, k, none⟩ (.int .u64 v)) m n N (fun x => if x = k then v else K x) T I := by
  have hn := h.nodup
  simp only [MI.blocks, List.nodup_cons, List.mem_cons, not_or, List.not_mem_nil, not_false_eq_true, and_true] at hn
  refine ⟨h.blk.far (by simp; omega) _, h.now.far (by simp; omega) _, ?_, h.to.far (by simp; omega) _, h.is.far (by simp; omega) _, h.nodup⟩
  have := h.kept.set_ k (.int .u64 v)
  rw [← row_set]
  have e : (uw (row n K) ++ m.kx).toArray.setIfInBounds k (.int .u64 v) = (uw ((row n K).set k v) ++ m.kx).toArray := by
    simp only [List.setIfInBounds_toArray]
    congr 1
    rw [List.set_append_left _ _ (by simp [uw, row_length, hk])]
    simp [uw, List.map_set]
  rw [e] at this
  exact this
theorem MMem.setT (h : MMem w m n N K T I) (k : Nat) (v : Int) : MMem (w.setCell ⟨m.tb, k, none⟩ (.int .u64 v)) m n N K (fun x => if x = k then v else T x) I := by
  have hn := h.nodup
  simp only [MI.blocks, List.nodup_cons, List.mem_cons, not_or, List.not_mem_nil, not_false_eq_true, and_true] at hn
  refine ⟨h.blk.far (by simp; omega) _, h.now.far (by simp; omega) _, h.kept.far (by simp; omega) _, ?_, h.is.far (by simp; omega) _, h.nodup⟩
  rw [← row_set]
  simpa [uw, List.map_set] using h.to.set_ k (.int .u64 v)
theorem MMem.setI (h : MMem w m n N K T I) (k : Nat) (v : Bool) : MMem (w.setCell ⟨m.ib, k, none⟩ (.bool v)) m n N K T (fun x => if x = k then v else I x) := by
  have hn := h.nodup
  simp only [MI.blocks, List.nodup_cons, List.mem_cons, not_or, List.not_mem_nil, not_false_eq_true, and_true] at hn
  refine ⟨h.blk.far (by simp; omega) _, h.now.far (by simp; omega) _, h.kept.far (by simp; omega) _, h.to.far (by simp; omega) _, ?_, h.nodup⟩
  rw [← rowB_set]
  simpa using h.is.set_ k (.bool v)
theorem MMem.congr {N' K' T' : Nat → Int} {I' : Nat → Bool} (h : MMem w m n N K T I) (eN : ∀ k, k < n → N k = N' k) (eK : ∀ k, k < n → K k = K' k) (eT : ∀ k, k < n → T k = T' k) (eI : ∀ k, k < n → I k = I' k) : MMem w m n N' K' T' I' := by
  obtain ⟨h1, h2, h3, h4, h5, h6⟩ := h
  rw [row_congr _ _ _ eN] at h2
  rw [row_congr _ _ _ eK] at h3
  rw [row_congr _ _ _ eT] at h4
  rw [rowB_congr _ _ _ eI] at h5
  exact ⟨h1, h2, h3, h4, h5, h6⟩
end
end Go.Proofs.Ytanjmbjnpcekcaa
