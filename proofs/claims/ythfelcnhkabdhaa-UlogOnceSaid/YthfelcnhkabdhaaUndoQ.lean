/-
  All words but those that have records are one and the same everywhere.
-/
import Derived.Test.YthfelcnhkabdhaaUndoP
set_option linter.unusedSimpArgs false
set_option linter.unusedVariables false
namespace Go.Proofs.Ythfelcnhkabdhaa
open Go.RowKit Go.Shelf

def PA (s : St) (k : Kfg) (n : Nat) (p : Nat → Nat) : Prop := ∀ j, j < k.words → (∀ i, i < n → p i ≠ j) → ∃ x, s.all j x
section
variable {s : St} {k : Kfg} {orig : Nat → Int} {n i : Nat} {p : Nat → Nat} {v : Nat → Int} {x : Int}
/-- What a Format stores. -/
theorem fmt_st {k : Kfg} : ∀ o ∈ fmtOps k, ∀ q x, o = .st q x → q ≤ 3 ∨ q = 8 ∨ (∃ i, i < k.L ∧ q = 16 + 4 * i) ∨ (∃ i, i < 2 + k.R ∧ q = k.act + i) := by
  intro o ho q x e
  subst e
  simp only [fmtOps, fmt1, fmt2, fmt3, cfgOps, recOps, zeroOps, recOp, zeroOp, List.mem_append, List.mem_flatMap, List.mem_cons, List.mem_range, List.not_mem_nil, Dop.st.injEq, reduceCtorEq, or_false, false_or] at ho
  rcases ho with ((((h | h) | h) | h) | h) | h
  · omega
  · omega
  · omega
  · obtain ⟨i, hi, h, _⟩ := h
    exact .inr (.inr (.inl ⟨i, hi, h⟩))
  · obtain ⟨i, hi, h, _⟩ := h
    exact .inr (.inr (.inr ⟨i, hi, h⟩))
  · omega
theorem AllS.startA {s5 : St} {k : Kfg} (hk : k.Ok) (hA : AllS s5 k) {old : List Int} (hE : s5 = (St.fresh (-1) 0 (fill old k.words)).run (fmtOps k)) (p : Nat → Nat) : PA s5 k 0 p := by
  intro j hj _
  have hw := Kfg.words_le hk
  have hac := k.act_le
  by_cases h0 : j ≤ 3 ∨ j = 8 ∨ (∃ i, i < k.L ∧ j = 16 + 4 * i) ∨ (∃ i, i < 2 + k.R ∧ j = k.act + i)
  · rcases h0 with h | rfl | ⟨i, hi, rfl⟩ | ⟨i, hi, rfl⟩
    · have : j = 0 ∨ j = 1 ∨ j = 2 ∨ j = 3 := by omega
      rcases this with rfl | rfl | rfl | rfl
      · exact ⟨_, hA.w0⟩
      · exact ⟨_, hA.w1⟩
      · exact ⟨_, hA.w2⟩
      · exact ⟨_, hA.w3⟩
    · exact ⟨_, hA.w8⟩
    · exact ⟨_, hA.recs i hi⟩
    · exact ⟨_, hA.zer i hi⟩
  · have h := St.all_run hj (fmtOps k) (fresh_fill old k) (fresh_all (-1) 0 (fill old k.words) j) fun o ho q x e => by
      have h1 := fmt_st o ho q x e
      refine ⟨?_, fun hq => h0 (hq ▸ h1)⟩
      rcases h1 with h | h | ⟨i, hi, h⟩ | ⟨i, hi, h⟩ <;> omega
    rw [← hE] at h
    exact ⟨_, h⟩
theorem PA.app (hk : k.Ok) (hI : s.Is k.words) (h : P1 s k orig n p v) (ha : PA s k n p) (hn : n < k.L) (hi : k.act ≤ i ∧ i < k.words) (hx : s.nw i = x) : PA (s.run (appOps 1 n i x)) k (n + 1) (upd p n i) := by
  have hw := Kfg.words_le hk
  have hac := k.act_le
  have h1 := h.app hk hI hn hi hx
  intro j hj hu
  by_cases hj0 : j = 16 + 4 * n ∨ j = 16 + 4 * n + 1 ∨ j = 16 + 4 * n + 2
  · rcases hj0 with rfl | rfl | rfl
    · exact ⟨_, h1.st n (by omega)⟩
    · exact ⟨_, h1.pl n (by omega)⟩
    · exact ⟨_, h1.vl n (by omega)⟩
  · obtain ⟨y, hy⟩ := ha j hj fun q hq => by have := hu q (by omega); rwa [show upd p n i q = p q from if_neg (by omega)] at this
    refine ⟨y, St.all_run hj _ hI hy fun o ho q z e => ?_⟩
    simp [appOps] at ho
    rcases ho with rfl | rfl | rfl | rfl | rfl | rfl | rfl <;> cases e <;> exact ⟨by omega, by omega⟩
theorem PA.store (hk : k.Ok) (hI : s.Is k.words) (h : P1 s k orig n p v) (ha : PA s k n p) (hi : i < n) (x : Int) : PA (s.store (p i) x) k n p := by
  intro j hj hu
  obtain ⟨y, hy⟩ := ha j hj hu
  refine ⟨y, St.all_run hj [.st (p i) x] hI hy fun o ho q z e => ?_⟩
  simp at ho
  subst ho
  cases e
  exact ⟨(h.rng i hi).2, hu i hi⟩
theorem back_st : ∀ m, m ≤ n → ∀ o ∈ backOps p v n m, ∀ q x, o = .st q x → ∃ i, i < n ∧ q = p i
  | 0, _, o, ho, _, _, _ => by simp [backOps] at ho
  | m + 1, hm, o, ho, q, x, e => by
    simp only [backOps] at ho
    rcases List.mem_append.1 ho with ho | ho
    · exact back_st m (by omega) o ho q x e
    · simp at ho
      rcases ho with rfl | rfl <;> cases e
      exact ⟨n - 1 - m, by omega, rfl⟩
theorem PA.undo (hk : k.Ok) (hI : s.Is k.words) (h : P1 s k orig n p v) (ha : PA s k n p) : ∀ j, j < k.words → ∃ x, (s.run (undoOps 1 p v n)).all j x := by
  intro j hj
  have hw := Kfg.words_le hk
  have hac := k.act_le
  rcases Nat.lt_or_ge j k.act with hja | hja
  · by_cases hn : n = 0
    · subst hn
      rw [undo_none]
      exact ha j hj fun i hi => by omega
    · by_cases h8 : j = 8
      · subst h8
        exact ⟨_, (h.undo hk hI (by omega)).epo⟩
      · obtain ⟨y, hy⟩ := ha j hj fun i hi => by have := h.rng i hi; omega
        refine ⟨y, St.all_run hj _ hI hy fun o ho q z e => ?_⟩
        unfold undoOps at ho
        rw [if_neg hn] at ho
        rcases List.mem_append.1 ho with ho | ho
        · rcases List.mem_append.1 ho with ho | ho
          · obtain ⟨i, hi, rfl⟩ := back_st n (Nat.le_refl _) o ho q z e
            have := h.rng i hi
            exact ⟨this.2, by omega⟩
          · simp at ho; subst ho; cases e
        · simp [truncOps] at ho
          rcases ho with rfl | rfl | rfl <;> cases e
          exact ⟨by omega, by omega⟩
  · exact ⟨_, h.undo_all hk hI j hja hj⟩
end
theorem now_ext {s t : St} {N : Nat} (hs : s.Is N) (ht : t.Is N) (h : ∀ j, j < N → t.nw j = s.nw j) : t.now = s.now := by
  apply List.ext_getElem
  · rw [ht.now, hs.now]
  · intro j h1 h2
    have := h j (by rw [ht.now] at h1; exact h1)
    unfold St.nw at this
    rw [List.getD_eq_getElem?_getD, List.getD_eq_getElem?_getD, List.getElem?_eq_getElem h1, List.getElem?_eq_getElem h2] at this
    simpa using this
theorem crash_same {s : St} {N : Nat} (hI : s.Is N) (h : ∀ j, j < N → ∃ x, s.all j x) (ch : Nat → Int) : (s.crash ch).now = s.now :=
  now_ext hI (hI.crash ch) fun j hj => by
    obtain ⟨x, hx⟩ := h j hj
    rw [St.nw_crash hI ch hj, hx.left ch, hx.1]
/-- The words from a on. -/
theorem drop_ext {xs ys : List Int} {a N : Nat} (hx : xs.length = N) (hy : ys.length = N) (h : ∀ j, a ≤ j → j < N → ys.getD j 0 = xs.getD j 0) : ys.drop a = xs.drop a := by
  apply List.ext_getElem
  · rw [List.length_drop, List.length_drop, hx, hy]
  · intro j h1 h2
    rw [List.length_drop] at h1 h2
    have := h (a + j) (by omega) (by omega)
    rw [List.getD_eq_getElem?_getD, List.getD_eq_getElem?_getD, List.getElem?_eq_getElem (by omega), List.getElem?_eq_getElem (by omega)] at this
    rw [List.getElem_drop, List.getElem_drop]
    simpa using this
theorem undo_zero (d : DevI) (s : St) (k : Kfg) (ep : Int) (g : Nat) (w : World) (h : Dev w d s) (hb : Blk w g 79 (logC d k ep 0)) (hgd : g ∉ d.blocks) (hk : k.Ok) (hI : s.Is k.words) (he0 : 0 ≤ ep) (he1 : ep < 4294967296) :
    Calls Try.prog 28 #[.pointer (some ⟨g, 0, none⟩)] w fun e w' => e = .returned (.tuple #[]) ∧ Dev w' d s ∧ Blk w' g 79 (logC d k ep 0) ∧ Keep w.heap.size (d.blocks ++ [g]) w w' := by
  refine (undo_any d s k ep 0 g (fun _ => 0) (fun _ => 0) w h hb hgd hk hI he0 he1 (by omega) (fun i hi => by omega)).mono ?_
  rintro e w' (⟨he, h1, h2, h3⟩ | ⟨m, hm, _⟩)
  · rw [undo_none] at h1
    exact ⟨he, h1, h2, h3⟩
  · rw [undo_none] at hm
    simp at hm
end Go.Proofs.Ythfelcnhkabdhaa
