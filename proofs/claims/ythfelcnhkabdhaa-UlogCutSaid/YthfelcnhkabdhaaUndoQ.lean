/-
  All words but those that have records are one and the same everywhere.
-/
import Derived.Test.YthfelcnhkabdhaaUndoP
set_option linter.unusedSimpArgs false
set_option linter.unusedVariables false
namespace Go.Proofs.Ythfelcnhkabdhaa
open Go.RowKit Go.Shelf

def PA (s : St) (k : Kfg) (n : Nat) (p : Nat → Nat) : Prop := ∀ j, j < k.words → (∀ i, i < n → p i ≠ j) → ∃ x, s.all j x
section
variable {s : St} {k : Kfg} {orig : Nat → Int} {n i : Nat} {p : Nat → Nat} {v : Nat → Int} {x : Int}
/-- What a Format stores. -/
theorem fmt_st {k : Kfg} : ∀ o ∈ fmtOps k, ∀ q x, o = .st q x → q ≤ 3 ∨ q = 8 ∨ (∃ i, i < k.L ∧ q = 16 + 4 * i) ∨ (∃ i, i < 2 + k.R ∧ q = k.act + i) := by
  intro o ho q x e
  subst e
  simp only [fmtOps, fmt1, fmt2, fmt3, cfgOps, recOps, zeroOps, recOp, zeroOp, List.mem_append, List.mem_flatMap, List.mem_cons, List.mem_range, List.not_mem_nil, Dop.st.injEq, reduceCtorEq, or_false, false_or] at ho
  rcases ho with ((((h | h) | h) | h) | h) | h
  · omega
  · omega
  · omega
  · obtain ⟨i, hi, h, _⟩ := h
    exact .inr (.inr (.inl ⟨i, hi, h⟩))
  · obtain ⟨i, hi, h, _⟩ := h
    exact .inr (.inr (.inr ⟨i, hi, h⟩))
  · omega
theorem AllS.startA {s5 : St} {k : Kfg} (hk : k.Ok) (hA : AllS s5 k) {old : List Int} (hE : s5 = (St.fresh (-1) 0 (fill old k.words)).run (fmtOps k)) (p : Nat → Nat) : PA s5 k 0 p := by
  intro j hj _
  have hw := Kfg.words_le hk
  have hac := k.act_le
  by_cases h0 : j ≤ 3 ∨ j = 8 ∨ (∃ i, i < k.L ∧ j = 16 + 4 * i) ∨ (∃ i, i < 2 + k.R ∧ j = k.act + i)
  · rcases h0 with h | rfl | ⟨i, hi, rfl⟩ | ⟨i, hi, rfl⟩
    · have : j = 0 ∨ j = 1 ∨ j = 2 ∨ j = 3 := by omega
      rcases this with rfl | rfl | rfl | rfl
      · exact ⟨_, hA.w0⟩
      · exact ⟨_, hA.w1⟩
      · exact ⟨_, hA.w2⟩
      · exact ⟨_, hA.w3⟩
    · exact ⟨_, hA.w8⟩
    · exact ⟨_, hA.recs i hi⟩
    · exact ⟨_, hA.zer i hi⟩
  · have h := St.all_run hj (fmtOps k) (fresh_fill old k) (fresh_all (-1) 0 (fill old k.words) j) fun o ho q x e => by
      have h1 := fmt_st o ho q x e
      refine ⟨?_, fun hq => h0 (hq ▸ h1)⟩
      rcases h1 with h | h | ⟨i, hi, h⟩ | ⟨i, hi, h⟩ <;> omega
    rw [← hE] at h
    exact ⟨_, h⟩
theorem PA.app (hk : k.Ok) (hI : s.Is k.words) (h : P1 s k orig n p v) (ha : PA s k n p) (hn : n < k.L) (hi : k.act ≤ i ∧ i < k.words) (hx : s.nw i = x) : PA (s.run (appOps 1 n i x)) k (n + 1) (upd p n i) := by
  have hw := Kfg.words_le hk
  have hac := k.act_le
  have h1 := h.app hk hI hn hi hx
  intro j hj hu
  by_cases hj0 : j = 16 + 4 * n ∨ j = 16 + 4 * n + 1 ∨ j = 16 + 4 * n + 2
  · rcases hj0 with rfl | rfl | rfl
    · exact ⟨_, h1.st n (by omega)⟩
    · exact ⟨_, h1.pl n (by omega)⟩
    · exact ⟨_, h1.vl n (by omega)⟩
  · obtain ⟨y, hy⟩ := ha j hj fun q hq => by have := hu q (by omega); rwa [show upd p n i q = p q from if_neg (by omega)] at this
    refine ⟨y, St.all_run hj _ hI hy fun o ho q z e => ?_⟩
    simp [appOps] at ho
    rcases ho with rfl | rfl | rfl | rfl | rfl | rfl | rfl <;> cases e <;> exact ⟨by omega, by omega⟩
theorem PA.store (hk : k.Ok) (hI : s.Is k.words) (h : P1 s k orig n p v) (ha : PA s k n p) (hi : i < n) (x : Int) : PA (s.store (p i) x) k n p := by
  intro j hj hu
  obtain ⟨y, hy⟩ := ha j hj hu
  refine ⟨y, St.all_run hj [.st (p i) x] hI hy fun o ho q z e => ?_⟩
  simp at ho
  subst ho
  cases e
  exact ⟨(h.rng i hi).2, hu i hi⟩
theorem back_st : ∀ m, m ≤ n → ∀ o ∈ backOps p v n m, ∀ q x, o = .st q x → ∃ i, i < n ∧ q = p i
  | 0, _, o, ho, _, _, _ => by simp [backOps] at ho
  | m + 1, hm, o, ho, q, x, e => by
    simp only [backOps] at ho
    rcases List.mem_append.1 ho with ho | ho
    · exact back_st m (by omega) o ho q x e
    · simp at ho
      rcases ho with rfl | rfl <;> cases e
      exact ⟨n - 1 - m, by omega, rfl⟩
theorem PA.undo (hk : k.Ok) (hI : s.Is k.words) (h : P1 s k orig n p v) (ha : PA s k n p) : ∀ j, j < k.words → ∃ x, (s.run (undoOps 1 p v n)).all j x := by
  intro j hj
  have hw := Kfg.words_le hk
  have hac := k.act_le
  rcases Nat.lt_or_ge j k.act with hja | hja
  · by_cases hn : n = 0
    · subst hn
      rw [undo_none]
      exact ha j hj fun i hi => by omega
    · by_cases h8 : j = 8
      · subst h8
        exact ⟨_, (h.undo hk hI (by omega)).epo⟩
      · obtain ⟨y, hy⟩ := ha j hj fun i hi => by have := h.rng i hi; omega
        refine ⟨y, St.all_run hj _ hI hy fun o ho q z e => ?_⟩
        unfold undoOps at ho
        rw [if_neg hn] at ho
        rcases List.mem_append.1 ho with ho | ho
        · rcases List.mem_append.1 ho with ho | ho
          · obtain ⟨i, hi, rfl⟩ := back_st n (Nat.le_refl _) o ho q z e
            have := h.rng i hi
            exact ⟨this.2, by omega⟩
          · simp at ho; subst ho; cases e
        · simp [truncOps] at ho
          rcases ho with rfl | rfl | rfl <;> cases e
          exact ⟨by omega, by omega⟩
  · exact ⟨_, h.undo_all hk hI j hja hj⟩
end
theorem now_ext {s t : St} {N : Nat} (hs : s.Is N) (ht : t.Is N) (h : ∀ j, j < N → t.nw j = s.nw j) : t.now = s.now := by
  apply List.ext_getElem
  · rw [ht.now, hs.now]
  · intro j h1 h2
    have := h j (by rw [ht.now] at h1; exact h1)
    unfold St.nw at this
    rw [List.getD_eq_getElem?_getD, List.getD_eq_getElem?_getD, List.getElem?_eq_getElem h1, List.getElem?_eq_getElem h2] at this
    simpa using this
theorem crash_same {s : St} {N : Nat} (hI : s.Is N) (h : ∀ j, j < N → ∃ x, s.all j x) (ch : Nat → Int) : (s.crash ch).now = s.now :=
  now_ext hI (hI.crash ch) fun j hj => by
    obtain ⟨x, hx⟩ := h j hj
    rw [St.nw_crash hI ch hj, hx.left ch, hx.1]
/-- The words from a on. -/
theorem drop_ext {xs ys : List Int} {a N : Nat} (hx : xs.length = N) (hy : ys.length = N) (h : ∀ j, a ≤ j → j < N → ys.getD j 0 = xs.getD j 0) : ys.drop a = xs.drop a := by
  apply List.ext_getElem
  · rw [List.length_drop, List.length_drop, hx, hy]
  · intro j h1 h2
    rw [List.length_drop] at h1 h2
    have := h (a + j) (by omega) (by omega)
    rw [List.getD_eq_getElem?_getD, List.getD_eq_getElem?_getD, List.getElem?_eq_getElem (by omega), List.getElem?_eq_getElem (by omega)] at this
    rw [List.getElem_drop, List.getElem_drop]
    simpa using this
theorem undo_zero (d : DevI) (s : St) (k : Kfg) (ep : Int) (g : Nat) (w : World) (h : Dev w d s) (hb : Blk w g 79 (logC d k ep 0)) (hgd : g ∉ d.blocks) (hk : k.Ok) (hI : s.Is k.words) (he0 : 0 ≤ ep) (he1 : ep < 4294967296) :
    Calls Try.prog 28 #[.pointer (some ⟨g, 0, none⟩)] w fun e w' => e = .returned (.tuple #[]) ∧ Dev w' d s ∧ Blk w' g 79 (logC d k ep 0) ∧ Keep w.heap.size (d.blocks ++ [g]) w w' := by
  refine (undo_any d s k ep 0 g (fun _ => 0) (fun _ => 0) w h hb hgd hk hI he0 he1 (by omega) (fun i hi => by omega)).mono ?_
  rintro e w' (⟨he, h1, h2, h3⟩ | ⟨m, hm, _⟩)
  · rw [undo_none] at h1
    exact ⟨he, h1, h2, h3⟩
  · rw [undo_none] at hm
    simp at hm

/-- All words are one and the same everywhere. -/
def PB (s : St) (k : Kfg) : Prop := ∀ j, j < k.words → ∃ x, s.all j x
section
variable {s : St} {k : Kfg} {orig : Nat → Int} {n i : Nat} {p : Nat → Nat} {v : Nat → Int} {x : Int}
theorem PB.app (hk : k.Ok) (hI : s.Is k.words) (h : P1 s k orig n p v) (ha : PB s k) (hn : n < k.L) (hi : k.act ≤ i ∧ i < k.words) (hx : s.nw i = x) : PB (s.run (appOps 1 n i x)) k := by
  have hw := Kfg.words_le hk
  have hac := k.act_le
  have h1 := h.app hk hI hn hi hx
  intro j hj
  by_cases hj0 : j = 16 + 4 * n ∨ j = 16 + 4 * n + 1 ∨ j = 16 + 4 * n + 2
  · rcases hj0 with rfl | rfl | rfl
    · exact ⟨_, h1.st n (by omega)⟩
    · exact ⟨_, h1.pl n (by omega)⟩
    · exact ⟨_, h1.vl n (by omega)⟩
  · obtain ⟨y, hy⟩ := ha j hj
    refine ⟨y, St.all_run hj _ hI hy fun o ho q z e => ?_⟩
    simp [appOps] at ho
    rcases ho with rfl | rfl | rfl | rfl | rfl | rfl | rfl <;> cases e <;> exact ⟨by omega, by omega⟩
theorem PB.sff (hI : s.Is k.words) (ha : PB s k) {q : Nat} (hq : q < k.words) (y : Int) : PB (((s.store q y).flush q).fence) k := by
  intro j hj
  have i1 := hI.store q y
  have i2 := i1.flush q
  by_cases hjq : j = q
  · subst hjq
    have n1 : (s.store j y).nw j = y := by rw [St.nw_store hI hq, if_pos rfl]
    have p2 : ((s.store j y).flush j).pd j = y := by rw [St.pd_flush, if_pos rfl]; exact n1
    exact ⟨y, n1, by rw [St.pd_fence i2 hj]; exact p2, by rw [St.kp_fence i2 hj]; exact p2⟩
  · obtain ⟨x, hx⟩ := ha j hj
    refine ⟨x, St.all_run hj [.st q y, .fl q, .fe] hI hx fun o ho r z e => ?_⟩
    simp at ho
    rcases ho with rfl | rfl | rfl <;> cases e
    exact ⟨hq, Ne.symm hjq⟩
theorem P1.sff (hk : k.Ok) (hI : s.Is k.words) (h : P1 s k orig n p v) (hi : i < n) (y : Int) : P1 (((s.store (p i) y).flush (p i)).fence) k orig n p v :=
  (h.store hk hI hi y).run hk (hI.store _ _) [.fl (p i), .fe] fun o ho q z e => by
    simp at ho
    rcases ho with rfl | rfl <;> cases e
/-- Another power. -/
theorem P1.power (hk : k.Ok) (h : P1 s k orig n p v) (l u : Int) : P1 { s with l := l, u := u } k orig n p v := h.of_all hk fun j x _ ha _ => ha
/-- Truncated, cut anywhere, and left anyhow. -/
theorem trunc_cut (hk : k.Ok) (hI : s.Is k.words) (h : P1 s k orig n p v) (ha : PB s k) (m : Nat) (hm : m ≤ 3) (ch : Nat → Int) :
    (∀ j, k.act ≤ j → j < k.words → ((s.run ((truncOps 1).take m)).crash ch).nw j = s.nw j) ∧
    ((m < 3 ∧ ((s.run ((truncOps 1).take m)).crash ch).nw 8 = 1 ∧ LogIs ((s.run ((truncOps 1).take m)).crash ch) k 1 n) ∨ (((s.run ((truncOps 1).take m)).crash ch).nw 8 = 2 ∧ LogIs ((s.run ((truncOps 1).take m)).crash ch) k 2 0)) := by
  have hw := Kfg.words_le hk
  have hac := k.act_le
  obtain ⟨l, hl⟩ : ∃ l, (truncOps 1).take m = l := ⟨_, rfl⟩
  have hpre : l <+: truncOps 1 := by rw [← hl]; exact List.take_prefix _ _
  have hlen : l.length = m := by rw [← hl, List.length_take]; show min m 3 = m; omega
  rw [hl]
  have I2 : (s.run l).Is k.words := hI.run _
  have keep : ∀ j y, j < k.words → j ≠ 8 → s.all j y → ((s.run l).crash ch).all j y := fun j y hj hne ha =>
    (trunc_all hk hI l hpre hj hne ha).left ch ▸ St.all_crash I2 ch hj
  refine ⟨fun j hj hjw => ?_, ?_⟩
  · obtain ⟨x, hx⟩ := ha j hjw
    rw [(keep j x hjw (by omega) hx).1, hx.1]
  · have hleft := St.all_crash I2 ch (show 8 < k.words by omega)
    have hv := (trunc_vals hk hI h.epo l hpre).1 (left (s.run l) ch 8) (by
      rcases left_of (s.run l) ch 8 with e | e | e
      · exact .inr (.inl e)
      · exact .inl e
      · exact .inr (.inr e))
    rcases hv with e | e
    · rw [e] at hleft
      refine .inl ⟨?_, hleft.1, (h.of_all (t := (s.run l).crash ch) hk fun j y hj ha _ => ?_).log⟩
      · rcases Nat.lt_or_ge m 3 with h3 | h3
        · exact h3
        · have hall := (trunc_vals hk hI h.epo l hpre).2 (by omega)
          have := hall.left ch
          rw [e] at this
          omega
      · by_cases hj8 : j = 8
        · subst hj8
          have := ha.1.symm.trans h.epo.1
          subst this
          exact hleft
        · exact keep j y hj hj8 ha
    · rw [e] at hleft
      refine .inr ⟨hleft.1, by omega, by rw [hleft.1]; rfl, fun i hi => by omega, fun h0 => ?_⟩
      rcases Nat.lt_or_ge 0 n with hn | hn
      · rw [(keep _ _ (by omega) (by omega) (h.st 0 hn)).1]; unfold stampOf; omega
      · rw [(keep _ _ (by omega) (by omega) (h.no 0 hn h0)).1]; unfold stampOf; omega
end

section
variable {W w w' : World} {S : List Nat} {L : List Res} {r r' q : Res}
/-- Two things become one. -/
theorem Sep.merge (h : Sep W S L w) {i j : Nat} (hij : i ≠ j) (hi : L[i]? = some r) (hj : L[j]? = some q) (hk : Keep w.heap.size (r.blocks ++ q.blocks) w w') (hr : r'.holds w')
    (hb : ∀ k ∈ r'.blocks, k ∈ r.blocks ∨ k ∈ q.blocks) : Sep W S ((L.set i r').set j noR) w' := by
  have lt_of : ∀ {i : Nat} {x : Res}, L[i]? = some x → i < L.length := fun {i x} hx => (List.getElem?_eq_some_iff.1 hx).1
  have hil := lt_of hi
  have hjl := lt_of hj
  have hget : ∀ (l : Nat) (x : Res), ((L.set i r').set j noR)[l]? = some x → (l = j ∧ x = noR) ∨ (l = i ∧ l ≠ j ∧ x = r') ∨ (l ≠ i ∧ l ≠ j ∧ L[l]? = some x) := by
    intro l x hx
    rw [List.getElem?_set] at hx
    by_cases hlj : j = l
    · subst hlj; simp [hjl] at hx; exact .inl ⟨rfl, hx.symm⟩
    · simp [hlj] at hx
      rw [List.getElem?_set] at hx
      by_cases hli : i = l
      · subst hli; simp [hil] at hx; exact .inr (.inl ⟨rfl, fun e => hlj e.symm, hx.symm⟩)
      · simp [hli] at hx; exact .inr (.inr ⟨fun e => hli e.symm, fun e => hlj e.symm, hx⟩)
  have far : ∀ (l : Nat) (x : Res), l ≠ i → l ≠ j → L[l]? = some x → ∀ k ∈ x.blocks, k ∉ r'.blocks := by
    intro l x h1 h2 hx k hkx hkr
    rcases hb k hkr with hm | hm
    · exact h.apart l i x r h1 hx hi k hkx hm
    · exact h.apart l j x q h2 hx hj k hkx hm
  refine ⟨h.keep.join hk h.keep.size (fun k hlt hm => ?_), ?_, ?_, ?_⟩
  · rcases List.mem_append.1 hm with hm | hm
    · exact h.old i r hi k hm hlt
    · exact h.old j q hj k hm hlt
  · intro l x hx
    rcases hget l x hx with ⟨rfl, rfl⟩ | ⟨rfl, _, rfl⟩ | ⟨h1, h2, hx⟩
    · exact trivial
    · exact hr
    · refine x.same w w' (h.all l x hx) fun k hkx => hk.block k (x.lt w (h.all l x hx) k hkx) (fun hm => ?_)
      rcases List.mem_append.1 hm with hm | hm
      · exact h.apart i l r x (fun e => h1 e.symm) hi hx k hm hkx
      · exact h.apart j l q x (fun e => h2 e.symm) hj hx k hm hkx
  · intro l1 l2 a b hne ha hb' k hka hkb
    rcases hget l1 a ha with ⟨_, rfl⟩ | ⟨e1, _, rfl⟩ | ⟨h1, h2, ga⟩
    · simp [noR] at hka
    · rcases hget l2 b hb' with ⟨_, rfl⟩ | ⟨e2, _, rfl⟩ | ⟨h3, h4, gb⟩
      · simp [noR] at hkb
      · exact hne (e1.trans e2.symm)
      · exact far l2 b h3 h4 gb k hkb hka
    · rcases hget l2 b hb' with ⟨_, rfl⟩ | ⟨e2, _, rfl⟩ | ⟨h3, h4, gb⟩
      · simp [noR] at hkb
      · exact far l1 a h1 h2 ga k hka hkb
      · exact h.apart l1 l2 a b hne ga gb k hka hkb
  · intro l x hx k hkx hlt
    rcases hget l x hx with ⟨_, rfl⟩ | ⟨_, _, rfl⟩ | ⟨h1, h2, hx⟩
    · simp [noR] at hkx
    · rcases hb k hkx with hm | hm
      · exact h.old i r hi k hm hlt
      · exact h.old j q hj k hm hlt
    · exact h.old l x hx k hkx hlt
end

/-- A device with another power. -/
theorem power_any (d : DevI) (s : St) (g : Nat) (l : Int) (w : World) (h : Dev w d s) (hb : Blk w g 84 #[.int .i64 l, .int .i64 0]) (hg : g ∉ d.blocks) :
    Calls Try.prog 32 #[.pointer (some ⟨d.b, 0, none⟩), .pointer (some ⟨g, 0, none⟩)] w fun e w' => e = .returned (.tuple #[]) ∧ Dev w' { d with p := g } { s with l := l, u := 0 } ∧ Keep w.heap.size [d.b] w w' := by
  obtain ⟨c0, c1, c2, c3⟩ := h.cells
  have f0 := h.blk.frozen 0
  have hlt := h.lt d.b (by simp [DevI.blocks])
  go_enter Try.func32, Try.ntmps32
  go_wp2
  go_end0
  have hnd := h.nodup
  simp only [DevI.blocks, List.nodup_cons, List.mem_cons, List.not_mem_nil, or_false, not_or] at hnd hg
  obtain ⟨⟨n1, n2, n3, n4⟩, ⟨n5, n6, n7⟩, ⟨n8, n9⟩, n10, _⟩ := hnd
  obtain ⟨g1, g2, g3, g4, g5⟩ := hg
  have far : ∀ k, k ≠ d.b → (w.setCell ⟨d.b, 0, none⟩ (.pointer (some ⟨g, 0, none⟩))).heap[k]? = w.heap[k]? := fun k hk => Below.heap_setCell w _ _ k hk
  have hk : Keep w.heap.size [d.b] w (w.setCell ⟨d.b, 0, none⟩ (.pointer (some ⟨g, 0, none⟩))) := (Keep.refl _ _ _).setCell (by simp) _
  refine ⟨rfl, ⟨?_, ?_, ?_, ?_, ?_, h.lk, h.l8, h.small, ?_⟩, hk⟩
  · exact hb.keep hk hb.lt (by simp; exact g1)
  · have := h.blk.set_ 0 (.pointer (some ⟨g, 0, none⟩))
    simpa using this
  · exact h.now.keep hk h.now.lt (by simp; exact Ne.symm n2)
  · exact h.kept.keep hk h.kept.lt (by simp; exact Ne.symm n3)
  · exact ⟨h.queue.1.same (far _ (Ne.symm n4)), h.queue.2⟩
  · simp only [DevI.blocks, List.nodup_cons, List.mem_cons, List.not_mem_nil, or_false, not_or]
    exact ⟨⟨Ne.symm g1, n2, n3, n4⟩, ⟨g3, g4, g5⟩, ⟨n8, n9⟩, n10, not_false, List.nodup_nil⟩
end Go.Proofs.Ythfelcnhkabdhaa
