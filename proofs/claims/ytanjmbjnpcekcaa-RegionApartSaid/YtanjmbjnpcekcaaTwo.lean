/-
  'a, b := f(x), g(y)' where a and b are structs in variables of their own: whatever order the region draws.
-/
import Derived.Test.YtanjmbjnpcekcaaQuiet
namespace Go.Proofs.Ytanjmbjnpcekcaa
open Go.RowKit

theorem wpOp_in {P : Program} {ops : Array Oper} {Q : Exit → Act → World → Prop} {i : Nat} {o : Oper} {K : Act → World → Prop} {a : Act} {w : World} (ho : ops[i]? = some o) (hg : o.guard = none) (h : o.wp P a w K Q) : wpOp P ops Q i K a w := by
  unfold wpOp
  rw [ho]
  simp only
  rw [if_pos (by simp [Region.wanted, hg])]
  exact .inl h

/-- wp_region_inv, the invariant told of the frame at the start. -/
theorem wp_region_from {P : Program} {Q : Exit → Act → World → Prop} {id : Nat} {a : Act} {w : World} {l : List Oper} (hm : P.follows .mixedOrders = true) (hB : downB .any l.toArray = true) (I : Act → Array Bool → Act → World → Prop) (h0 : I a (Array.replicate l.toArray.size false) a w.drew)
    (hs : ∀ listed a' w i, I a listed a' w → i ∈ Region.ready .any l.toArray listed → wpOp P l.toArray Q i (fun a' w' => I a (listed.setIfInBounds i true) a' w') a' w)
    (he : ∀ listed a' w, I a listed a' w → (∀ i, i < l.toArray.size → listed.getD i false = true) → Q .normal a' w) : (Code.region id l.toArray true).wp P Q a w :=
  wp_region_inv hm hB (I a) h0 hs he

structure TwoMade (T : TypeId) (L : Array Bool) (W1 w' : World) (X C : Value) (cs zs : Array Value) (u7 u8 u11 u12 u13 u14 : Value) : Prop where
  ext : Keep W1.heap.size [] W1 w'
  p0 : L.getD 0 false = true → u11 = X
  p1 : L.getD 1 false = true → u12 = C
  p2 : L.getD 2 false = true → u13 = X
  p3 : L.getD 3 false = true → u14 = C
  p4 : L.getD 4 false = true → ∃ g, u7 = .pointer (some ⟨g, 0, none⟩) ∧ W1.heap.size ≤ g ∧ Blk w' g T (if L.getD 6 false then cs else zs)
  p5 : L.getD 5 false = true → ∃ g, u8 = .pointer (some ⟨g, 0, none⟩) ∧ W1.heap.size ≤ g ∧ Blk w' g T (if L.getD 7 false then cs else zs)
  p45 : L.getD 4 false = true → L.getD 5 false = true → u7 ≠ u8
  o6 : L.getD 6 false = true → L.getD 4 false = true
  o7 : L.getD 7 false = true → L.getD 5 false = true

theorem set_other {L : Array Bool} {i k : Nat} (h : k ≠ i) : (L.setIfInBounds i true).getD k false = L.getD k false := by
  simp only [Array.getD_eq_getD_getElem?, Array.getElem?_setIfInBounds_ne (Ne.symm h)]

theorem set_self' {L : Array Bool} {i : Nat} (h : L.getD i true = false) : (L.setIfInBounds i true).getD i false = true := by
  rcases Nat.lt_or_ge i L.size with hlt | hge
  · simp [hlt]
  · simp [Array.getElem?_eq_none hge] at h

section
variable {T : TypeId} {L : Array Bool} {W1 w' w'' : World} {X C : Value} {cs zs : Array Value} {u7 u8 u11 u12 u13 u14 : Value}

theorem TwoMade.start (T : TypeId) (n : Nat) (W1 : World) (X C : Value) (cs zs : Array Value) (u7 u8 u11 u12 u13 u14 : Value) : TwoMade T (Array.replicate n false) W1 W1.drew X C cs zs u7 u8 u11 u12 u13 u14 := by
  have h : ∀ k, (Array.replicate n false).getD k false = false := fun k => getD_replicate_false n k
  exact ⟨(Keep.refl _ _ _).drew, by simp [h], by simp [h], by simp [h], by simp [h], by simp [h], by simp [h], by simp [h], by simp [h], by simp [h]⟩

/-- A step that turns no block that was there, and is no alloc or store. -/
theorem TwoMade.grow (h : TwoMade T L W1 w' X C cs zs u7 u8 u11 u12 u13 u14) (hk : Keep w'.heap.size [] w' w'') : TwoMade T L W1 w'' X C cs zs u7 u8 u11 u12 u13 u14 :=
  ⟨h.ext.join hk h.ext.size (by simp), h.p0, h.p1, h.p2, h.p3,
    fun hl => let ⟨g, e, hg, hb⟩ := h.p4 hl; ⟨g, e, hg, hb.keep hk hb.lt (by simp)⟩, fun hl => let ⟨g, e, hg, hb⟩ := h.p5 hl; ⟨g, e, hg, hb.keep hk hb.lt (by simp)⟩, h.p45, h.o6, h.o7⟩

theorem TwoMade.s0 (h : TwoMade T L W1 w' X C cs zs u7 u8 u11 u12 u13 u14) : TwoMade T (L.setIfInBounds 0 true) W1 w' X C cs zs u7 u8 X u12 u13 u14 := by
  have e : ∀ k, k ≠ 0 → (L.setIfInBounds 0 true).getD k false = L.getD k false := fun k hk => set_other hk
  obtain ⟨a, b, c, d, f, g, i, j, k1, k2⟩ := h
  refine ⟨a, fun _ => rfl, ?_, ?_, ?_, ?_, ?_, ?_, ?_, ?_⟩ <;> simp only [e 1 (by decide), e 2 (by decide), e 3 (by decide), e 4 (by decide), e 5 (by decide), e 6 (by decide), e 7 (by decide)] <;> assumption
theorem TwoMade.s1 (h : TwoMade T L W1 w' X C cs zs u7 u8 u11 u12 u13 u14) : TwoMade T (L.setIfInBounds 1 true) W1 w' X C cs zs u7 u8 u11 C u13 u14 := by
  have e : ∀ k, k ≠ 1 → (L.setIfInBounds 1 true).getD k false = L.getD k false := fun k hk => set_other hk
  obtain ⟨a, b, c, d, f, g, i, j, k1, k2⟩ := h
  refine ⟨a, ?_, fun _ => rfl, ?_, ?_, ?_, ?_, ?_, ?_, ?_⟩ <;> simp only [e 0 (by decide), e 2 (by decide), e 3 (by decide), e 4 (by decide), e 5 (by decide), e 6 (by decide), e 7 (by decide)] <;> assumption
theorem TwoMade.s2 (h : TwoMade T L W1 w' X C cs zs u7 u8 u11 u12 u13 u14) : TwoMade T (L.setIfInBounds 2 true) W1 w' X C cs zs u7 u8 u11 u12 X u14 := by
  have e : ∀ k, k ≠ 2 → (L.setIfInBounds 2 true).getD k false = L.getD k false := fun k hk => set_other hk
  obtain ⟨a, b, c, d, f, g, i, j, k1, k2⟩ := h
  refine ⟨a, ?_, ?_, fun _ => rfl, ?_, ?_, ?_, ?_, ?_, ?_⟩ <;> simp only [e 0 (by decide), e 1 (by decide), e 3 (by decide), e 4 (by decide), e 5 (by decide), e 6 (by decide), e 7 (by decide)] <;> assumption
theorem TwoMade.s3 (h : TwoMade T L W1 w' X C cs zs u7 u8 u11 u12 u13 u14) : TwoMade T (L.setIfInBounds 3 true) W1 w' X C cs zs u7 u8 u11 u12 u13 C := by
  have e : ∀ k, k ≠ 3 → (L.setIfInBounds 3 true).getD k false = L.getD k false := fun k hk => set_other hk
  obtain ⟨a, b, c, d, f, g, i, j, k1, k2⟩ := h
  refine ⟨a, ?_, ?_, ?_, fun _ => rfl, ?_, ?_, ?_, ?_, ?_⟩ <;> simp only [e 0 (by decide), e 1 (by decide), e 2 (by decide), e 4 (by decide), e 5 (by decide), e 6 (by decide), e 7 (by decide)] <;> assumption
theorem TwoMade.s4 (h : TwoMade T L W1 w' X C cs zs u7 u8 u11 u12 u13 u14) (h4u : L.getD 4 true = false) : TwoMade T (L.setIfInBounds 4 true) W1 (w'.alloc (.cells zs T)) X C cs zs (.pointer (some ⟨w'.heap.size, 0, none⟩)) u8 u11 u12 u13 u14 := by
  have e : ∀ k, k ≠ 4 → (L.setIfInBounds 4 true).getD k false = L.getD k false := fun k hk => set_other hk
  have hk : Keep w'.heap.size [] w' (w'.alloc (.cells zs T)) := (Keep.refl _ _ _).alloc (Nat.le_refl _) _
  have hg := h.grow hk
  have hs := h.ext.size
  have h6 : L.getD 6 false = false := by
    cases h6 : L.getD 6 false with
    | false => rfl
    | true => have := h.o6 h6; rw [getD_both h4u] at this; cases this
  refine ⟨hg.ext, ?_, ?_, ?_, ?_, fun _ => ⟨_, rfl, hs, by rw [e 6 (by decide), h6]; exact Blk.new w' T zs⟩, ?_, ?_, ?_, ?_⟩
  · simpa only [e 0 (by decide)] using hg.p0
  · simpa only [e 1 (by decide)] using hg.p1
  · simpa only [e 2 (by decide)] using hg.p2
  · simpa only [e 3 (by decide)] using hg.p3
  · simpa only [e 5 (by decide), e 7 (by decide)] using hg.p5
  · intro _ h5
    rw [e 5 (by decide)] at h5
    obtain ⟨g, rfl, _, hb⟩ := h.p5 h5
    have := hb.lt
    intro hc
    injection hc with hc
    injection hc with hc
    injection hc with hc
    omega
  · intro _; exact set_self' h4u
  · simpa only [e 7 (by decide), e 5 (by decide)] using h.o7
theorem TwoMade.s5 (h : TwoMade T L W1 w' X C cs zs u7 u8 u11 u12 u13 u14) (h5u : L.getD 5 true = false) : TwoMade T (L.setIfInBounds 5 true) W1 (w'.alloc (.cells zs T)) X C cs zs u7 (.pointer (some ⟨w'.heap.size, 0, none⟩)) u11 u12 u13 u14 := by
  have e : ∀ k, k ≠ 5 → (L.setIfInBounds 5 true).getD k false = L.getD k false := fun k hk => set_other hk
  have hk : Keep w'.heap.size [] w' (w'.alloc (.cells zs T)) := (Keep.refl _ _ _).alloc (Nat.le_refl _) _
  have hg := h.grow hk
  have hs := h.ext.size
  have h7 : L.getD 7 false = false := by
    cases h7 : L.getD 7 false with
    | false => rfl
    | true => have := h.o7 h7; rw [getD_both h5u] at this; cases this
  refine ⟨hg.ext, ?_, ?_, ?_, ?_, ?_, fun _ => ⟨_, rfl, hs, by rw [e 7 (by decide), h7]; exact Blk.new w' T zs⟩, ?_, ?_, ?_⟩
  · simpa only [e 0 (by decide)] using hg.p0
  · simpa only [e 1 (by decide)] using hg.p1
  · simpa only [e 2 (by decide)] using hg.p2
  · simpa only [e 3 (by decide)] using hg.p3
  · simpa only [e 4 (by decide), e 6 (by decide)] using hg.p4
  · intro h4 _
    rw [e 4 (by decide)] at h4
    obtain ⟨g, rfl, _, hb⟩ := h.p4 h4
    have := hb.lt
    intro hc
    injection hc with hc
    injection hc with hc
    injection hc with hc
    omega
  · simpa only [e 6 (by decide), e 4 (by decide)] using h.o6
  · intro _; exact set_self' h5u
theorem TwoMade.s6 {g : Nat} (h : TwoMade T L W1 w' X C cs zs (.pointer (some ⟨g, 0, none⟩)) u8 u11 u12 u13 u14) (h4 : L.getD 4 false = true) (hb : Blk w'' g T cs) (hk : Keep w'.heap.size [g] w' w'') (hg : W1.heap.size ≤ g) (h6 : (L.setIfInBounds 6 true).getD 6 false = true) :
    TwoMade T (L.setIfInBounds 6 true) W1 w'' X C cs zs (.pointer (some ⟨g, 0, none⟩)) u8 u11 u12 u13 u14 := by
  have e : ∀ k, k ≠ 6 → (L.setIfInBounds 6 true).getD k false = L.getD k false := fun k hk => set_other hk
  refine ⟨h.ext.join hk h.ext.size (by intro k hk hm; simp at hm; omega), ?_, ?_, ?_, ?_, fun _ => ⟨_, rfl, hg, by rw [h6]; exact hb⟩, ?_, ?_, ?_, ?_⟩
  · simpa only [e 0 (by decide)] using h.p0
  · simpa only [e 1 (by decide)] using h.p1
  · simpa only [e 2 (by decide)] using h.p2
  · simpa only [e 3 (by decide)] using h.p3
  · intro h5
    rw [e 5 (by decide)] at h5
    obtain ⟨g', rfl, hg', hb'⟩ := h.p5 h5
    have hne := h.p45 h4 h5
    refine ⟨g', rfl, hg', ?_⟩
    rw [e 7 (by decide)]
    exact hb'.keep hk hb'.lt (by simp; rintro rfl; exact hne rfl)
  · simpa only [e 4 (by decide), e 5 (by decide)] using h.p45
  · intro _; rw [e 4 (by decide)]; exact h4
  · simpa only [e 7 (by decide), e 5 (by decide)] using h.o7
theorem TwoMade.s7 {g : Nat} (h : TwoMade T L W1 w' X C cs zs u7 (.pointer (some ⟨g, 0, none⟩)) u11 u12 u13 u14) (h5 : L.getD 5 false = true) (hb : Blk w'' g T cs) (hk : Keep w'.heap.size [g] w' w'') (hg : W1.heap.size ≤ g) (h7 : (L.setIfInBounds 7 true).getD 7 false = true) :
    TwoMade T (L.setIfInBounds 7 true) W1 w'' X C cs zs u7 (.pointer (some ⟨g, 0, none⟩)) u11 u12 u13 u14 := by
  have e : ∀ k, k ≠ 7 → (L.setIfInBounds 7 true).getD k false = L.getD k false := fun k hk => set_other hk
  refine ⟨h.ext.join hk h.ext.size (by intro k hk hm; simp at hm; omega), ?_, ?_, ?_, ?_, ?_, fun _ => ⟨_, rfl, hg, by rw [h7]; exact hb⟩, ?_, ?_, ?_⟩
  · simpa only [e 0 (by decide)] using h.p0
  · simpa only [e 1 (by decide)] using h.p1
  · simpa only [e 2 (by decide)] using h.p2
  · simpa only [e 3 (by decide)] using h.p3
  · intro h4
    rw [e 4 (by decide)] at h4
    obtain ⟨g', rfl, hg', hb'⟩ := h.p4 h4
    have hne := h.p45 h4 h5
    refine ⟨g', rfl, hg', ?_⟩
    rw [e 6 (by decide)]
    exact hb'.keep hk hb'.lt (by simp; rintro rfl; exact hne rfl)
  · simpa only [e 4 (by decide), e 5 (by decide)] using h.p45
  · simpa only [e 6 (by decide), e 4 (by decide)] using h.o6
  · intro _; rw [e 5 (by decide)]; exact h5
end
end Go.Proofs.Ytanjmbjnpcekcaa
