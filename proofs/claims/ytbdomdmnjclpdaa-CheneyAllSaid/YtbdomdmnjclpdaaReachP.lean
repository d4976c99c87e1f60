/-
  What is reached: the plain laws.
  Which words are objects, on a device with linked objects.
-/
import Derived.Test.YtbdomdmnjclpdaaWalkP
import Derived.Test.YtbdomdmnjclpdaaNames
import Derived.Test.YtbdomdmnjclpdaaLink
set_option linter.unusedSimpArgs false
set_option linter.unusedVariables false
set_option maxRecDepth 100000
namespace Go.Proofs.Ytbdomdmnjclpdaa
open Go.RowKit Go.Shelf

/-- Does a number name an object? -/
def isOb (t : St) (k : Kfg) (a u : Nat) (x : Int) : Bool := hasB k a u x && decide (goodAt t (k.from_ a + u) x.toNat)
def wordsOf (t : St) (x : Int) : Nat := (headOf (t.nw x.toNat)).1.toNat
def refsOf (t : St) (x : Int) : Nat := (headOf (t.nw x.toNat)).2.1.toNat
def nmsOf (t : St) (x : Int) : List Int := (namesTo t x.toNat (refsOf t x)).map (·.2)
def seeF (G : Int → Bool) (L : List Int) (x : Int) : List Int := if L.contains x || !G x then L else L ++ [x]
def foF (G : Int → Bool) (nm : Int → List Int) (ws : List Int) : Nat → List Int
  | 0 => ws.foldl (seeF G) []
  | n + 1 => match (foF G nm ws n)[n]? with
    | some x => (nm x).foldl (seeF G) (foF G nm ws n)
    | none => foF G nm ws n
section
variable {G : Int → Bool} {nm : Int → List Int} {ws : List Int}
theorem seeF_pre (L : List Int) (x : Int) : L <+: seeF G L x := by
  unfold seeF
  split
  · exact List.prefix_refl _
  · exact List.prefix_append _ _
theorem seeF_old {L : List Int} {x : Int} (h : x ∈ L) : seeF G L x = L := by unfold seeF; rw [if_pos (by simp [h])]
theorem seeF_no {L : List Int} {x : Int} (h : G x = false) : seeF G L x = L := by unfold seeF; rw [if_pos (by simp [h])]
theorem seeF_new {L : List Int} {x : Int} (h : x ∉ L) (hg : G x = true) : seeF G L x = L ++ [x] := by unfold seeF; rw [if_neg (by simp [h, hg])]
theorem foldl_pre : ∀ (l : List Int) (L : List Int), L <+: l.foldl (seeF G) L
  | [], L => List.prefix_refl _
  | x :: l, L => (seeF_pre L x).trans (foldl_pre l _)
/-- All of them are objects, and none comes twice. -/
def Fine (G : Int → Bool) (L : List Int) : Prop := L.Nodup ∧ ∀ x ∈ L, G x = true
theorem Fine.see {L : List Int} (h : Fine G L) (x : Int) : Fine G (seeF G L x) := by
  by_cases hx : x ∈ L
  · rw [seeF_old hx]; exact h
  · cases hg : G x with
    | false => rw [seeF_no hg]; exact h
    | true =>
      rw [seeF_new hx hg]
      refine ⟨List.nodup_append.2 ⟨h.1, by simp, fun y hy z hz => ?_⟩, fun y hy => ?_⟩
      · simp at hz; subst hz; rintro rfl; exact hx hy
      · rcases List.mem_append.1 hy with hy | hy
        · exact h.2 y hy
        · simp at hy; subst hy; exact hg
theorem Fine.foldl : ∀ (l : List Int) {L : List Int}, Fine G L → Fine G (l.foldl (seeF G) L)
  | [], L, h => h
  | x :: l, L, h => Fine.foldl l (h.see x)
theorem Fine.fo : ∀ n, Fine G (foF G nm ws n)
  | 0 => Fine.foldl ws ⟨List.nodup_nil, by simp⟩
  | n + 1 => by
    simp only [foF]
    split
    · exact Fine.foldl _ (Fine.fo n)
    · exact Fine.fo n
theorem foF_pre (n : Nat) : foF G nm ws n <+: foF G nm ws (n + 1) := by
  simp only [foF]
  split
  · exact foldl_pre _ _
  · exact List.prefix_refl _
theorem foF_le (n : Nat) : ∀ m, foF G nm ws n <+: foF G nm ws (n + m)
  | 0 => List.prefix_refl _
  | m + 1 => (foF_le n m).trans (foF_pre (n + m))
theorem foF_stop {n : Nat} (h : (foF G nm ws n).length ≤ n) : ∀ m, foF G nm ws (n + m) = foF G nm ws n
  | 0 => rfl
  | m + 1 => by
    rw [← Nat.add_assoc]
    simp only [foF]
    rw [foF_stop h m, List.getElem?_eq_none (by omega)]
/-- What is reached, of at most B objects. -/
def reachF (G : Int → Bool) (nm : Int → List Int) (ws : List Int) (B : Nat) : List Int := foF G nm ws B
variable {B : Nat}
theorem foF_reach (hB : ∀ L, Fine G L → L.length ≤ B) {n : Nat} (hn : n ≤ (reachF G nm ws B).length) : foF G nm ws n <+: reachF G nm ws B := by
  have h1 := hB _ (Fine.fo (nm := nm) (ws := ws) B)
  have h2 : n ≤ B := by unfold reachF at hn; omega
  have h3 := foF_le (G := G) (nm := nm) (ws := ws) n (B - n)
  rwa [show n + (B - n) = B by omega] at h3
/-- The next one has been found. -/
theorem foF_next (hB : ∀ L, Fine G L → L.length ≤ B) {n : Nat} (hn : n < (reachF G nm ws B).length) : n < (foF G nm ws n).length := by
  have h1 := hB _ (Fine.fo (nm := nm) (ws := ws) B)
  rcases Nat.lt_or_ge n (foF G nm ws n).length with h | h
  · exact h
  · exfalso
    have h2 : n ≤ B := by unfold reachF at hn; omega
    have h3 := foF_stop h (B - n)
    rw [show n + (B - n) = B by omega] at h3
    unfold reachF at hn
    rw [h3] at hn
    omega
theorem foF_at (hB : ∀ L, Fine G L → L.length ≤ B) {n : Nat} (hn : n < (reachF G nm ws B).length) : ∃ x, (foF G nm ws n)[n]? = some x ∧ (reachF G nm ws B)[n]? = some x := by
  have h1 := foF_next hB hn
  obtain ⟨r, hr⟩ := foF_reach hB (Nat.le_of_lt hn)
  refine ⟨_, List.getElem?_eq_getElem h1, ?_⟩
  rw [← hr, List.getElem?_append_left h1, List.getElem?_eq_getElem h1]
/-- Behind the last one nothing is to come. -/
theorem foF_end (hB : ∀ L, Fine G L → L.length ≤ B) : foF G nm ws (reachF G nm ws B).length = reachF G nm ws B := by
  have hp := foF_reach (nm := nm) (ws := ws) hB (Nat.le_refl _)
  have hl := hp.length_le
  have h1 := hB _ (Fine.fo (nm := nm) (ws := ws) B)
  have h3 := foF_stop hl (B - (reachF G nm ws B).length)
  have hle : (reachF G nm ws B).length ≤ B := h1
  rw [show (reachF G nm ws B).length + (B - (reachF G nm ws B).length) = B by omega] at h3
  exact h3.symm
end
theorem isOb_in {t : St} {k : Kfg} {a u : Nat} {x : Int} (h : isOb t k a u x = true) : ∃ p : Nat, x = (p : Int) ∧ k.from_ a ≤ p ∧ p < k.from_ a + u ∧ goodAt t (k.from_ a + u) p := by
  unfold isOb at h
  rw [Bool.and_eq_true] at h
  obtain ⟨h1, h2⟩ := h
  have h3 : (k.from_ a : Int) ≤ x ∧ x < ((k.from_ a + u : Nat) : Int) := by
    unfold hasB at h1
    rw [Bool.and_eq_true, decide_eq_true_iff, decide_eq_true_iff] at h1
    exact h1
  obtain ⟨p, rfl⟩ : ∃ p : Nat, x = (p : Int) := ⟨x.toNat, by omega⟩
  exact ⟨p, rfl, by omega, by omega, by simpa using h2⟩
theorem isOb_iff {t : St} {k : Kfg} {a u p : Nat} (h : k.from_ a ≤ p) (h2 : p < k.from_ a + u) : isOb t k a u (p : Int) = decide (goodAt t (k.from_ a + u) p) := by
  unfold isOb
  rw [(hasB_iff k a u p).2 ⟨h, h2⟩]
  simp
theorem pigeon (f : Nat) : ∀ (u : Nat) (L : List Int), L.Nodup → (∀ x ∈ L, (f : Int) ≤ x ∧ x < ((f + u : Nat) : Int)) → L.length ≤ u
  | 0, [], _, _ => Nat.le_refl _
  | 0, x :: L, _, h => by have := h x (by simp); omega
  | u + 1, L, hn, h => by
    by_cases hm : ((f + u : Nat) : Int) ∈ L
    · have h1 := pigeon f u (L.erase ((f + u : Nat) : Int)) (hn.erase _) fun x hx => by
        have h2 := (List.Nodup.mem_erase_iff hn).1 hx
        have h3 := h x h2.2
        have h4 := h2.1
        omega
      rw [List.length_erase_of_mem hm] at h1
      omega
    · have h1 := pigeon f u L hn fun x hx => by
        have h3 := h x hx
        have h4 : x ≠ ((f + u : Nat) : Int) := fun he => hm (he ▸ hx)
        omega
      omega
/-- There are no more objects than words. -/
theorem Fine.le {t : St} {k : Kfg} {a u : Nat} : ∀ L, Fine (isOb t k a u) L → L.length ≤ u := fun L h =>
  pigeon (k.from_ a) u L h.1 fun x hx => by
    obtain ⟨p, rfl, h1, h2, _⟩ := isOb_in (h.2 x hx)
    omega
end Go.Proofs.Ytbdomdmnjclpdaa
set_option linter.unusedSimpArgs false
set_option linter.unusedVariables false
set_option maxRecDepth 100000
namespace Go.Proofs.Ytbdomdmnjclpdaa
open Go.RowKit Go.Shelf

theorem headOf_small {x : Int} (h0 : 0 ≤ x) (h1 : x < 72057594037927936) : (headOf x).2.2 = false := by
  unfold headOf
  rw [if_neg]
  unfold isHead
  omega
theorem Chain.cover : ∀ {os : List Ob} {p q z : Nat}, Chain p os q → p ≤ z → z < q → ∃ o ∈ os, o.at_ ≤ z ∧ z < o.at_ + (o.n + 1)
  | [], p, q, z, h, h1, h2 => by have : p = q := h; omega
  | o :: os, p, q, z, h, h1, h2 => by
    obtain ⟨h3, h4⟩ := h
    subst h3
    by_cases hz : z < o.at_ + (o.n + 1)
    · exact ⟨o, by simp, h1, hz⟩
    · obtain ⟨o', ho, h5⟩ := Chain.cover h4 (by omega) h2
      exact ⟨o', List.mem_cons_of_mem _ ho, h5⟩
theorem nameP_small {t : St} {k : Kfg} {os : List Ob} {u : Nat} (h : FillS t k 0 os u) (hk : k.Ok) {wr : Prop} {x : Int} (hx : nameP os wr x) : 0 ≤ x ∧ x ≤ 20001 := by
  rcases hx with rfl | ⟨o, ho, rfl | ⟨_, rfl⟩⟩
  · decide
  · have := h.in_ hk (by decide) ho; omega
  · have := h.in_ hk (by decide) ho; omega
section
variable {t : St} {k : Kfg} {os : List Ob} {u : Nat} {wr : Prop}
theorem LinkS.obj (h : LinkS t k os u (nameP os wr)) (hk : k.Ok) {p : Nat} (h1 : k.from_ 0 ≤ p) (h2 : p < k.from_ 0 + u) (hg : (headOf (t.nw p)).2.2 = true) : ∃ o ∈ os, o.at_ = p := by
  obtain ⟨o, ho, h3, h4⟩ := h.fill.chain.cover h1 h2
  refine ⟨o, ho, ?_⟩
  rcases Nat.lt_or_ge o.at_ p with hlt | hge
  · exfalso
    obtain ⟨i, rfl⟩ : ∃ i, p = o.at_ + 1 + i := ⟨p - (o.at_ + 1), by omega⟩
    by_cases hi : i < o.b
    · have h5 := nameP_small h.fill hk (h.names o ho i hi)
      rw [headOf_small h5.1 (by omega)] at hg
      cases hg
    · rw [h.nums o ho i (by omega) (by omega), headOf_small (by decide) (by decide)] at hg
      cases hg
  · omega
theorem LinkS.head (h : LinkS t k os u (nameP os wr)) {o : Ob} (ho : o ∈ os) : headOf (t.nw o.at_) = ((o.n : Int), (o.b : Int), true) :=
  headOf_head (h.fill.heads o ho) (h.fill.small o ho).2 (by have := (h.fill.small o ho).1; omega)
theorem LinkS.isOb_at (h : LinkS t k os u (nameP os wr)) {o : Ob} (ho : o ∈ os) : isOb t k 0 u (o.at_ : Int) = true := by
  have h1 := h.fill.chain.mem ho
  rw [isOb_iff h1.1 (by omega), decide_eq_true_iff]
  unfold goodAt
  rw [h.head ho]
  exact ⟨rfl, by simp only; omega⟩
theorem LinkS.isOb_iff' (h : LinkS t k os u (nameP os wr)) (hk : k.Ok) {x : Int} : isOb t k 0 u x = true ↔ ∃ o ∈ os, x = (o.at_ : Int) := by
  constructor
  · intro hx
    obtain ⟨p, rfl, h1, h2, h3⟩ := isOb_in hx
    obtain ⟨o, ho, h4⟩ := h.obj hk h1 h2 h3.1
    exact ⟨o, ho, by rw [h4]⟩
  · rintro ⟨o, ho, rfl⟩
    exact h.isOb_at ho
/-- Names are small. -/
theorem LinkS.small (h : LinkS t k os u (nameP os wr)) (hk : k.Ok) : ∀ p, k.from_ 0 ≤ p → goodAt t (k.from_ 0 + u) p → ∀ i, i < (headOf (t.nw p)).2.1.toNat → 0 ≤ t.nw (p + 1 + i) ∧ t.nw (p + 1 + i) ≤ 9223372036854775807 := by
  intro p h1 hg i hi
  have h0 := (headOf_ok (x := t.nw p) (h.rng.nw p).1).1
  have h2 := hg.2
  obtain ⟨o, ho, rfl⟩ := h.obj hk h1 (by omega) hg.1
  rw [h.head ho] at hi
  simp only [Int.toNat_natCast] at hi
  have := nameP_small h.fill hk (h.names o ho i hi)
  omega
end
end Go.Proofs.Ytbdomdmnjclpdaa
