/-
  Objects one behind the other: the plain laws of Filled.
-/
import Derived.Test.YtbdomdmnjclpdaaSpaceD
import Derived.Test.YtbdomdmnjclpdaaOpenH
import Derived.Test.YtbdomdmnjclpdaaMerge
import Derived.Test.YtbdomdmnjclpdaaRng
set_option linter.unusedSimpArgs false
set_option linter.unusedVariables false
set_option maxRecDepth 100000
namespace Go.Proofs.Ytbdomdmnjclpdaa
open Go.RowKit Go.Shelf

/-- The config of three small numbers. -/
def kOf (l r s : Int) : Kfg := ⟨(3 + r % 6 + l % 12).toNat, (1 + r % 6).toNat, (8 + s % 90).toNat⟩
theorem kOf_ok {l r s : Int} (l0 : 0 ≤ l) (r0 : 0 ≤ r) (s0 : 0 ≤ s) : (kOf l r s).Ok ∧ (kOf l r s).L ≤ 19 ∧ (kOf l r s).R ≤ 6 ∧ (kOf l r s).S ≤ 97 := by
  unfold kOf
  refine ⟨⟨?_, ?_, ?_, ?_, ?_, ?_⟩, ?_, ?_, ?_⟩ <;> dsimp only <;> omega
theorem kmake_of (l r s : Int) (w : World) (l0 : 0 ≤ l) (l1 : l ≤ 65535) (r0 : 0 ≤ r) (r1 : r ≤ 65535) (s0 : 0 ≤ s) (s1 : s ≤ 65535) :
    Calls Try.prog 42 #[.agg #[.int .u16 l, .int .u16 r, .int .u16 s]] w fun e w' => e = .returned (.agg (kOf l r s).cells) ∧ Keep w.heap.size [] w w' := by
  refine (make_any l r s w l0 l1 r0 r1 s0 s1).mono ?_
  rintro e w' ⟨rfl, hk⟩
  refine ⟨?_, hk⟩
  have e : mkCfg l r s = ⟨3 + r % 6 + l % 12, 1 + r % 6, 8 + s % 90⟩ := by unfold mkCfg; congr 1; omega
  rw [e]
  unfold Cfg.val Kfg.cells kOf
  simp only
  rw [Int.toNat_of_nonneg (show 0 ≤ 3 + r % 6 + l % 12 by omega), Int.toNat_of_nonneg (show 0 ≤ 1 + r % 6 by omega), Int.toNat_of_nonneg (show 0 ≤ 8 + s % 90 by omega)]

/-- An object: where its head is, how many words it has behind that, how many of these are names. -/
structure Ob where
  at_ : Nat
  n : Nat
  b : Nat
deriving DecidableEq

/-- Small heads by two numbers. -/
def HV.n (x : HV) : Nat := (x.wd % 9).toNat
def HV.b (x : HV) : Nat := (x.rf % ((x.n : Int) + 1)).toNat
theorem HV.n_le {x : HV} (h : x.Ok) : x.n ≤ 8 ∧ x.wd % 9 = (x.n : Int) := by
  obtain ⟨_, _, h0, h1⟩ := h
  unfold HV.n
  omega
theorem HV.b_le {x : HV} (h : x.Ok) : x.b ≤ x.n ∧ x.rf % ((x.n : Int) + 1) = (x.b : Int) := by
  obtain ⟨h0, h1, _, _⟩ := h
  unfold HV.b
  have a0 := Int.emod_nonneg x.rf (show (x.n : Int) + 1 ≠ 0 by omega)
  have a1 := Int.emod_lt_of_pos x.rf (show 0 < (x.n : Int) + 1 by omega)
  omega

/-- How much is used behind objects that are made, if there is room. -/
def usedOf (S : Nat) : List HV → Nat → Nat
  | [], u => u
  | x :: l, u => usedOf S l (if u + (x.n + 1) ≤ S then u + (x.n + 1) else u)
/-- The objects that are made. -/
def placed (f S : Nat) : List HV → Nat → List Ob
  | [], _ => []
  | x :: l, u => if u + (x.n + 1) ≤ S then ⟨f + u, x.n, x.b⟩ :: placed f S l (u + (x.n + 1)) else placed f S l u
theorem usedOf_snoc (S : Nat) (x : HV) : ∀ (l : List HV) (u : Nat), usedOf S (l ++ [x]) u = if usedOf S l u + (x.n + 1) ≤ S then usedOf S l u + (x.n + 1) else usedOf S l u
  | [], u => rfl
  | y :: l, u => by simp only [List.cons_append, usedOf]; exact usedOf_snoc S x l _
theorem placed_snoc (f S : Nat) (x : HV) : ∀ (l : List HV) (u : Nat), placed f S (l ++ [x]) u = placed f S l u ++ if usedOf S l u + (x.n + 1) ≤ S then [⟨f + usedOf S l u, x.n, x.b⟩] else []
  | [], u => by by_cases h : u + (x.n + 1) ≤ S <;> simp [placed, usedOf, h]
  | y :: l, u => by
    by_cases h : u + (y.n + 1) ≤ S
    · have := placed_snoc f S x l (u + (y.n + 1))
      simp only [List.cons_append, usedOf, placed, h, if_true]
      rw [this]
    · have := placed_snoc f S x l u
      simp only [List.cons_append, usedOf, placed, h, if_false]
      rw [this]
theorem placed_length (f S : Nat) : ∀ (l : List HV) (u : Nat), (placed f S l u).length ≤ l.length
  | [], u => by simp [placed]
  | y :: l, u => by
    simp only [placed]
    split
    · simp only [List.length_cons]; have := placed_length f S l (u + (y.n + 1)); omega
    · simp only [List.length_cons]; have := placed_length f S l u; omega

/-- Objects one behind the other, from p up to q. -/
def Chain : Nat → List Ob → Nat → Prop
  | p, [], q => p = q
  | p, o :: l, q => o.at_ = p ∧ Chain (p + (o.n + 1)) l q
theorem Chain.snoc {o : Ob} : ∀ {p q : Nat} {l : List Ob}, Chain p l q → o.at_ = q → Chain p (l ++ [o]) (q + (o.n + 1))
  | p, q, [], h, ho => by have : p = q := h; subst this; exact ⟨ho, rfl⟩
  | p, q, y :: l, h, ho => ⟨h.1, Chain.snoc h.2 ho⟩
theorem Chain.le : ∀ {p q : Nat} {l : List Ob}, Chain p l q → p ≤ q
  | p, q, [], h => by have : p = q := h; omega
  | p, q, y :: l, h => by have := Chain.le h.2; omega
theorem Chain.mem {o : Ob} : ∀ {p q : Nat} {l : List Ob}, Chain p l q → o ∈ l → p ≤ o.at_ ∧ o.at_ + (o.n + 1) ≤ q
  | p, q, [], h, ho => by simp at ho
  | p, q, y :: l, h, ho => by
    rcases List.mem_cons.1 ho with rfl | ho
    · have := Chain.le h.2; have h1 := h.1; omega
    · have := Chain.mem h.2 ho; omega
/-- Two objects of a row are one and the same, or apart. -/
theorem Chain.apart {o o' : Ob} : ∀ {p q : Nat} {l : List Ob}, Chain p l q → o ∈ l → o' ∈ l → o = o' ∨ o.at_ + (o.n + 1) ≤ o'.at_ ∨ o'.at_ + (o'.n + 1) ≤ o.at_
  | p, q, [], h, ho, _ => by simp at ho
  | p, q, y :: l, h, ho, ho' => by
    have h1 := h.1
    rcases List.mem_cons.1 ho with e1 | m1 <;> rcases List.mem_cons.1 ho' with e2 | m2
    · exact .inl (e1.trans e2.symm)
    · have := Chain.mem h.2 m2; subst e1; exact .inr (.inl (by omega))
    · have := Chain.mem h.2 m1; subst e2; exact .inr (.inr (by omega))
    · exact Chain.apart h.2 m1 m2

/-- Objects that stand so on a device, one behind the other. -/
structure FillS (t : St) (k : Kfg) (a : Nat) (os : List Ob) (u : Nat) : Prop where
  use : UseS t k a u
  le : u ≤ k.S
  chain : Chain (k.from_ a) os (k.from_ a + u)
  small : ∀ o ∈ os, o.n ≤ 8 ∧ o.b ≤ o.n
  heads : ∀ o ∈ os, t.nw o.at_ = hw (o.n : Nat) (o.b : Nat)
theorem FillS.in_ {t : St} {k : Kfg} {a u : Nat} {os : List Ob} {o : Ob} (h : FillS t k a os u) (hk : k.Ok) (ha : a ≤ 1) (ho : o ∈ os) : k.act + 2 + k.R ≤ o.at_ ∧ o.at_ + (o.n + 1) ≤ k.words ∧ k.words ≤ 10000 := by
  have h1 := h.chain.mem ho
  have h2 := Kfg.from_words hk (a := a) (by omega)
  have h3 := Kfg.from_words hk (a := a + 1) (by omega)
  have h4 := k.from_step a
  have h5 := (up8_le k.S).1
  have h6 := k.from_le
  have h7 := h.le
  omega
/-- A new heap's. -/
theorem FillS.start {t : St} {k : Kfg} (h : UseS t k 0 0) : FillS t k 0 [] 0 := ⟨h, Nat.zero_le _, rfl, by simp, by simp⟩
/-- One more. -/
theorem FillS.alloc {t : St} {k : Kfg} {a u n b at_ : Nat} {os : List Ob} (h : FillS t k a os u) (hk : k.Ok) (ha : a ≤ 1) (hn : n ≤ 8) (hb : b ≤ n) (hat : k.from_ a + u = at_) (hfit : u + (n + 1) ≤ k.S) :
    FillS (allocS t k u n at_ (hw (n : Nat) (b : Nat))) k a (os ++ [⟨at_, n, b⟩]) (u + (n + 1)) := by
  have h1 := Kfg.from_words hk (a := a) (by omega)
  have h2 := Kfg.from_words hk (a := a + 1) (by omega)
  have h3 := k.from_step a
  have h4 := (up8_le k.S).1
  have h5 := k.from_le
  have e := allocS_nw (hv := hw (n : Nat) (b : Nat)) h.use.is k u n at_ (by omega) (by omega) (by omega)
  refine ⟨h.use.alloc hk ha hat hfit, hfit, ?_, ?_, ?_⟩
  · have := h.chain.snoc (o := ⟨at_, n, b⟩) hat.symm
    rwa [Nat.add_assoc] at this
  · intro o ho
    rcases List.mem_append.1 ho with ho | ho
    · exact h.small o ho
    · simp at ho; subst ho; exact ⟨hn, hb⟩
  · intro o ho
    rcases List.mem_append.1 ho with ho | ho
    · have h6 := h.chain.mem ho
      rw [e, if_neg (by omega), if_neg (by omega)]
      exact h.heads o ho
    · simp at ho; subst ho
      rw [e, if_neg (by simp only; omega), if_pos (by simp only; omega), if_pos rfl]
theorem sto_rng {s : St} (h : s.rng) : ∀ l : List (Nat × Int), (∀ p ∈ l, Wd p.2) → (sto s l).rng
  | [], _ => h
  | p :: l, hl => by
    have : sto s (p :: l) = sto (s.store p.1 p.2) l := rfl
    rw [this]
    exact sto_rng (h.store (hl p (by simp))) l fun q hq => hl q (List.mem_cons_of_mem _ hq)
theorem allocS_rng {s : St} (h : s.rng) {k : Kfg} {u n at_ : Nat} {hv : Int} (hu : u + (n + 1) ≤ 1000000000) (hw : Wd hv) : (allocS s k u n at_ hv).rng := by
  refine sto_rng h _ fun p hp => ?_
  simp only [allocOps, List.mem_cons, List.mem_map, List.mem_range] at hp
  rcases hp with rfl | ⟨i, _, rfl⟩
  · exact ⟨by simp only; omega, by simp only; omega⟩
  · by_cases hi : i = 0
    · rw [if_pos hi]; exact hw
    · rw [if_neg hi]; exact ⟨by simp, by simp⟩
/-- What stands where no head is. -/
structure BlankS (t : St) (k : Kfg) (os : List Ob) : Prop where
  roots : ∀ i, i < k.R → t.nw (k.act + 2 + i) = 0
  body : ∀ o ∈ os, ∀ i, i < o.n → t.nw (o.at_ + 1 + i) = 0
  rng : t.rng
theorem BlankS.alloc {t : St} {k : Kfg} {a u n b at_ : Nat} {os : List Ob} (hB : BlankS t k os) (h : FillS t k a os u) (hk : k.Ok) (ha : a ≤ 1) (hat : k.from_ a + u = at_) (hfit : u + (n + 1) ≤ k.S) (hv : Int) (hw : Wd hv) :
    BlankS (allocS t k u n at_ hv) k (os ++ [⟨at_, n, b⟩]) := by
  have h1 := Kfg.from_words hk (a := a) (by omega)
  have h2 := Kfg.from_words hk (a := a + 1) (by omega)
  have h3 := k.from_step a
  have h4 := (up8_le k.S).1
  have h5 := k.from_le
  have h6 := hk.s1
  have e := allocS_nw (hv := hv) h.use.is k u n at_ (by omega) (by omega) (by omega)
  refine ⟨fun i hi => ?_, ?_, allocS_rng hB.rng (by omega) hw⟩
  · rw [e, if_neg (by omega), if_neg (by omega)]
    exact hB.roots i hi
  · intro o ho i hi
    rcases List.mem_append.1 ho with ho | ho
    · have h6 := h.chain.mem ho
      rw [e, if_neg (by omega), if_neg (by omega)]
      exact hB.body o ho i hi
    · simp at ho; subst ho
      simp only at hi ⊢
      rw [e, if_neg (by omega), if_pos (by omega), if_neg (by omega)]
theorem hw_wd {n b : Nat} (hn : n ≤ 64) (hb : b ≤ n) : Wd (hw (n : Nat) (b : Nat)) := by
  have := hw_range (words := (n : Int)) (refs := (b : Int)) (by omega) (by omega) (by omega)
  exact ⟨by omega, this.2⟩
/-- The places. -/
def atsOf (os : List Ob) : List Value := os.map fun o => .int .i64 (o.at_ : Int)
theorem atsOf_snoc (os : List Ob) (o : Ob) : atsOf (os ++ [o]) = atsOf os ++ [.int .i64 (o.at_ : Int)] := by simp [atsOf]
theorem atsOf_length (os : List Ob) : (atsOf os).length = os.length := by simp [atsOf]
end Go.Proofs.Ytbdomdmnjclpdaa
