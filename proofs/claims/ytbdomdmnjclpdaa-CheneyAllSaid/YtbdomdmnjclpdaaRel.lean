/-
  Regions that draw their order, whose operations read, and call what makes new memory alone.
  Regions that draw their order, each operation of which yields a value that is told of (in whatever order they come), and makes new memory alone.
  Regions that draw their order: operations each told of, as in XRel, and behind them all one that may do anything.
  Regions that draw their order: operations each told of, as in XRel, and behind them all some that come one behind the other.
-/
import Derived.Deep.Quiet
import Derived.Deep.QuietTactic
import Derived.BigQuiet
import Derived.StillTail
import Derived.Test.YtbdomdmnjclpdaaNvm
set_option maxRecDepth 100000
namespace Go.Proofs.Ytbdomdmnjclpdaa
open Go.RowKit

/-- A world that is w, but for new blocks. -/
structure Ext (w : World) where
  now : World
  keep : Keep w.heap.size [] w now

instance (w : World) : Nonempty (Ext w) := ⟨⟨w, Keep.refl _ _ _⟩⟩

theorem Ext.cell {w : World} (x : Ext w) {a : Addr} {v : Value} (h : w.cell? a = some v) : x.now.cell? a = some v :=
  (World.cell?_of_block (x.keep.block a.block (World.block_lt_of_cell? w _ h) (by simp))).trans h

theorem Calls.ext {P : Program} {f : FuncId} {args : Array Value} {w : World} {x : Ext w} {v : Value}
    (h : Calls P f args x.now fun e w' => e = .returned v ∧ Keep x.now.heap.size [] x.now w') : Calls P f args x.now fun e w'' => e = .returned v ∧ ∃ y : Ext w, w'' = y.now :=
  h.mono fun _ w'' ⟨he, hk⟩ => ⟨he, ⟨w'', x.keep.join hk x.keep.size (by simp)⟩, rfl⟩

theorem Calls.ext_same {P : Program} {f : FuncId} {args : Array Value} {w : World} {x : Ext w} {v : Value}
    (h : Calls P f args x.now fun e w' => e = .returned v ∧ x.now = w') : Calls P f args x.now fun e w'' => e = .returned v ∧ ∃ y : Ext w, w'' = y.now :=
  h.mono fun _ _ ⟨he, hk⟩ => ⟨he, x, hk.symm⟩

theorem wp_region_ext {P : Program} {id : Nat} {Q : Exit → Act → World → Prop} {a : Act} {w : World} {l : List Oper} (hm : P.follows .mixedOrders = true) (hB : Region.lexB .any l.toArray = true)
    (h : wpQuiet P l.toArray (fun w' => ∃ x : Ext w, w' = x.now) (fun a' => ∀ w', (∃ x : Ext w, w' = x.now) → Q .normal a' w') l a) : (Code.region id l.toArray true).wp P Q a w :=
  wp_region_quiet (C := fun w' => ∃ x : Ext w, w' = x.now) hm hB ⟨⟨_, (Keep.refl _ _ _).drew⟩, rfl⟩ (by simpa using h)

/-! A quiet head, and a tail that comes in its order. -/
section
variable {P : Program} {ops : Array Oper} {md : Region.Mode} {C : World → Prop}

def wpAnyLQ (P : Program) (md : Region.Mode) (ops : Array Oper) (C : World → Prop) (n : Nat) (L : Array Bool → Act → Prop) : Nat → Array Bool → Act → Prop
  | 0, listed, a => L listed a
  | f + 1, listed, a =>
    Region.ready md ops listed ≠ [] ∧ ∀ i ∈ Region.ready md ops listed, i < n ∧ qOp P ops C i (wpAnyLQ P md ops C n L f (listed.setIfInBounds i true)) a

theorem wpAny_of_headQ {n g : Nat} {L : Array Bool → Act → Prop} {Q' : Exit → Act → World → Prop} (hL : ∀ listed a w, C w → L listed a → wpAny P md ops Q' g listed a w) :
    ∀ (f : Nat) (listed : Array Bool) (a : Act) (w : World), C w → wpAnyLQ P md ops C n L f listed a → wpAny P md ops Q' (f + g) listed a w
  | 0, listed, a, w, hw, h => by rw [Nat.zero_add]; exact hL _ _ _ hw h
  | f + 1, listed, a, w, hw, h => by
    rw [show f + 1 + g = (f + g) + 1 by omega]
    exact ⟨fun h0 => absurd h0 h.1, fun i hi => wpOp_of_qOp hw (fun a' w' hw' h' => wpAny_of_headQ hL f _ a' w' hw' h') (h.2 i hi).2⟩

theorem wpAnyLQ_first {n i : Nat} {oi : Oper} {v : Value} {L : Array Bool → Act → Prop} (hi : ops[i]? = some oi) (hsel : ∀ (j : Nat) (o : Oper) cs b, ops[j]? = some o → o.op ≠ .select cs b)
    (hs : Region.sinkB md ops n = true) (hc : Region.chainB md ops n = true) (hn : n < ops.size) (hin : i < n)
    (hdone : ∀ listed a, L listed a → ∀ j ∈ Region.ready md ops listed, n ≤ j) :
    ∀ (f : Nat) (listed : Array Bool) (a : Act), HeadInv md ops n listed →
      (∀ j oj, ops[j]? = some oj → j ≠ i → listed.getD j true = false → (∀ e ∈ oj.after, Region.binds md e = true → e.on ≠ i) → oi.apart ops oj = true) →
      i ∈ Region.ready md ops listed → YieldsIn P ops C oi v a →
      wpAnyLQ P md ops C n L f (listed.setIfInBounds i true) (a.put oi.dst v) → wpAnyLQ P md ops C n L (f + 1) listed a := by
  intro f
  induction f with
  | zero =>
    intro listed a inv _ hr hy H
    have hun := (mem_ready.1 hr).1
    refine ⟨fun h => (by rw [h] at hr; cases hr), fun j hj => ?_⟩
    have hjn : j < n := by
      rcases Nat.lt_or_ge j n with h | h
      · exact h
      · exact absurd hj (tail_waits hs hc hn inv _ i rfl hin hun j h)
    refine ⟨hjn, ?_⟩
    by_cases hji : j = i
    · subst hji; exact hy.qOp hi H
    · have := hdone _ _ H j (ready_mono hj hji)
      omega
  | succ f ih =>
    intro listed a inv hfree hr hy H
    have hun := (mem_ready.1 hr).1
    refine ⟨fun h => (by rw [h] at hr; cases hr), fun j hj => ?_⟩
    have hjn : j < n := by
      rcases Nat.lt_or_ge j n with h | h
      · exact h
      · exact absurd hj (tail_waits hs hc hn inv _ i rfl hin hun j h)
    refine ⟨hjn, ?_⟩
    by_cases hji : j = i
    · subst hji; exact hy.qOp hi H
    · have h1 := (H.2 j (ready_mono hj hji)).2
      obtain ⟨hjun, oj, hoj, hall⟩ := mem_ready.1 hj
      have hnot : ∀ e ∈ oj.after, Region.binds md e = true → e.on ≠ i := fun e he hb heq => by
        have h1 := hall e he hb
        rw [heq, getD_both hun] at h1
        cases h1
      have h2 := qOp_put hoj (hfree j oj hoj hji hjun hnot) (fun cs b => hsel i oi cs b hi) (fun cs b => hsel j oj cs b hoj) hy h1
      have hfree' : ∀ k ok, ops[k]? = some ok → k ≠ i → (listed.setIfInBounds j true).getD k true = false →
          (∀ e ∈ ok.after, Region.binds md e = true → e.on ≠ i) → oi.apart ops ok = true := fun k ok hk hki hun hno => by
        refine hfree k ok hk hki ?_ hno
        by_cases hjk : j = k
        · subst hjk; exact hjun
        · rw [getD_set_ne true hjk] at hun; exact hun
      refine qOp_mono (fun a' h3 => ih (listed.setIfInBounds j true) a' (inv.set hj hjn) hfree' (ready_mono hr (Ne.symm hji)) h3.1 ?_) h2
      rw [Array.setIfInBounds_comm _ _ hji]
      exact h3.2

theorem wpAnyLQ_lex {n g : Nat} {Lq : Act → Prop} (hsel : Region.noSelect ops = true) (hs : Region.sinkB md ops n = true) (hc : Region.chainB md ops n = true) (hn : n < ops.size) :
    ∀ (l : List Oper) (k : Nat) (listed : Array Bool) (a : Act), (∀ j, j < l.length → l[j]? = ops[k + j]?) → k + l.length = n → HeadInv md ops n listed →
    Region.lexHead md ops g l.length k listed = true → wpQuiet P ops C Lq l a →
    wpAnyLQ P md ops C n (fun listed' a' => Region.seqB md ops g n listed' = true ∧ Lq a') l.length listed a
  | [], k, listed, a, _, hk, _, hB, h => by
    have : k = n := by simpa using hk
    subst this
    exact ⟨by simpa [Region.lexHead] using hB, h⟩
  | o :: l, k, listed, a, hl, hk, inv, hB, h => by
    have h0 : ops[k]? = some o := by simpa using (hl 0 (by simp)).symm
    simp only [List.length_cons, Region.lexHead, Bool.and_eq_true] at hB
    obtain ⟨⟨hr, hf⟩, hB'⟩ := hB
    have hkn : k < n := by simp only [List.length_cons] at hk; omega
    have hr' : k ∈ Region.ready md ops listed := by simpa using hr
    have hst : qOp P ops C k (wpQuiet P ops C Lq l) a := by unfold qOp; simp only [h0]; exact h
    obtain ⟨v, hy, hK⟩ := yieldsIn_of_qOp h0 hst
    exact wpAnyLQ_first h0 (Region.noSelect_spec hsel) hs hc hn hkn (fun listed' a' hL => seqB_ready hL.1) l.length listed a inv (Region.free_spec h0 hf) hr' hy
      (wpAnyLQ_lex hsel hs hc hn l (k + 1) _ _ (fun j hj => by have := hl (j + 1) (by simp; omega); simpa [Nat.add_assoc, Nat.add_comm 1 j] using this) (by simp only [List.length_cons] at hk; omega) (inv.set hr' hkn) hB' hK)

theorem wp_region_quiet_tail {id : Nat} {Q : Exit → Act → World → Prop} {a : Act} {w : World} {l : List Oper} (n : Nat) (hm : P.follows .mixedOrders = true) (hB : Region.lexTailB .any l.toArray n = true) (hC : C { w with drawn := w.drawn + 1 })
    (h : wpQuiet P l.toArray C (fun a' => ∀ w', C w' → wpList P l.toArray Q (l.drop n) a' w') (l.take n) a) : (Code.region id l.toArray true).wp P Q a w := by
  simp only [Region.lexTailB, Bool.and_eq_true, decide_eq_true_eq] at hB
  obtain ⟨⟨⟨⟨hsel, hn⟩, hs⟩, hc⟩, hlex⟩ := hB
  have hn' : n < l.length := by simpa using hn
  have htl : (l.take n).length = n := by simp; omega
  have hdl : (l.drop n).length = l.toArray.size - n := by simp
  have inv0 : HeadInv .any l.toArray n (Array.replicate l.toArray.size false) :=
    ⟨by simp, fun j oj _ hl => (by rw [getD_replicate_false] at hl; cases hl), fun t _ ht => getD_in (by simpa using ht) (getD_replicate_false _ _)⟩
  have H := wpAnyLQ_lex (md := .any) (g := l.toArray.size - n) hsel hs hc hn (l.take n) 0 _ a (fun j hj => by
    have hj' : j < n := by rw [htl] at hj; exact hj
    simp [hj']) (by simpa using htl) inv0 (by rw [htl]; exact hlex) h
  refine wp_region_any hm ?_
  have := wpAny_of_headQ (Q' := Q) (g := l.toArray.size - n) (fun listed a' w' hw' hL => by
    have := wpAny_of_seq (md := .any) (Q' := Q) (l.drop n) n listed a' w' (fun j => by simp [List.getElem?_drop]) (by rw [hdl]; exact hL.1) (hL.2 w' hw')
    rwa [hdl] at this) _ _ _ _ hC H
  rw [htl, show n + (l.toArray.size - n) = l.toArray.size by omega] at this
  exact this
end

theorem wp_region_ext_tail {P : Program} {id : Nat} {Q : Exit → Act → World → Prop} {a : Act} {w : World} {l : List Oper} (n : Nat) (hm : P.follows .mixedOrders = true) (hB : Region.lexTailB .any l.toArray n = true)
    (h : wpQuiet P l.toArray (fun w' => ∃ x : Ext w, w' = x.now) (fun a' => ∀ w', (∃ x : Ext w, w' = x.now) → wpList P l.toArray Q (l.drop n) a' w') (l.take n) a) : (Code.region id l.toArray true).wp P Q a w :=
  wp_region_quiet_tail (C := fun w' => ∃ x : Ext w, w' = x.now) n hm hB ⟨⟨_, (Keep.refl _ _ _).drew⟩, rfl⟩ h

/-! Any region: an invariant over what has come. -/
section
variable {P : Program} {ops : Array Oper} {md : Region.Mode} {Q : Exit → Act → World → Prop}

def toCome (ops : Array Oper) (listed : Array Bool) : Nat := ((List.range ops.size).filter fun i => !listed.getD i true).length

theorem filter_lt {α : Type} (L : List α) (p q : α → Bool) (hpq : ∀ x ∈ L, p x = true → q x = true) (x : α) (hx : x ∈ L) (hq : q x = true) (hp : p x = false) : (L.filter p).length < (L.filter q).length := by
  induction L with
  | nil => cases hx
  | cons a L ih =>
    have hle : (L.filter p).length ≤ (L.filter q).length := by
      clear ih hx
      induction L with
      | nil => simp
      | cons b L ih2 =>
        have hb := hpq b (by simp)
        have := ih2 (fun y hy => hpq y (by simp at hy ⊢; rcases hy with h | h <;> simp [h]))
        simp only [List.filter_cons]
        by_cases h1 : p b = true
        · simp [h1, hb h1]; omega
        · by_cases h2 : q b = true
          · simp [h1, h2]; omega
          · simp [h1, h2]; omega
    simp only [List.filter_cons]
    rcases List.mem_cons.1 hx with rfl | hx
    · simp [hq, hp]; omega
    · have h2 := ih (fun y hy => hpq y (by simp [hy])) hx
      have ha := hpq a (by simp)
      by_cases h1 : p a = true
      · simp [h1, ha h1]; omega
      · by_cases h2 : q a = true
        · simp [h1, h2]; omega
        · simp [h1, h2]; omega

/-- Every operation waits for earlier ones alone. -/
def downB (md : Region.Mode) (ops : Array Oper) : Bool := (List.range ops.size).all fun i => match ops[i]? with
  | some o => o.after.all fun e => !Region.binds md e || decide (e.on < i)
  | none => true

theorem all_listed {listed : Array Bool} (hB : downB md ops = true) (hz : listed.size = ops.size) (hr : Region.ready md ops listed = []) : ∀ i, i < ops.size → listed.getD i false = true := by
  intro i
  induction i using Nat.strongRecOn with
  | _ i ih =>
    intro hi
    cases hl : listed.getD i false with
    | true => rfl
    | false =>
      exfalso
      have h1 := List.all_eq_true.1 hB i (List.mem_range.2 hi)
      rw [Array.getElem?_eq_getElem hi] at h1
      simp only at h1
      have hm : i ∈ Region.ready md ops listed := by
        refine mem_ready.2 ⟨getD_in (by omega) hl, ops[i], Array.getElem?_eq_getElem hi, fun e he hb => ?_⟩
        have h2 := Array.all_eq_true_iff_forall_mem.1 h1 e he
        simp only [hb, Bool.not_true, Bool.false_or, decide_eq_true_eq] at h2
        exact ih e.on h2 (by omega)
      rw [hr] at hm
      cases hm

theorem wpAny_inv (hB : downB md ops = true) (I : Array Bool → Act → World → Prop) (hs : ∀ listed a w i, I listed a w → i ∈ Region.ready md ops listed → wpOp P ops Q i (fun a' w' => I (listed.setIfInBounds i true) a' w') a w)
    (he : ∀ listed a w, I listed a w → (∀ i, i < ops.size → listed.getD i false = true) → Q .normal a w) :
    ∀ (f : Nat) (listed : Array Bool) (a : Act) (w : World), listed.size = ops.size → toCome ops listed ≤ f → I listed a w → wpAny P md ops Q f listed a w
  | 0, listed, a, w, hz, hc, h => by
    have hr : Region.ready md ops listed = [] := by
      cases hr : Region.ready md ops listed with
      | nil => rfl
      | cons i rest =>
        have hi : i ∈ Region.ready md ops listed := by rw [hr]; simp
        obtain ⟨h1, o, ho, _⟩ := mem_ready.1 hi
        have : i ∈ (List.range ops.size).filter fun i => !listed.getD i true := by
          rw [List.mem_filter, List.mem_range]
          exact ⟨(Array.getElem?_eq_some_iff.1 ho).1, by rw [h1]; rfl⟩
        have h3 : 0 < toCome ops listed := List.length_pos_of_mem this
        omega
    exact ⟨hr, he _ _ _ h (all_listed hB hz hr)⟩
  | f + 1, listed, a, w, hz, hc, h => by
    refine ⟨fun hr => he _ _ _ h (all_listed hB hz hr), fun i hi => ?_⟩
    refine wpOp_mono (fun a' w' h' => wpAny_inv hB I hs he f _ a' w' (by simpa using hz) ?_ h') (hs listed a w i h hi)
    obtain ⟨h1, o, ho, _⟩ := mem_ready.1 hi
    have hio := (Array.getElem?_eq_some_iff.1 ho).1
    have : toCome ops (listed.setIfInBounds i true) < toCome ops listed := by
      refine filter_lt _ _ _ (fun j _ hj => ?_) i (List.mem_range.2 hio) (by rw [h1]; rfl) ?_
      · by_cases hij : i = j
        · subst hij; simp [hz, hio] at hj
        · simp only [Array.getD_eq_getD_getElem?, Array.getElem?_setIfInBounds_ne hij] at hj ⊢
          exact hj
      · simp [hz, hio]
    omega

theorem wp_region_inv {id : Nat} {a : Act} {w : World} {l : List Oper} (hm : P.follows .mixedOrders = true) (hB : downB .any l.toArray = true) (I : Array Bool → Act → World → Prop) (h0 : I (Array.replicate l.toArray.size false) a w.drew)
    (hs : ∀ listed a w i, I listed a w → i ∈ Region.ready .any l.toArray listed → wpOp P l.toArray Q i (fun a' w' => I (listed.setIfInBounds i true) a' w') a w)
    (he : ∀ listed a w, I listed a w → (∀ i, i < l.toArray.size → listed.getD i false = true) → Q .normal a w) : (Code.region id l.toArray true).wp P Q a w := by
  refine wp_region_any hm (wpAny_inv hB I hs he _ _ _ _ (by simp) ?_ h0)
  exact Nat.le_trans (List.length_filter_le _ _) (by simp)
end
end Go.Proofs.Ytbdomdmnjclpdaa
set_option maxRecDepth 100000
namespace Go.Proofs.Ytbdomdmnjclpdaa
open Go.RowKit

/-- What is told of a value: it is this one; or something that new memory leaves true. -/
inductive Fact where
  | is (c : Value)
  | so (h : Value → World → Prop) (stable : ∀ v w w', h v w → Keep w.heap.size [] w w' → h v w')

def Fact.holds : Fact → Value → World → Prop
  | .is c, v, _ => v = c
  | .so h _, v, w => h v w

theorem Fact.keep {p : Fact} {v : Value} {w w' : World} (h : p.holds v w) (hk : Keep w.heap.size [] w w') : p.holds v w' := by
  cases p with
  | is c => exact h
  | so h' hs => exact hs v w w' h hk

/-- The values told for sure of what an operation waits for. -/
def sure (pre : List Fact) : List Edge → List (Nat × Value)
  | [] => []
  | e :: es => if Region.binds .any e then (match pre[e.on]? with | some (.is c) => (e.on, c) :: sure pre es | _ => sure pre es) else sure pre es
def lay : List (Nat × Value) → (Nat → Value) → Nat → Value
  | [], u, k => u k
  | (j, c) :: r, u, k => bif k == j then c else lay r u k
/-- .. and what else is told of it. -/
def told (pre : List Fact) (u : Nat → Value) (w : World) : List Edge → Prop → Prop
  | [], G => G
  | e :: es, G => if Region.binds .any e then (match pre[e.on]? with | some (.so h _) => h (u e.on) w → told pre u w es G | _ => told pre u w es G) else told pre u w es G

theorem lay_sure (pre : List Fact) (u : Nat → Value) (w : World) : ∀ es : List Edge, (∀ e ∈ es, Region.binds .any e = true → ∀ p : Fact, pre[e.on]? = some p → p.holds (u e.on) w) → lay (sure pre es) u = u
  | [], _ => rfl
  | e :: es, h => by
    have ih := lay_sure pre u w es (fun e' he' => h e' (by simp [he']))
    unfold sure
    split
    · rename_i hb
      split
      · rename_i c hc
        funext k
        simp only [lay]
        cases hk : (k == e.on) with
        | true =>
          rw [beq_iff_eq] at hk
          subst hk
          exact (h e (by simp) hb _ hc).symm
        | false => rw [ih]; rfl
      · exact ih
    · exact ih

theorem told_out (pre : List Fact) (u : Nat → Value) (w : World) (G : Prop) : ∀ es : List Edge, (∀ e ∈ es, Region.binds .any e = true → ∀ p : Fact, pre[e.on]? = some p → p.holds (u e.on) w) → told pre u w es G → G
  | [], _, hg => hg
  | e :: es, h, hg => by
    have ih := told_out pre u w G es (fun e' he' => h e' (by simp [he']))
    unfold told at hg
    split at hg
    · rename_i hb
      split at hg
      · rename_i hh hs hc
        exact ih (hg (h e (by simp) hb _ hc))
      · exact ih hg
    · exact ih hg

/-- The frame, whose slots of the region hold u. -/
def puts (u : Nat → Value) : Nat → List Oper → Act → Act
  | _, [], a => a
  | n, o :: l, a => puts u (n + 1) l (a.put o.dst (u n))

def freshB : List Oper → Bool
  | [] => true
  | o :: l => (match o.dst with | some d => l.all fun o' => o'.dst != some d | none => true) && freshB l

theorem puts_put (u : Nat → Value) (d : Nat) (v : Value) : ∀ (l : List Oper) (n : Nat) (a : Act), (l.all fun o' => o'.dst != some d) = true → (puts u n l a).put (some d) v = puts u n l (a.put (some d) v)
  | [], _, _, _ => rfl
  | o :: l, n, a, h => by
    simp only [List.all_cons, Bool.and_eq_true, bne_iff_ne, ne_eq] at h
    simp only [puts]
    rw [puts_put u d v l (n + 1) _ (by simpa only [List.all_eq_true, bne_iff_ne, ne_eq] using h.2)]
    congr 1
    cases hd : o.dst with
    | none => rfl
    | some d' =>
      have : d' ≠ d := by rintro rfl; exact h.1 hd
      simp [Act.put, Array.setIfInBounds_comm _ _ this]

theorem puts_congr (u u' : Nat → Value) : ∀ (l : List Oper) (n : Nat) (a : Act), (∀ k, n ≤ k → u k = u' k) → puts u n l a = puts u' n l a
  | [], _, _, _ => rfl
  | o :: l, n, a, h => by
    simp only [puts]
    rw [h n (Nat.le_refl _)]
    exact puts_congr u u' l (n + 1) _ (fun k hk => h k (by omega))

theorem puts_one (v : Value) : ∀ (l : List Oper) (u : Nat → Value) (n i : Nat) (a : Act) (o : Oper), freshB l = true → l[i]? = some o →
    (puts u n l a).put o.dst v = puts (fun k => if k = n + i then v else u k) n l a
  | [], _, _, _, _, _, _, h => by simp at h
  | o' :: l, u, n, 0, a, o, hf, h => by
    simp only [List.getElem?_cons_zero, Option.some.injEq] at h
    subst h
    simp only [freshB, Bool.and_eq_true] at hf
    simp only [puts, Nat.add_zero, if_true]
    rw [puts_congr u (fun k => if k = n then v else u k) l (n + 1) _ (fun k hk => by show u k = if k = n then v else u k; rw [if_neg (by omega)])]
    cases hd : o'.dst with
    | none => rfl
    | some d =>
      rw [hd] at hf
      rw [puts_put _ d v l (n + 1) _ hf.1]
      congr 1
      simp [Act.put]
  | o' :: l, u, n, i + 1, a, o, hf, h => by
    simp only [List.getElem?_cons_succ] at h
    simp only [freshB, Bool.and_eq_true] at hf
    simp only [puts]
    rw [puts_one v l u (n + 1) i _ o hf.2 h, if_neg (by omega), show n + 1 + i = n + (i + 1) by omega]

theorem puts_start : ∀ (l : List Oper) (u : Nat → Value) (n : Nat) (a : Act), (∀ j o, l[j]? = some o → ∀ d, o.dst = some d → u (n + j) = a.tmps.getD d undef) → puts u n l a = a
  | [], _, _, _, _ => rfl
  | o :: l, u, n, a, h => by
    have h0 : a.put o.dst (u n) = a := by
      cases hd : o.dst with
      | none => rfl
      | some d =>
        have := h 0 o rfl d hd
        rw [Nat.add_zero] at this
        rw [this]
        have e : a.tmps.setIfInBounds d (a.tmps.getD d undef) = a.tmps := by
          apply Array.ext_getElem?
          intro i
          rw [Array.getElem?_setIfInBounds]
          split
          · rename_i hdi
            subst hdi
            split
            · rename_i hlt
              simp [hlt]
            · rename_i hge
              rw [Array.getElem?_eq_none (by omega)]
          · rfl
        simp only [Act.put, e]
    simp only [puts, h0]
    exact puts_start l u (n + 1) a (fun j o' hj d hd => by
      have := h (j + 1) o' (by simpa using hj) d hd
      rw [show n + 1 + j = n + (j + 1) by omega]
      exact this)

/-- What an operation yields. -/
def yUpon (P : Program) (a : Act) (K : Value → World → Prop) (Q : Exit → Act → World → Prop) : Result Next → Prop
  | .ok (.value v) w' => K v w'
  | .ok .skip w' => K undef w'
  | .ok (.enter f args) w' => Calls P f args w' fun
      | .returned v, w'' => K v w''
      | .panicked chain, w'' => Q (.panic chain) a w''
      | .outgrown, _ => LetsOut Q
  | .halt (.panic v) w' => Q (.panic [{ v, recovered := false }]) a w'
  | _ => False

theorem upon_of_y {P : Program} {o : Oper} {a : Act} {K : Value → World → Prop} {Q : Exit → Act → World → Prop} {next : Act → World → Prop} {r : Result Next} (hn : ∀ v w', K v w' → next (a.put o.dst v) w') (h : yUpon P a K Q r) : o.upon P a next Q r := by
  unfold yUpon at h
  unfold Oper.upon
  split at h
  · exact hn _ _ h
  · exact hn _ _ h
  · refine Calls.mono h fun e w'' h' => ?_
    cases e with
    | returned v => exact hn _ _ h'
    | panicked c => exact h'
    | outgrown => exact h'
  · exact h
  · exact h.elim

section
variable {P : Program} {Q : Exit → Act → World → Prop} {ops : List Oper} {W : World} {F : (Nat → Value) → Act}

def RelStep (P : Program) (Q : Exit → Act → World → Prop) (ops : Array Oper) (W : World) (F : (Nat → Value) → Act) (pre : List Fact) (o : Oper) (p : Fact) : Prop :=
  ∀ (u : Nat → Value) (x : Ext W) (K : Value → World → Prop), (∀ v (y : Ext W), Keep x.now.heap.size [] x.now y.now → p.holds v y.now → K v y.now) →
    told pre u x.now o.after.toList (if Region.wanted o (yielded ops (F (lay (sure pre o.after.toList) u)).tmps) then yUpon P (F (lay (sure pre o.after.toList) u)) K Q ((execOp (F (lay (sure pre o.after.toList) u)).eval o).run P x.now) else K undef x.now)

def wpRel (P : Program) (Q : Exit → Act → World → Prop) (ops : Array Oper) (W : World) (F : (Nat → Value) → Act) : List Fact → List Oper → Prop
  | pre, [] => ∀ (u : Nat → Value) (x : Ext W), (∀ (i : Nat) (p : Fact), pre[i]? = some p → p.holds (u i) x.now) → Q .normal (F u) x.now
  | pre, o :: l => ∃ p, RelStep P Q ops W F pre o p ∧ wpRel P Q ops W F (pre ++ [p]) l

theorem wpRel_step {o : Oper} {l : List Oper} {pre : List Fact} (p : Fact) (h : RelStep P Q ops.toArray W F pre o p) (h' : wpRel P Q ops.toArray W F (pre ++ [p]) l) : wpRel P Q ops.toArray W F pre (o :: l) := ⟨p, h, h'⟩

theorem wpRel_is {o : Oper} {l : List Oper} {pre : List Fact} {c : Value}
    (h : ∀ (u : Nat → Value) (x : Ext W) (K : Value → World → Prop), (∀ y : Ext W, Keep x.now.heap.size [] x.now y.now → K c y.now) →
      told pre u x.now o.after.toList (if Region.wanted o (yielded ops.toArray (F (lay (sure pre o.after.toList) u)).tmps) then yUpon P (F (lay (sure pre o.after.toList) u)) K Q ((execOp (F (lay (sure pre o.after.toList) u)).eval o).run P x.now) else K undef x.now))
    (h' : wpRel P Q ops.toArray W F (pre ++ [.is c]) l) : wpRel P Q ops.toArray W F pre (o :: l) :=
  ⟨.is c, fun u x K hK => h u x K fun y hk => hK c y hk rfl, h'⟩

theorem wpRel_so {o : Oper} {l : List Oper} {pre : List Fact} (S : Value → World → Prop) (hs : ∀ v w w', S v w → Keep w.heap.size [] w w' → S v w')
    (h : ∀ (u : Nat → Value) (x : Ext W) (K : Value → World → Prop), (∀ v (y : Ext W), Keep x.now.heap.size [] x.now y.now → S v y.now → K v y.now) →
      told pre u x.now o.after.toList (if Region.wanted o (yielded ops.toArray (F (lay (sure pre o.after.toList) u)).tmps) then yUpon P (F (lay (sure pre o.after.toList) u)) K Q ((execOp (F (lay (sure pre o.after.toList) u)).eval o).run P x.now) else K undef x.now))
    (h' : wpRel P Q ops.toArray W F (pre ++ [.so S hs]) l) : wpRel P Q ops.toArray W F pre (o :: l) :=
  ⟨.so S hs, fun u x K hK => h u x K fun v y hk hv => hK v y hk hv, h'⟩

theorem wpRel_nil {pre : List Fact} (h : ∀ (u : Nat → Value) (x : Ext W), (∀ (i : Nat) (p : Fact), pre[i]? = some p → p.holds (u i) x.now) → Q .normal (F u) x.now) : wpRel P Q ops.toArray W F pre [] := h

theorem wpRel_all : ∀ (l : List Oper) (pre : List Fact), wpRel P Q ops.toArray W F pre l →
    ∃ ps : List Fact, ps.length = pre.length + l.length ∧ ps.take pre.length = pre ∧ (∀ j o, l[j]? = some o → ∃ p, ps[pre.length + j]? = some p ∧ RelStep P Q ops.toArray W F (ps.take (pre.length + j)) o p) ∧
      ∀ (u : Nat → Value) (x : Ext W), (∀ (i : Nat) (p : Fact), ps[i]? = some p → p.holds (u i) x.now) → Q .normal (F u) x.now
  | [], pre, h => ⟨pre, by simp, by simp, by simp, h⟩
  | o :: l, pre, ⟨p, hp, h⟩ => by
    obtain ⟨ps, h1, h2, h3, h4⟩ := wpRel_all l _ h
    simp only [List.length_append, List.length_cons, List.length_nil] at h1 h2 h3
    have hpre : ps.take pre.length = pre := by
      have := congrArg (List.take pre.length) h2
      simpa [List.take_take] using this
    refine ⟨ps, by simp; omega, hpre, ?_, h4⟩
    intro j o' hj
    cases j with
    | zero =>
      simp only [List.getElem?_cons_zero, Option.some.injEq] at hj
      subst hj
      refine ⟨p, ?_, ?_⟩
      · have := congrArg (fun q => q[pre.length]?) h2
        simp at this
        simpa using this
      · rw [Nat.add_zero, hpre]; exact hp
    | succ j =>
      simp only [List.getElem?_cons_succ] at hj
      obtain ⟨q, hq, hs⟩ := h3 j o' hj
      rw [show pre.length + (0 + 1) + j = pre.length + (j + 1) by omega] at hq hs
      exact ⟨q, hq, hs⟩

theorem wp_region_rel {id : Nat} {a : Act} {w : World} (hm : P.follows .mixedOrders = true) (hB : downB .any ops.toArray = true) (hF : freshB ops = true)
    (h : wpRel P Q ops.toArray w (fun u => puts u 0 ops a) [] ops) : (Code.region id ops.toArray true).wp P Q a w := by
  obtain ⟨ps, h1, _, h3, h4⟩ := wpRel_all ops [] h
  simp only [List.length_nil, Nat.zero_add] at h1 h3
  refine wp_region_inv hm hB (fun L a' w' => ∃ (u : Nat → Value) (x : Ext w), a' = puts u 0 ops a ∧ w' = x.now ∧ ∀ (i : Nat) (p : Fact), ps[i]? = some p → L.getD i false = true → p.holds (u i) w') ?_ ?_ ?_
  · refine ⟨fun i => match ops[i]? with | some o => (match o.dst with | some d => a.tmps.getD d undef | none => undef) | none => undef, ⟨w.drew, (Keep.refl _ _ _).drew⟩, ?_, rfl, ?_⟩
    · refine (puts_start ops _ 0 a (fun j o hj d hd => ?_)).symm
      simp only [Nat.zero_add, hj, hd]
    · intro i p _ hl
      rw [getD_replicate_false] at hl
      cases hl
  · rintro L a' w' i ⟨u, x, rfl, rfl, hL⟩ hi
    obtain ⟨hun, o, ho, hall⟩ := mem_ready.1 hi
    have ho' : ops[i]? = some o := by simpa using ho
    obtain ⟨p, hp, hs⟩ := h3 i o ho'
    have hdeps : ∀ e ∈ o.after.toList, Region.binds .any e = true → ∀ p', (ps.take i)[e.on]? = some p' → p'.holds (u e.on) x.now := by
      intro e he hb p' hp'
      rw [List.getElem?_take] at hp'
      split at hp'
      · exact hL _ _ hp' (hall e (by simpa using he) hb)
      · cases hp'
    have hq := told_out _ _ _ _ _ hdeps (hs u x (fun v w'' => ∃ y : Ext w, w'' = y.now ∧ Keep x.now.heap.size [] x.now y.now ∧ p.holds v y.now) (fun v y hk hv => ⟨y, rfl, hk, hv⟩))
    rw [lay_sure _ _ _ _ hdeps] at hq
    have hnext : ∀ v w'', (∃ y : Ext w, w'' = y.now ∧ Keep x.now.heap.size [] x.now y.now ∧ p.holds v y.now) →
        ∃ (u' : Nat → Value) (x' : Ext w), (puts u 0 ops a).put o.dst v = puts u' 0 ops a ∧ w'' = x'.now ∧ ∀ (i' : Nat) (p : Fact), ps[i']? = some p → (L.setIfInBounds i true).getD i' false = true → p.holds (u' i') w'' := by
      rintro v w'' ⟨y, rfl, hk, hv⟩
      refine ⟨_, y, (puts_one v ops u 0 i a o hF ho'), rfl, fun i' p' hp' hl => ?_⟩
      simp only [Nat.zero_add]
      split
      · rename_i he
        subst he
        rw [hp] at hp'
        injection hp' with hp'
        subst hp'
        exact hv
      · rename_i he
        refine Fact.keep (p := p') (hL i' p' hp' ?_) hk
        rw [← hl]
        simp only [Array.getD_eq_getD_getElem?, Array.getElem?_setIfInBounds_ne (fun e => he e.symm)]
    unfold wpOp
    rw [ho]
    simp only
    split
    · rename_i hw
      rw [if_pos hw] at hq
      exact .inl (upon_of_y hnext hq)
    · rename_i hw
      rw [if_neg hw] at hq
      exact hnext _ _ hq
  · rintro L a' w' ⟨u, x, rfl, rfl, hL⟩ hr
    refine h4 u x fun i p hp => hL i p hp (hr i ?_)
    have := (List.getElem?_eq_some_iff.1 hp).1
    simpa using (by omega : i < ops.length)
end

/-- A slice at the begin of a block that reads so. -/
def RowAt (w : World) (v : Value) (xs : List Value) : Prop :=
  ∃ g m, v = .slice (some ⟨g, 0, none⟩) xs.length m ∧ xs.length ≤ m ∧ ∀ j u, xs[j]? = some u → w.cell? ⟨g, j, none⟩ = some u
theorem RowAt.keep {w w' : World} {v : Value} {xs : List Value} (h : RowAt w v xs) (hk : Keep w.heap.size [] w w') : RowAt w' v xs := by
  obtain ⟨g, m, rfl, hm, h⟩ := h
  exact ⟨g, m, rfl, hm, fun j u hu => (World.cell?_of_block (hk.block g (World.block_lt_of_cell? w _ (h j u hu)) (by simp))).trans (h j u hu)⟩
theorem NewRow.at_ {w w' : World} {v : Value} {xs ex : List Value} {g : Nat} (h : NewRow w w' v xs g ex) : RowAt w' v xs :=
  ⟨g, _, h.val, by omega, fun j u hu => by
    rw [h.blk.cell]
    simp only [List.getElem?_toArray]
    rw [List.getElem?_append_left (List.getElem?_eq_some_iff.1 hu).1]
    exact hu⟩
theorem RowAt.rd {w : World} {v : Value} {xs : List Value} (h : RowAt w v xs) : Rd w v xs := by
  obtain ⟨g, m, rfl, _, h⟩ := h
  exact ⟨_, m, rfl, fun _ => ⟨g, 0, rfl, fun j u hu => by rw [Nat.zero_add]; exact h j u hu⟩⟩
theorem Rd.take {w : World} {g h m : Nat} {xs ys : List Value} (hc : ∀ j u, xs[j]? = some u → w.cell? ⟨g, j, none⟩ = some u) (hy : xs.take h = ys) (hh : h ≤ xs.length) : Rd w (.slice (some ⟨g, 0, none⟩) h m) ys := by
  subst hy
  have e : (xs.take h).length = h := by simp; omega
  refine ⟨_, m, by rw [e], fun _ => ⟨g, 0, rfl, fun j u hu => ?_⟩⟩
  rw [Nat.zero_add]
  have hj := (List.getElem?_eq_some_iff.1 hu).1
  rw [List.getElem?_take_of_lt (by omega)] at hu
  exact hc j u hu
end Go.Proofs.Ytbdomdmnjclpdaa
set_option linter.unusedVariables false
set_option linter.unusedSimpArgs false
set_option maxRecDepth 100000
namespace Go.Proofs.Ytbdomdmnjclpdaa
open Go.RowKit

/-- Behind the others: the tail. -/
def tailQ (P : Program) (ops : Array Oper) (tl : List Oper) (Q : Exit → Act → World → Prop) : Exit → Act → World → Prop
  | .normal, a, w => wpList P ops Q tl a w
  | .exit i, a, w => Q (.exit i) a w
  | .goto t, a, w => Q (.goto t) a w
  | .ret, a, w => Q .ret a w
  | .panic c, a, w => Q (.panic c) a w
  | .outgrown, a, w => Q .outgrown a w

section
variable {P : Program} {Q : Exit → Act → World → Prop}
theorem yUpon_tail {ops : Array Oper} {tl : List Oper} {a : Act} {K : Value → World → Prop} {r : Result Next} (h : yUpon P a K (tailQ P ops tl Q) r) : yUpon P a K Q r := by
  unfold yUpon at *
  split at h <;> first | exact h | skip

theorem wp_region_rel_tail {id : Nat} {a : Act} {w : World} {l : List Oper} (n : Nat) (hn : l.length = n + 1) (hm : P.follows .mixedOrders = true) (hB : downB .any l.toArray = true) (hF : freshB (l.take n) = true)
    (hS : (Region.sinkB .any l.toArray n && Region.chainB .any l.toArray n) = true)
    (h : wpRel P (tailQ P l.toArray (l.drop n) Q) l.toArray w (fun u => puts u 0 (l.take n) a) [] (l.take n)) : (Code.region id l.toArray true).wp P Q a w := by
  simp only [Bool.and_eq_true] at hS
  obtain ⟨hs1, hs2⟩ := hS
  have hnl : n < l.toArray.size := by simp; omega
  obtain ⟨ps, h1, _, h3, h4⟩ := wpRel_all (l.take n) [] h
  have htl : (l.take n).length = n := by simp; omega
  simp only [List.length_nil, Nat.zero_add] at h1 h3
  refine wp_region_inv hm hB (fun L a' w' => (HeadInv .any l.toArray n L ∧ ∃ (u : Nat → Value) (x : Ext w), a' = puts u 0 (l.take n) a ∧ w' = x.now ∧ ∀ (i : Nat) (p : Fact), ps[i]? = some p → L.getD i false = true → p.holds (u i) w') ∨ (Q .normal a' w' ∧ L.size = l.toArray.size ∧ ∀ i, i < l.toArray.size → L.getD i true = true)) ?_ ?_ ?_
  · refine .inl ⟨⟨by simp, fun j oj _ hl => (by rw [getD_replicate_false] at hl; cases hl), fun t _ ht => getD_in (by simpa using ht) (getD_replicate_false _ _)⟩, fun i => match (l.take n)[i]? with | some o => (match o.dst with | some d => a.tmps.getD d undef | none => undef) | none => undef, ⟨w.drew, (Keep.refl _ _ _).drew⟩, ?_, rfl, ?_⟩
    · refine (puts_start (l.take n) _ 0 a (fun j o hj d hd => ?_)).symm
      simp only [Nat.zero_add, hj, hd]
    · intro i p _ hl
      rw [getD_replicate_false] at hl
      cases hl
  · rintro L a' w' i (⟨hinv, u, x, rfl, rfl, hL⟩ | ⟨_, hsz, hall⟩) hi
    rotate_left
    · obtain ⟨hun, o, ho, _⟩ := mem_ready.1 hi
      have := (Array.getElem?_eq_some_iff.1 ho).1
      rw [hall i this] at hun
      cases hun
    obtain ⟨hun, o, ho, hall⟩ := mem_ready.1 hi
    rcases Nat.lt_or_ge i n with hin | hin
    · have ho' : (l.take n)[i]? = some o := by rw [List.getElem?_take, if_pos hin]; simpa using ho
      obtain ⟨p, hp, hs⟩ := h3 i o ho'
      have hdeps : ∀ e ∈ o.after.toList, Region.binds .any e = true → ∀ p', (ps.take i)[e.on]? = some p' → p'.holds (u e.on) x.now := by
        intro e he hb p' hp'
        rw [List.getElem?_take] at hp'
        split at hp'
        · exact hL _ _ hp' (hall e (by simpa using he) hb)
        · cases hp'
      have hq := told_out _ _ _ _ _ hdeps (hs u x (fun v w'' => ∃ y : Ext w, w'' = y.now ∧ Keep x.now.heap.size [] x.now y.now ∧ p.holds v y.now) (fun v y hk hv => ⟨y, rfl, hk, hv⟩))
      rw [lay_sure _ _ _ _ hdeps] at hq
      have hnext : ∀ v w'', (∃ y : Ext w, w'' = y.now ∧ Keep x.now.heap.size [] x.now y.now ∧ p.holds v y.now) →
          (HeadInv .any l.toArray n (L.setIfInBounds i true) ∧ ∃ (u' : Nat → Value) (x' : Ext w), (puts u 0 (l.take n) a).put o.dst v = puts u' 0 (l.take n) a ∧ w'' = x'.now ∧ ∀ (i' : Nat) (p : Fact), ps[i']? = some p → (L.setIfInBounds i true).getD i' false = true → p.holds (u' i') w'') ∨ (Q .normal ((puts u 0 (l.take n) a).put o.dst v) w'' ∧ (L.setIfInBounds i true).size = l.toArray.size ∧ ∀ i', i' < l.toArray.size → (L.setIfInBounds i true).getD i' true = true) := by
        rintro v w'' ⟨y, rfl, hk, hv⟩
        refine .inl ⟨hinv.set hi hin, _, y, (puts_one v (l.take n) u 0 i a o hF ho'), rfl, fun i' p' hp' hl => ?_⟩
        simp only [Nat.zero_add]
        split
        · rename_i he
          subst he
          rw [hp] at hp'
          injection hp' with hp'
          subst hp'
          exact hv
        · rename_i he
          refine Fact.keep (p := p') (hL i' p' hp' ?_) hk
          rw [← hl]
          simp only [Array.getD_eq_getD_getElem?, Array.getElem?_setIfInBounds_ne (fun e => he e.symm)]
      unfold wpOp
      rw [ho]
      simp only
      split
      · rename_i hw
        rw [if_pos hw] at hq
        exact .inl (upon_of_y hnext (yUpon_tail hq))
      · rename_i hw
        rw [if_neg hw] at hq
        exact hnext _ _ hq
    · -- the tail: all others are done
      have hil : i < l.toArray.size := (Array.getElem?_eq_some_iff.1 ho).1
      have hieq : i = n := by simp at hil; omega
      subst hieq
      have hdone : ∀ j, j < i → L.getD j false = true := by
        intro j hj
        cases hjl : L.getD j true with
        | true =>
          have hjs : j < L.size := by rw [hinv.size]; omega
          simp [hjs] at hjl ⊢
          exact hjl
        | false => exact absurd hi (tail_waits hs1 hs2 hnl hinv _ j rfl hj hjl i (Nat.le_refl _))
      have hQ := h4 u x fun j p hp => hL j p hp (hdone j (by have := (List.getElem?_eq_some_iff.1 hp).1; omega))
      have hdr : l.drop i = [o] := by
        have ho2 : l[i]? = some o := by simpa using ho
        rw [List.drop_eq_getElem_cons (by simpa using hil), List.drop_of_length_le (by omega)]
        have := List.getElem?_eq_some_iff.1 ho2
        rw [this.2]
      rw [hdr] at hQ
      have hend : ∀ a' w', wpList P l.toArray Q [] a' w' → (HeadInv .any l.toArray i (L.setIfInBounds i true) ∧ ∃ (u' : Nat → Value) (x' : Ext w), a' = puts u' 0 (l.take i) a ∧ w' = x'.now ∧ ∀ (i' : Nat) (p : Fact), ps[i']? = some p → (L.setIfInBounds i true).getD i' false = true → p.holds (u' i') w') ∨ (Q .normal a' w' ∧ (L.setIfInBounds i true).size = l.toArray.size ∧ ∀ i', i' < l.toArray.size → (L.setIfInBounds i true).getD i' true = true) := by
        intro a' w' hq
        refine .inr ⟨hq, by simp [hinv.size], fun j hj => ?_⟩
        have hjs : j < L.size := by rw [hinv.size]; exact hj
        by_cases hji : j = i
        · subst hji
          simp [hjs]
        · have hjd := hdone j (by simp at hj; omega)
          simp [hjs] at hjd
          simp [Array.getElem_setIfInBounds, hjs, Ne.symm hji]
          exact hjd
      unfold wpOp
      rw [ho]
      simp only
      have hQ2 : if Region.wanted o (yielded l.toArray (puts u 0 (l.take i) a).tmps) = true then o.wp P (puts u 0 (l.take i) a) x.now (wpList P l.toArray Q []) Q ∨ (o.asks P (puts u 0 (l.take i) a) x.now ∧ LetsOut Q) else wpList P l.toArray Q [] ((puts u 0 (l.take i) a).put o.dst undef) x.now := hQ
      split
      · rename_i hw
        rw [if_pos hw] at hQ2
        exact hQ2.imp (Oper.wp_mono hend) (fun h => h)
      · rename_i hw
        rw [if_neg hw] at hQ2
        exact hend _ _ hQ2
  · rintro L a' w' (⟨hinv, _⟩ | ⟨hq, _, _⟩) hr
    · have := hinv.tail n (Nat.le_refl _) hnl
      have h2 := hr n hnl
      rw [getD_both this] at h2
      cases h2
    · exact hq
end

/-- A new power, in memory that is newer than w0. -/
def PowAt (w0 : World) (v : Value) (l : Int) (w : World) : Prop := ∃ g, v = .pointer (some ⟨g, 0, none⟩) ∧ Blk w g 101 #[.int .i64 l, .int .i64 0] ∧ w0.heap.size ≤ g
theorem PowAt.keep {w0 w w' : World} {v : Value} {l : Int} (h : PowAt w0 v l w) (hk : Keep w.heap.size [] w w') : PowAt w0 v l w' := by
  obtain ⟨g, hv, hb, hg⟩ := h
  exact ⟨g, hv, hb.keep hk hb.lt (by simp), hg⟩
theorem PowAt.new {w0 w w' : World} {l : Int} (h : w0.heap.size ≤ w.heap.size) (hw : w' = w.alloc (.cells #[.int .i64 l, .int .i64 0] 101)) : PowAt w0 (.pointer (some ⟨w.heap.size, 0, none⟩)) l w' := ⟨_, rfl, by rw [hw]; exact Blk.new _ _ _, h⟩
end Go.Proofs.Ytbdomdmnjclpdaa
set_option linter.unusedVariables false
set_option linter.unusedSimpArgs false
set_option maxRecDepth 100000
namespace Go.Proofs.Ytbdomdmnjclpdaa
open Go.RowKit

section
variable {P : Program} {Q : Exit → Act → World → Prop}

/-- In the tail: what lies ahead of m has come. -/
def TailAt (P : Program) (l : List Oper) (Q : Exit → Act → World → Prop) (n : Nat) (L : Array Bool) (a : Act) (w : World) : Prop :=
  ∃ m, n ≤ m ∧ m ≤ l.length ∧ L.size = l.toArray.size ∧ (∀ i, i < l.length → L.getD i true = decide (i < m)) ∧ wpList P l.toArray Q (l.drop m) a w
theorem tailAt_step {l : List Oper} {n i : Nat} {L : Array Bool} {a : Act} {w : World} (hs2 : Region.chainB .any l.toArray n = true) (h : TailAt P l Q n L a w) (hi : i ∈ Region.ready .any l.toArray L) :
    wpOp P l.toArray Q i (TailAt P l Q n (L.setIfInBounds i true)) a w := by
  obtain ⟨m, hm1, hm2, hsz, hall, hq⟩ := h
  obtain ⟨hun, o, ho, hdep⟩ := mem_ready.1 hi
  have ho' : l[i]? = some o := by simpa using ho
  have hil : i < l.length := (List.getElem?_eq_some_iff.1 ho').1
  have hmi : m ≤ i := by
    have := hall i hil
    rw [hun] at this
    simpa using this.symm
  have hieq : i = m := by
    rcases Nat.lt_or_ge m i with hlt | hge
    · have h1 := List.all_eq_true.1 hs2 i (List.mem_range.2 (by simpa using hil))
      simp only [Bool.or_eq_true, decide_eq_true_eq] at h1
      rcases h1 with h1 | h1
      · omega
      · obtain ⟨o', ho2, e, he, hb, hon⟩ := Region.waitsFor_spec h1
        have : o' = o := Option.some.inj (ho2.symm.trans ho)
        subst this
        have h2 := hdep e he hb
        have h3 := hall (i - 1) (by omega)
        rw [decide_eq_false (by omega)] at h3
        rw [hon, getD_both h3] at h2
        cases h2
    · omega
  subst hieq
  have hdr : l.drop i = o :: l.drop (i + 1) := by
    rw [List.drop_eq_getElem_cons hil]
    have := List.getElem?_eq_some_iff.1 ho'
    rw [this.2]
  rw [hdr] at hq
  have hend : ∀ a' w', wpList P l.toArray Q (l.drop (i + 1)) a' w' → TailAt P l Q n (L.setIfInBounds i true) a' w' := by
    intro a' w' hq
    refine ⟨i + 1, by omega, by omega, by simp [hsz], fun j hj => ?_, hq⟩
    have hjs : j < L.size := by rw [hsz]; simpa using hj
    by_cases hji : j = i
    · subst hji
      simp [hjs]
    · have hjd := hall j hj
      simp [hjs] at hjd
      simp [Array.getElem_setIfInBounds, hjs, Ne.symm hji]
      rw [hjd]
      by_cases h : j < i <;> simp [h] <;> omega
  unfold wpOp
  rw [ho]
  simp only
  have hQ2 : if Region.wanted o (yielded l.toArray a.tmps) = true then o.wp P a w (wpList P l.toArray Q (l.drop (i + 1))) Q ∨ (o.asks P a w ∧ LetsOut Q) else wpList P l.toArray Q (l.drop (i + 1)) (a.put o.dst undef) w := hq
  split
  · rename_i hw
    rw [if_pos hw] at hQ2
    exact hQ2.imp (Oper.wp_mono hend) (fun h => h)
  · rename_i hw
    rw [if_neg hw] at hQ2
    exact hend _ _ hQ2

theorem wp_region_rel_tails {id : Nat} {a : Act} {w : World} {l : List Oper} (n : Nat) (hn : n < l.length) (hm : P.follows .mixedOrders = true) (hB : downB .any l.toArray = true) (hF : freshB (l.take n) = true)
    (hS : (Region.sinkB .any l.toArray n && Region.chainB .any l.toArray n) = true)
    (h : wpRel P (tailQ P l.toArray (l.drop n) Q) l.toArray w (fun u => puts u 0 (l.take n) a) [] (l.take n)) : (Code.region id l.toArray true).wp P Q a w := by
  simp only [Bool.and_eq_true] at hS
  obtain ⟨hs1, hs2⟩ := hS
  have hnl : n < l.toArray.size := by simp; omega
  obtain ⟨ps, h1, _, h3, h4⟩ := wpRel_all (l.take n) [] h
  have htl : (l.take n).length = n := by simp; omega
  simp only [List.length_nil, Nat.zero_add] at h1 h3
  refine wp_region_inv hm hB (fun L a' w' => (HeadInv .any l.toArray n L ∧ ∃ (u : Nat → Value) (x : Ext w), a' = puts u 0 (l.take n) a ∧ w' = x.now ∧ ∀ (i : Nat) (p : Fact), ps[i]? = some p → L.getD i false = true → p.holds (u i) w') ∨ TailAt P l Q n L a' w') ?_ ?_ ?_
  · refine .inl ⟨⟨by simp, fun j oj _ hl => (by rw [getD_replicate_false] at hl; cases hl), fun t _ ht => getD_in (by simpa using ht) (getD_replicate_false _ _)⟩, fun i => match (l.take n)[i]? with | some o => (match o.dst with | some d => a.tmps.getD d undef | none => undef) | none => undef, ⟨w.drew, (Keep.refl _ _ _).drew⟩, ?_, rfl, ?_⟩
    · refine (puts_start (l.take n) _ 0 a (fun j o hj d hd => ?_)).symm
      simp only [Nat.zero_add, hj, hd]
    · intro i p _ hl
      rw [getD_replicate_false] at hl
      cases hl
  · rintro L a' w' i (⟨hinv, u, x, rfl, rfl, hL⟩ | hT) hi
    rotate_left
    · exact wpOp_mono (fun a' w' h => .inr h) (tailAt_step hs2 hT hi)
    obtain ⟨hun, o, ho, hall⟩ := mem_ready.1 hi
    rcases Nat.lt_or_ge i n with hin | hin
    · have ho' : (l.take n)[i]? = some o := by rw [List.getElem?_take, if_pos hin]; simpa using ho
      obtain ⟨p, hp, hs⟩ := h3 i o ho'
      have hdeps : ∀ e ∈ o.after.toList, Region.binds .any e = true → ∀ p', (ps.take i)[e.on]? = some p' → p'.holds (u e.on) x.now := by
        intro e he hb p' hp'
        rw [List.getElem?_take] at hp'
        split at hp'
        · exact hL _ _ hp' (hall e (by simpa using he) hb)
        · cases hp'
      have hq := told_out _ _ _ _ _ hdeps (hs u x (fun v w'' => ∃ y : Ext w, w'' = y.now ∧ Keep x.now.heap.size [] x.now y.now ∧ p.holds v y.now) (fun v y hk hv => ⟨y, rfl, hk, hv⟩))
      rw [lay_sure _ _ _ _ hdeps] at hq
      have hnext : ∀ v w'', (∃ y : Ext w, w'' = y.now ∧ Keep x.now.heap.size [] x.now y.now ∧ p.holds v y.now) →
          (HeadInv .any l.toArray n (L.setIfInBounds i true) ∧ ∃ (u' : Nat → Value) (x' : Ext w), (puts u 0 (l.take n) a).put o.dst v = puts u' 0 (l.take n) a ∧ w'' = x'.now ∧ ∀ (i' : Nat) (p : Fact), ps[i']? = some p → (L.setIfInBounds i true).getD i' false = true → p.holds (u' i') w'') ∨ TailAt P l Q n (L.setIfInBounds i true) ((puts u 0 (l.take n) a).put o.dst v) w'' := by
        rintro v w'' ⟨y, rfl, hk, hv⟩
        refine .inl ⟨hinv.set hi hin, _, y, (puts_one v (l.take n) u 0 i a o hF ho'), rfl, fun i' p' hp' hl => ?_⟩
        simp only [Nat.zero_add]
        split
        · rename_i he
          subst he
          rw [hp] at hp'
          injection hp' with hp'
          subst hp'
          exact hv
        · rename_i he
          refine Fact.keep (p := p') (hL i' p' hp' ?_) hk
          rw [← hl]
          simp only [Array.getD_eq_getD_getElem?, Array.getElem?_setIfInBounds_ne (fun e => he e.symm)]
      unfold wpOp
      rw [ho]
      simp only
      split
      · rename_i hw
        rw [if_pos hw] at hq
        exact .inl (upon_of_y hnext (yUpon_tail hq))
      · rename_i hw
        rw [if_neg hw] at hq
        exact hnext _ _ hq
    · -- the tail: all others are done
      have hil : i < l.toArray.size := (Array.getElem?_eq_some_iff.1 ho).1
      have hdone : ∀ j, j < n → L.getD j false = true := by
        intro j hj
        cases hjl : L.getD j true with
        | true =>
          have hjs : j < L.size := by rw [hinv.size]; omega
          simp [hjs] at hjl ⊢
          exact hjl
        | false => exact absurd hi (tail_waits hs1 hs2 hnl hinv _ j rfl hj hjl i hin)
      have hQ := h4 u x fun j p hp => hL j p hp (hdone j (by have := (List.getElem?_eq_some_iff.1 hp).1; omega))
      refine wpOp_mono (fun a' w' h => .inr h) (tailAt_step hs2 ⟨n, Nat.le_refl _, by omega, hinv.size, fun j hj => ?_, hQ⟩ hi)
      have hjs : j < L.size := by rw [hinv.size]; simpa using hj
      by_cases hjn : j < n
      · have := hdone j hjn
        rw [decide_eq_true hjn]
        simp [hjs] at this ⊢
        exact this
      · rw [decide_eq_false hjn]
        exact hinv.tail j (by omega) (by simpa using hj)
  · rintro L a' w' (⟨hinv, _⟩ | ⟨m, hm1, hm2, _, hall, hq⟩) hr
    · have := hinv.tail n (Nat.le_refl _) hnl
      have h2 := hr n hnl
      rw [getD_both this] at h2
      cases h2
    · have hml : m = l.length := by
        rcases Nat.lt_or_ge m l.length with h | h
        · have h1 := hall m h
          have h2 := hr m (by simpa using h)
          rw [decide_eq_false (by omega)] at h1
          rw [getD_both h1] at h2
          cases h2
        · omega
      subst hml
      rw [List.drop_of_length_le (Nat.le_refl _)] at hq
      exact hq
end
end Go.Proofs.Ytbdomdmnjclpdaa
