/-
  Regions that draw their order: operations each told of, as in XRel, and behind them all one that may do anything.
-/
import Derived.Test.YtaophnicdbmojaaRel
set_option linter.unusedVariables false
set_option linter.unusedSimpArgs false
set_option maxRecDepth 100000
namespace Go.Proofs.Ytaophnicdbmojaa
open Go.RowKit

/-- Behind the others: the tail. -/
def tailQ (P : Program) (ops : Array Oper) (tl : List Oper) (Q : Exit → Act → World → Prop) : Exit → Act → World → Prop
  | .normal, a, w => wpList P ops Q tl a w
  | .exit i, a, w => Q (.exit i) a w
  | .goto t, a, w => Q (.goto t) a w
  | .ret, a, w => Q .ret a w
  | .panic c, a, w => Q (.panic c) a w
  | .outgrown, a, w => Q .outgrown a w

section
variable {P : Program} {Q : Exit → Act → World → Prop}
theorem yUpon_tail {ops : Array Oper} {tl : List Oper} {a : Act} {K : Value → World → Prop} {r : Result Next} (h : yUpon P a K (tailQ P ops tl Q) r) : yUpon P a K Q r := by
  unfold yUpon at *
  split at h <;> first | exact h | skip

theorem wp_region_rel_tail {id : Nat} {a : Act} {w : World} {l : List Oper} (n : Nat) (hn : l.length = n + 1) (hm : P.follows .mixedOrders = true) (hB : downB .any l.toArray = true) (hF : freshB (l.take n) = true)
    (hS : (Region.sinkB .any l.toArray n && Region.chainB .any l.toArray n) = true)
    (h : wpRel P (tailQ P l.toArray (l.drop n) Q) l.toArray w (fun u => puts u 0 (l.take n) a) [] (l.take n)) : (Code.region id l.toArray true).wp P Q a w := by
  simp only [Bool.and_eq_true] at hS
  obtain ⟨hs1, hs2⟩ := hS
  have hnl : n < l.toArray.size := by simp; omega
  obtain ⟨ps, h1, _, h3, h4⟩ := wpRel_all (l.take n) [] h
  have htl : (l.take n).length = n := by simp; omega
  simp only [List.length_nil, Nat.zero_add] at h1 h3
  refine wp_region_inv hm hB (fun L a' w' => (HeadInv .any l.toArray n L ∧ ∃ (u : Nat → Value) (x : Ext w), a' = puts u 0 (l.take n) a ∧ w' = x.now ∧ ∀ (i : Nat) (p : Fact), ps[i]? = some p → L.getD i false = true → p.holds (u i) w') ∨ (Q .normal a' w' ∧ L.size = l.toArray.size ∧ ∀ i, i < l.toArray.size → L.getD i true = true)) ?_ ?_ ?_
  · refine .inl ⟨⟨by simp, fun j oj _ hl => (by rw [getD_replicate_false] at hl; cases hl), fun t _ ht => getD_in (by simpa using ht) (getD_replicate_false _ _)⟩, fun i => match (l.take n)[i]? with | some o => (match o.dst with | some d => a.tmps.getD d undef | none => undef) | none => undef, ⟨w.drew, (Keep.refl _ _ _).drew⟩, ?_, rfl, ?_⟩
    · refine (puts_start (l.take n) _ 0 a (fun j o hj d hd => ?_)).symm
      simp only [Nat.zero_add, hj, hd]
    · intro i p _ hl
      rw [getD_replicate_false] at hl
      cases hl
  · rintro L a' w' i (⟨hinv, u, x, rfl, rfl, hL⟩ | ⟨_, hsz, hall⟩) hi
    rotate_left
    · obtain ⟨hun, o, ho, _⟩ := mem_ready.1 hi
      have := (Array.getElem?_eq_some_iff.1 ho).1
      rw [hall i this] at hun
      cases hun
    obtain ⟨hun, o, ho, hall⟩ := mem_ready.1 hi
    rcases Nat.lt_or_ge i n with hin | hin
    · have ho' : (l.take n)[i]? = some o := by rw [List.getElem?_take, if_pos hin]; simpa using ho
      obtain ⟨p, hp, hs⟩ := h3 i o ho'
      have hdeps : ∀ e ∈ o.after.toList, Region.binds .any e = true → ∀ p', (ps.take i)[e.on]? = some p' → p'.holds (u e.on) x.now := by
        intro e he hb p' hp'
        rw [List.getElem?_take] at hp'
        split at hp'
        · exact hL _ _ hp' (hall e (by simpa using he) hb)
        · cases hp'
      have hq := told_out _ _ _ _ _ hdeps (hs u x (fun v w'' => ∃ y : Ext w, w'' = y.now ∧ Keep x.now.heap.size [] x.now y.now ∧ p.holds v y.now) (fun v y hk hv => ⟨y, rfl, hk, hv⟩))
      rw [lay_sure _ _ _ _ hdeps] at hq
      have hnext : ∀ v w'', (∃ y : Ext w, w'' = y.now ∧ Keep x.now.heap.size [] x.now y.now ∧ p.holds v y.now) →
          (HeadInv .any l.toArray n (L.setIfInBounds i true) ∧ ∃ (u' : Nat → Value) (x' : Ext w), (puts u 0 (l.take n) a).put o.dst v = puts u' 0 (l.take n) a ∧ w'' = x'.now ∧ ∀ (i' : Nat) (p : Fact), ps[i']? = some p → (L.setIfInBounds i true).getD i' false = true → p.holds (u' i') w'') ∨ (Q .normal ((puts u 0 (l.take n) a).put o.dst v) w'' ∧ (L.setIfInBounds i true).size = l.toArray.size ∧ ∀ i', i' < l.toArray.size → (L.setIfInBounds i true).getD i' true = true) := by
        rintro v w'' ⟨y, rfl, hk, hv⟩
        refine .inl ⟨hinv.set hi hin, _, y, (puts_one v (l.take n) u 0 i a o hF ho'), rfl, fun i' p' hp' hl => ?_⟩
        simp only [Nat.zero_add]
        split
        · rename_i he
          subst he
          rw [hp] at hp'
          injection hp' with hp'
          subst hp'
          exact hv
        · rename_i he
          refine Fact.keep (p := p') (hL i' p' hp' ?_) hk
          rw [← hl]
          simp only [Array.getD_eq_getD_getElem?, Array.getElem?_setIfInBounds_ne (fun e => he e.symm)]
      unfold wpOp
      rw [ho]
      simp only
      split
      · rename_i hw
        rw [if_pos hw] at hq
        exact .inl (upon_of_y hnext (yUpon_tail hq))
      · rename_i hw
        rw [if_neg hw] at hq
        exact hnext _ _ hq
    · -- the tail: all others are done
      have hil : i < l.toArray.size := (Array.getElem?_eq_some_iff.1 ho).1
      have hieq : i = n := by simp at hil; omega
      subst hieq
      have hdone : ∀ j, j < i → L.getD j false = true := by
        intro j hj
        cases hjl : L.getD j true with
        | true =>
          have hjs : j < L.size := by rw [hinv.size]; omega
          simp [hjs] at hjl ⊢
          exact hjl
        | false => exact absurd hi (tail_waits hs1 hs2 hnl hinv _ j rfl hj hjl i (Nat.le_refl _))
      have hQ := h4 u x fun j p hp => hL j p hp (hdone j (by have := (List.getElem?_eq_some_iff.1 hp).1; omega))
      have hdr : l.drop i = [o] := by
        have ho2 : l[i]? = some o := by simpa using ho
        rw [List.drop_eq_getElem_cons (by simpa using hil), List.drop_of_length_le (by omega)]
        have := List.getElem?_eq_some_iff.1 ho2
        rw [this.2]
      rw [hdr] at hQ
      have hend : ∀ a' w', wpList P l.toArray Q [] a' w' → (HeadInv .any l.toArray i (L.setIfInBounds i true) ∧ ∃ (u' : Nat → Value) (x' : Ext w), a' = puts u' 0 (l.take i) a ∧ w' = x'.now ∧ ∀ (i' : Nat) (p : Fact), ps[i']? = some p → (L.setIfInBounds i true).getD i' false = true → p.holds (u' i') w') ∨ (Q .normal a' w' ∧ (L.setIfInBounds i true).size = l.toArray.size ∧ ∀ i', i' < l.toArray.size → (L.setIfInBounds i true).getD i' true = true) := by
        intro a' w' hq
        refine .inr ⟨hq, by simp [hinv.size], fun j hj => ?_⟩
        have hjs : j < L.size := by rw [hinv.size]; exact hj
        by_cases hji : j = i
        · subst hji
          simp [hjs]
        · have hjd := hdone j (by simp at hj; omega)
          simp [hjs] at hjd
          simp [Array.getElem_setIfInBounds, hjs, Ne.symm hji]
          exact hjd
      unfold wpOp
      rw [ho]
      simp only
      have hQ2 : if Region.wanted o (yielded l.toArray (puts u 0 (l.take i) a).tmps) = true then o.wp P (puts u 0 (l.take i) a) x.now (wpList P l.toArray Q []) Q ∨ (o.asks P (puts u 0 (l.take i) a) x.now ∧ LetsOut Q) else wpList P l.toArray Q [] ((puts u 0 (l.take i) a).put o.dst undef) x.now := hQ
      split
      · rename_i hw
        rw [if_pos hw] at hQ2
        exact hQ2.imp (Oper.wp_mono hend) (fun h => h)
      · rename_i hw
        rw [if_neg hw] at hQ2
        exact hend _ _ hQ2
  · rintro L a' w' (⟨hinv, _⟩ | ⟨hq, _, _⟩) hr
    · have := hinv.tail n (Nat.le_refl _) hnl
      have h2 := hr n hnl
      rw [getD_both this] at h2
      cases h2
    · exact hq
end

/-- A new power, in memory that is newer than w0. -/
def PowAt (w0 : World) (v : Value) (l : Int) (w : World) : Prop := ∃ g, v = .pointer (some ⟨g, 0, none⟩) ∧ Blk w g 126 #[.int .i64 l, .int .i64 0] ∧ w0.heap.size ≤ g
theorem PowAt.keep {w0 w w' : World} {v : Value} {l : Int} (h : PowAt w0 v l w) (hk : Keep w.heap.size [] w w') : PowAt w0 v l w' := by
  obtain ⟨g, hv, hb, hg⟩ := h
  exact ⟨g, hv, hb.keep hk hb.lt (by simp), hg⟩
theorem PowAt.new {w0 w w' : World} {l : Int} (h : w0.heap.size ≤ w.heap.size) (hw : w' = w.alloc (.cells #[.int .i64 l, .int .i64 0] 126)) : PowAt w0 (.pointer (some ⟨w.heap.size, 0, none⟩)) l w' := ⟨_, rfl, by rw [hw]; exact Blk.new _ _ _, h⟩
end Go.Proofs.Ytaophnicdbmojaa
