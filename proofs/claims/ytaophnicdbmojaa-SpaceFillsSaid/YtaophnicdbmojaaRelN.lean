/-
  Regions that draw their order: operations each told of, as in XRel, and behind them all some that come one behind the other.
-/
import Derived.Test.YtaophnicdbmojaaRelT
set_option linter.unusedVariables false
set_option linter.unusedSimpArgs false
set_option maxRecDepth 100000
namespace Go.Proofs.Ytaophnicdbmojaa
open Go.RowKit

section
variable {P : Program} {Q : Exit → Act → World → Prop}

/-- In the tail: what lies ahead of m has come. -/
def TailAt (P : Program) (l : List Oper) (Q : Exit → Act → World → Prop) (n : Nat) (L : Array Bool) (a : Act) (w : World) : Prop :=
  ∃ m, n ≤ m ∧ m ≤ l.length ∧ L.size = l.toArray.size ∧ (∀ i, i < l.length → L.getD i true = decide (i < m)) ∧ wpList P l.toArray Q (l.drop m) a w
theorem tailAt_step {l : List Oper} {n i : Nat} {L : Array Bool} {a : Act} {w : World} (hs2 : Region.chainB .any l.toArray n = true) (h : TailAt P l Q n L a w) (hi : i ∈ Region.ready .any l.toArray L) :
    wpOp P l.toArray Q i (TailAt P l Q n (L.setIfInBounds i true)) a w := by
  obtain ⟨m, hm1, hm2, hsz, hall, hq⟩ := h
  obtain ⟨hun, o, ho, hdep⟩ := mem_ready.1 hi
  have ho' : l[i]? = some o := by simpa using ho
  have hil : i < l.length := (List.getElem?_eq_some_iff.1 ho').1
  have hmi : m ≤ i := by
    have := hall i hil
    rw [hun] at this
    simpa using this.symm
  have hieq : i = m := by
    rcases Nat.lt_or_ge m i with hlt | hge
    · have h1 := List.all_eq_true.1 hs2 i (List.mem_range.2 (by simpa using hil))
      simp only [Bool.or_eq_true, decide_eq_true_eq] at h1
      rcases h1 with h1 | h1
      · omega
      · obtain ⟨o', ho2, e, he, hb, hon⟩ := Region.waitsFor_spec h1
        have : o' = o := Option.some.inj (ho2.symm.trans ho)
        subst this
        have h2 := hdep e he hb
        have h3 := hall (i - 1) (by omega)
        rw [decide_eq_false (by omega)] at h3
        rw [hon, getD_both h3] at h2
        cases h2
    · omega
  subst hieq
  have hdr : l.drop i = o :: l.drop (i + 1) := by
    rw [List.drop_eq_getElem_cons hil]
    have := List.getElem?_eq_some_iff.1 ho'
    rw [this.2]
  rw [hdr] at hq
  have hend : ∀ a' w', wpList P l.toArray Q (l.drop (i + 1)) a' w' → TailAt P l Q n (L.setIfInBounds i true) a' w' := by
    intro a' w' hq
    refine ⟨i + 1, by omega, by omega, by simp [hsz], fun j hj => ?_, hq⟩
    have hjs : j < L.size := by rw [hsz]; simpa using hj
    by_cases hji : j = i
    · subst hji
      simp [hjs]
    · have hjd := hall j hj
      simp [hjs] at hjd
      simp [Array.getElem_setIfInBounds, hjs, Ne.symm hji]
      rw [hjd]
      by_cases h : j < i <;> simp [h] <;> omega
  unfold wpOp
  rw [ho]
  simp only
  have hQ2 : if Region.wanted o (yielded l.toArray a.tmps) = true then o.wp P a w (wpList P l.toArray Q (l.drop (i + 1))) Q ∨ (o.asks P a w ∧ LetsOut Q) else wpList P l.toArray Q (l.drop (i + 1)) (a.put o.dst undef) w := hq
  split
  · rename_i hw
    rw [if_pos hw] at hQ2
    exact hQ2.imp (Oper.wp_mono hend) (fun h => h)
  · rename_i hw
    rw [if_neg hw] at hQ2
    exact hend _ _ hQ2

theorem wp_region_rel_tails {id : Nat} {a : Act} {w : World} {l : List Oper} (n : Nat) (hn : n < l.length) (hm : P.follows .mixedOrders = true) (hB : downB .any l.toArray = true) (hF : freshB (l.take n) = true)
    (hS : (Region.sinkB .any l.toArray n && Region.chainB .any l.toArray n) = true)
    (h : wpRel P (tailQ P l.toArray (l.drop n) Q) l.toArray w (fun u => puts u 0 (l.take n) a) [] (l.take n)) : (Code.region id l.toArray true).wp P Q a w := by
  simp only [Bool.and_eq_true] at hS
  obtain ⟨hs1, hs2⟩ := hS
  have hnl : n < l.toArray.size := by simp; omega
  obtain ⟨ps, h1, _, h3, h4⟩ := wpRel_all (l.take n) [] h
  have htl : (l.take n).length = n := by simp; omega
  simp only [List.length_nil, Nat.zero_add] at h1 h3
  refine wp_region_inv hm hB (fun L a' w' => (HeadInv .any l.toArray n L ∧ ∃ (u : Nat → Value) (x : Ext w), a' = puts u 0 (l.take n) a ∧ w' = x.now ∧ ∀ (i : Nat) (p : Fact), ps[i]? = some p → L.getD i false = true → p.holds (u i) w') ∨ TailAt P l Q n L a' w') ?_ ?_ ?_
  · refine .inl ⟨⟨by simp, fun j oj _ hl => (by rw [getD_replicate_false] at hl; cases hl), fun t _ ht => getD_in (by simpa using ht) (getD_replicate_false _ _)⟩, fun i => match (l.take n)[i]? with | some o => (match o.dst with | some d => a.tmps.getD d undef | none => undef) | none => undef, ⟨w.drew, (Keep.refl _ _ _).drew⟩, ?_, rfl, ?_⟩
    · refine (puts_start (l.take n) _ 0 a (fun j o hj d hd => ?_)).symm
      simp only [Nat.zero_add, hj, hd]
    · intro i p _ hl
      rw [getD_replicate_false] at hl
      cases hl
  · rintro L a' w' i (⟨hinv, u, x, rfl, rfl, hL⟩ | hT) hi
    rotate_left
    · exact wpOp_mono (fun a' w' h => .inr h) (tailAt_step hs2 hT hi)
    obtain ⟨hun, o, ho, hall⟩ := mem_ready.1 hi
    rcases Nat.lt_or_ge i n with hin | hin
    · have ho' : (l.take n)[i]? = some o := by rw [List.getElem?_take, if_pos hin]; simpa using ho
      obtain ⟨p, hp, hs⟩ := h3 i o ho'
      have hdeps : ∀ e ∈ o.after.toList, Region.binds .any e = true → ∀ p', (ps.take i)[e.on]? = some p' → p'.holds (u e.on) x.now := by
        intro e he hb p' hp'
        rw [List.getElem?_take] at hp'
        split at hp'
        · exact hL _ _ hp' (hall e (by simpa using he) hb)
        · cases hp'
      have hq := told_out _ _ _ _ _ hdeps (hs u x (fun v w'' => ∃ y : Ext w, w'' = y.now ∧ Keep x.now.heap.size [] x.now y.now ∧ p.holds v y.now) (fun v y hk hv => ⟨y, rfl, hk, hv⟩))
      rw [lay_sure _ _ _ _ hdeps] at hq
      have hnext : ∀ v w'', (∃ y : Ext w, w'' = y.now ∧ Keep x.now.heap.size [] x.now y.now ∧ p.holds v y.now) →
          (HeadInv .any l.toArray n (L.setIfInBounds i true) ∧ ∃ (u' : Nat → Value) (x' : Ext w), (puts u 0 (l.take n) a).put o.dst v = puts u' 0 (l.take n) a ∧ w'' = x'.now ∧ ∀ (i' : Nat) (p : Fact), ps[i']? = some p → (L.setIfInBounds i true).getD i' false = true → p.holds (u' i') w'') ∨ TailAt P l Q n (L.setIfInBounds i true) ((puts u 0 (l.take n) a).put o.dst v) w'' := by
        rintro v w'' ⟨y, rfl, hk, hv⟩
        refine .inl ⟨hinv.set hi hin, _, y, (puts_one v (l.take n) u 0 i a o hF ho'), rfl, fun i' p' hp' hl => ?_⟩
        simp only [Nat.zero_add]
        split
        · rename_i he
          subst he
          rw [hp] at hp'
          injection hp' with hp'
          subst hp'
          exact hv
        · rename_i he
          refine Fact.keep (p := p') (hL i' p' hp' ?_) hk
          rw [← hl]
          simp only [Array.getD_eq_getD_getElem?, Array.getElem?_setIfInBounds_ne (fun e => he e.symm)]
      unfold wpOp
      rw [ho]
      simp only
      split
      · rename_i hw
        rw [if_pos hw] at hq
        exact .inl (upon_of_y hnext (yUpon_tail hq))
      · rename_i hw
        rw [if_neg hw] at hq
        exact hnext _ _ hq
    · -- the tail: all others are done
      have hil : i < l.toArray.size := (Array.getElem?_eq_some_iff.1 ho).1
      have hdone : ∀ j, j < n → L.getD j false = true := by
        intro j hj
        cases hjl : L.getD j true with
        | true =>
          have hjs : j < L.size := by rw [hinv.size]; omega
          simp [hjs] at hjl ⊢
          exact hjl
        | false => exact absurd hi (tail_waits hs1 hs2 hnl hinv _ j rfl hj hjl i hin)
      have hQ := h4 u x fun j p hp => hL j p hp (hdone j (by have := (List.getElem?_eq_some_iff.1 hp).1; omega))
      refine wpOp_mono (fun a' w' h => .inr h) (tailAt_step hs2 ⟨n, Nat.le_refl _, by omega, hinv.size, fun j hj => ?_, hQ⟩ hi)
      have hjs : j < L.size := by rw [hinv.size]; simpa using hj
      by_cases hjn : j < n
      · have := hdone j hjn
        rw [decide_eq_true hjn]
        simp [hjs] at this ⊢
        exact this
      · rw [decide_eq_false hjn]
        exact hinv.tail j (by omega) (by simpa using hj)
  · rintro L a' w' (⟨hinv, _⟩ | ⟨m, hm1, hm2, _, hall, hq⟩) hr
    · have := hinv.tail n (Nat.le_refl _) hnl
      have h2 := hr n hnl
      rw [getD_both this] at h2
      cases h2
    · have hml : m = l.length := by
        rcases Nat.lt_or_ge m l.length with h | h
        · have h1 := hall m h
          have h2 := hr m (by simpa using h)
          rw [decide_eq_false (by omega)] at h1
          rw [getD_both h1] at h2
          cases h2
        · omega
      subst hml
      rw [List.drop_of_length_le (Nat.le_refl _)] at hq
      exact hq
end
end Go.Proofs.Ytaophnicdbmojaa
