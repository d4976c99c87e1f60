/-
  A loop around ranges over functions, of few rounds; leaving behind several such ranges; a scope.
-/
import Derived.Test.YtbdomdmnjclpdaaRangeX
import Derived.WalkMore
set_option linter.unusedSimpArgs false
set_option linter.unusedVariables false
set_option maxRecDepth 100000
namespace Go.Proofs.Ytbdomdmnjclpdaa
open Go.RowKit

section
variable {Fr : FuncId → Prop} {P : Program} {Q : Exit → Act → World → Prop} {a : Act} {w : World} {c : Code}
def loopN (Fr : FuncId → Prop) (P : Program) (c : Code) (Q : Exit → Act → World → Prop) : Nat → Act → World → Prop
  | 0 => fun _ _ => False
  | n + 1 => wpFr Fr P c (Exit.then (loopN Fr P c Q n) Q)
theorem wpFr_loopN (n : Nat) (h : loopN Fr P c Q n a w) : wpFr Fr P (.loop c) Q a w := by
  intro b k cs hro hb
  have key : ∀ n a w, loopN Fr P c Q n a w →
      ∃ e a' w', Q e a' w' ∧ ArrivesIn (Machine.fenced P Fence.wide) P (lone (b.atR a (.code c :: .inLoop c :: k)) cs w) b k cs e a' w' := by
    intro n
    induction n with
    | zero => intro a w h; exact h.elim
    | succ n ih =>
      intro a w h
      obtain ⟨e, a₁, w₁, hq, harr⟩ := h b (.inLoop c :: k) cs hro hb
      cases e with
      | normal =>
        obtain ⟨e₂, a₂, w₂, hq₂, harr₂⟩ := ih a₁ w₁ hq
        exact ⟨e₂, a₂, w₂, hq₂, .of_steps (StepsIn.trans harr (.one (fenced_wide _ _) stepR_inLoop)) harr₂⟩
      | exit id => exact ⟨_, a₁, w₁, hq, .pass (x := .inLoop c) rfl (fun _ _ => .inl (by simp)) harr⟩
      | goto l => exact ⟨_, a₁, w₁, hq, .pass (x := .inLoop c) rfl (fun _ _ => .inl (by simp)) harr⟩
      | ret => exact ⟨_, a₁, w₁, hq, .pass (x := .inLoop c) rfl (fun _ _ => .inl (by simp)) harr⟩
      | panic ch => exact ⟨_, a₁, w₁, hq, .pass (x := .inLoop c) rfl (fun _ _ => .inl (by simp)) harr⟩
      | outgrown => exact ⟨_, a₁, w₁, hq, .pass (x := .inLoop c) rfl (fun _ _ => .inl (by simp)) harr⟩
  obtain ⟨e, a', w', hq, harr⟩ := key n a w h
  exact ⟨e, a', w', hq, .of_steps (.one (fenced_wide _ _) stepR_loop) harr⟩
theorem leave_more {fn : Func} {R : Ending → World → Prop} {tmps : Array Value} {D : Nat} {ds : List Deferred} (hD : w.heap[D]? = some (.deferred (some [])))
    (h : LeavesInM Fence.wide 0 P fn tmps R ds .returning (w.putObj D (.deferred none))) : LeavesInM Fence.wide 0 P fn tmps R (markOf D :: ds) .returning w :=
  ⟨by simp, .inl ⟨D, _, rfl, run_takeDeferred hD, h⟩⟩
end

/-- A range over a function in its block: it ends, or is left by that block's exit: then on, the same way. -/
theorem wpFr_rangeB {Fr : FuncId → Prop} {W : World} {S : List Nat} {L0 : List Res} {g : Operand} {ps : Array Tmp} {assign body : Code} {Q : Exit → Act → World → Prop} {a : Act} {w : World} {id : Nat}
    (HS : Sep W S L0 w) {gf : FuncId} {lb : Array Value} (hg : a.eval g = .func (.func gf) #[] lb) (eg : Enters Try.prog gf)
    {encs : Nat → Array Value} {N : Nat} {RR : Nat → World → Prop} (hseq : SeqS gf lb encs N RR) (hps : ∀ m, (encs m).size = ps.size)
    (J : Nat → List Res → Prop) (JX JJ : List Res → Prop) (h0 : J 0 L0) (hN : ∀ L, J N L → JJ L) (hX : ∀ L, JX L → JJ L)
    (hRR : ∀ m L X W', m ≤ N → J m L → Sep W S (L ++ X) W' → RR m W')
    (hround : ∀ (l m : Nat) (L X : List Res) (r1 r2 : Res) (W' : World), m < N → J m L → Sep W S (L ++ r1 :: r2 :: X) W' →
      assign.wpIn (Fence.wide.inRound l) 0 Try.prog (Exit.then (fun a₁ W1 => ∃ L1, Sep W S (L1 ++ r1 :: r2 :: X) W1 ∧ ∀ (q2 : Res) (W2 : World), Sep W S (L1 ++ r1 :: q2 :: X) W2 →
        body.wpIn (Fence.wide.inRound l) 0 Try.prog (fun e a' W'' => match e with
          | .normal => ∃ L', J (m + 1) L' ∧ Sep W S (L' ++ r1 :: q2 :: X) W''
          | .ret => ∃ L', (Code.ret = .exit id ∧ JX L') ∧ Sep W S (L' ++ r1 :: q2 :: X) W''
          | .exit e => ∃ L', (Code.exit e = .exit id ∧ JX L') ∧ Sep W S (L' ++ r1 :: q2 :: X) W''
          | .goto t => ∃ L', (Code.goto t = .exit id ∧ JX L') ∧ Sep W S (L' ++ r1 :: q2 :: X) W''
          | .panic ch => a'.defers = [] ∧ ∃ L', False ∧ Sep W S (L' ++ r1 :: q2 :: X) W''
          | .outgrown => False) a₁ W2) (fun _ _ _ => False)) { tmps := (ps.zip (encs m)).foldl (fun t (p, v) => t.setIfInBounds p v) a.tmps, defers := [] } W')
    (hK : ∀ (D : Nat) (L : List Res) (r2 : Res) (W' : World), JJ L → Sep W S (L ++ [objR D (.deferred (some [])), r2]) W' → Q .normal { a with defers := markOf D :: a.defers } W') :
    wpFr Fr Try.prog (.block id (.rangeFunc g ps assign body)) Q a w := by
  refine wpFr_block (wpFr_rangeX HS hg eg hseq hps J (fun c L => c = .exit id ∧ JX L) (fun _ _ => False) h0 hRR (fun fn hfn => .inr (fun ch L h => h)) hround ?_ ?_ (fun _ _ _ _ _ h _ => h.elim))
  · intro D L r2 W' hj hs
    exact hK D L r2 W' (hN L hj) hs
  · rintro D c L r2 W' ⟨rfl, hj⟩ hs
    refine wpFr_of_wp (wp_exit ?_)
    show (if id = id then Q .normal _ _ else _)
    rw [if_pos rfl]
    exact hK D L r2 W' (hX L hj) hs
end Go.Proofs.Ytbdomdmnjclpdaa
