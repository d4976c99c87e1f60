/-
  'for .. := range f' over a function: the statement's law over things that lie apart; a round may be cut by a panic.
-/
import Derived.Test.YtbdomdmnjclpdaaSt
import Derived.Test.YtbdomdmnjclpdaaRel
import Derived.RangeFuncNested
import Derived.RangeFuncBound
import Derived.RangeFuncCalls
import Derived.RangeFuncLeaves
import Derived.Shelf.Abstract
import Derived.WalkKit
import Derived.OwnWalkIn
import Derived.TacticsInMore
set_option linter.unusedVariables false
set_option linter.unusedSimpArgs false
set_option maxRecDepth 100000
namespace Go.Proofs.Ytbdomdmnjclpdaa
open Go.RowKit Go.Shelf

/-- Any object. -/
def objR (b : Nat) (o : Obj) : Res := ⟨[b], fun w => w.heap[b]? = some o, fun w h k hk => by simp at hk; subst hk; exact (Array.getElem?_eq_some_iff.1 h).1, fun w w' h e => (e b (by simp)).trans h⟩

section
variable {W w w' : World} {S : List Nat} {L : List Res}
theorem Keep.putObj {b : Nat} {o : Obj} : Keep w.heap.size [b] w (w.putObj b o) :=
  ⟨rfl, rfl, rfl, by simp, fun k _ hk => World.putObj_heap_other (by simpa using hk)⟩
theorem Sep.putObj (h : Sep W S L w) {i b : Nat} {o : Obj} (hi : L[i]? = some (objR b o)) (o' : Obj) : Sep W S (L.set i (objR b o')) (w.putObj b o') :=
  h.step hi (r' := objR b o') Keep.putObj (World.putObj_heap_same ((objR b o).lt w (h.all i _ hi) b (by simp [objR]))) (fun _ hk => .inl hk)
theorem Sep.newObj (h : Sep W S L w) (o : Obj) : Sep W S (L ++ [objR w.heap.size o]) (w.alloc o) :=
  h.add ((Keep.refl _ _ _).alloc (Nat.le_refl _) o) (r := objR w.heap.size o) (World.alloc_heap_new w o) (by simp [objR])
theorem get_snoc2 {r1 r2 : Res} : (L ++ [r1, r2])[L.length]? = some r1 ∧ (L ++ [r1, r2])[L.length + 1]? = some r2 := by simp
theorem set_snoc2 {r1 r2 r : Res} : (L ++ [r1, r2]).set (L.length + 1) r = L ++ [r1, r] ∧ (L ++ [r1, r2]).set L.length r = L ++ [r, r2] := by simp [List.set_append]
theorem take_snoc2 {r1 r2 : Res} : (L ++ [r1, r2]).take L.length = L := by simp
end

/-- A round, out of its body's walk; the body may panic. -/
theorem roundIn_of_wpIn_panic {F : Fence} {n : Nat} {P : Program} {l : Nat} {f : FuncId} {tmps : Array Value} {assign body : Code} {w : World} {R : Ending → World → Prop} (hF : F.fn f)
    (h : assign.wpIn (F.inRound l) n P (Exit.then (fun a₁ w₁ => ∃ w₂, (Instr.beginRound l).run P w₁ = .ok () w₂ ∧
        body.wpIn (F.inRound l) n P (fun e a w => match e with | .panic chain => a.defers = [] ∧ (∃ fn, P.funcs[f]? = some fn) ∧ R (.panicked chain) w | e => roundPost P l R e a w) a₁ w₂) (fun _ _ _ => False))
      { tmps := tmps, defers := [] } w) :
    RoundIn F n P l f tmps assign body w R := by
  refine ⟨hF, fun c cs hr => ?_⟩
  let b : Frame := { (default : Frame) with fn := f, kind := .normal, roundOf := some l }
  have hb0 : Frame.round l f tmps assign body .normal = b.atR { tmps := tmps, defers := [] } [.code assign, .beginRound, .code body] := by
    simp [Frame.round, Frame.atR, b]
  have hr' : (F.inRound l).room ((c :: cs).length + 1 + n) := hr
  have hF' : (F.inRound l).fn b.fn := hF
  obtain ⟨e, a₁, w₁, hq, harr⟩ := h b [.beginRound, .code body] (c :: cs) rfl hF' hr'
  rw [← hb0] at harr
  cases e with
  | normal =>
    obtain ⟨w₂, hbr, hbody⟩ := hq
    have s1 : StepsIn (Machine.fenced P (F.inRound l)) P (lone (b.atR a₁ [.beginRound, .code body]) (c :: cs) w₁) (lone (b.atR a₁ [.code body]) (c :: cs) w₂) :=
      .one (fenced_calm (fr := b.atR a₁ [.beginRound, .code body]) hF' hr' rfl) (stepR_beginRound rfl hbr)
    obtain ⟨e₂, a₂, w₃, hq₂, harr₂⟩ := hbody b [] (c :: cs) rfl hF' hr'
    cases e₂ with
    | normal =>
      obtain ⟨v, w₄, hend, hR⟩ := hq₂
      exact ⟨.returned v, w₄, hR, (StepsIn.trans harr s1).trans (StepsIn.trans harr₂ (.one (fenced_calm (fr := b.atR a₂ []) hF' hr' rfl) (stepR_round_end rfl rfl hend)))⟩
    | ret =>
      obtain ⟨v, w₄, hend, hR⟩ := hq₂
      obtain ⟨k₁, hs⟩ := harr₂.2 rfl
      exact ⟨.returned v, w₄, hR, (StepsIn.trans harr s1).trans (StepsIn.trans hs (.one (fenced_calm (fr := b.atR a₂ (.code .ret :: k₁)) hF' hr' rfl) (stepR_round_ret rfl rfl hend)))⟩
    | exit id =>
      obtain ⟨v, w₄, hend, hR⟩ := hq₂
      obtain ⟨k₁, hk, hs⟩ := harr₂.2 rfl rfl
      exact ⟨.returned v, w₄, hR, (StepsIn.trans harr s1).trans (StepsIn.trans hs (.one (fenced_calm (fr := b.atR a₂ (.code (.exit id) :: k₁)) hF' hr' rfl) (stepR_round_exit rfl rfl hk hend)))⟩
    | goto t =>
      obtain ⟨v, w₄, hend, hR⟩ := hq₂
      obtain ⟨k₁, hk, hs⟩ := harr₂.2 rfl rfl
      exact ⟨.returned v, w₄, hR, (StepsIn.trans harr s1).trans (StepsIn.trans hs (.one (fenced_calm (fr := b.atR a₂ (.code (.goto t) :: k₁)) hF' hr' rfl) (stepR_round_goto rfl rfl hk hend)))⟩
    | panic chain =>
      obtain ⟨hd, ⟨fn, hfn⟩, hR⟩ := hq₂
      obtain ⟨todo, hs⟩ := harr₂
      have hleave : ({ b.atR a₂ todo with mode := .panicking chain } : Frame).leaving P w₃ (.panicked chain) := ⟨rfl, hd, fn, hfn⟩
      exact ⟨.panicked chain, w₃, hR, (StepsIn.trans harr s1).trans (StepsIn.trans hs (.one (fenced_leaving (n := n) (F := F.inRound l) hF' hr' hleave) (step_leave_panicked hleave)))⟩
    | outgrown => exact hq₂.elim
  | exit id => exact hq.elim
  | goto t => exact hq.elim
  | ret => exact hq.elim
  | panic chain => exact hq.elim
  | outgrown => exact hq.elim

/-- What an iterator does: N rounds, each at its own values; RR: what it reads between two rounds. -/
def SeqC (gf : FuncId) (lb : Array Value) (encs : Nat → Array Value) (N : Nat) (RR : Nat → World → Prop) : Prop :=
  ∀ (l : Nat) (G : Nat → World → Prop) (Gx : World → Prop) (Gp : List PanicEntry → World → Prop) (w : World),
    (∀ m W W', G m W → Keep W.heap.size [] W W' → G m W') → (∀ W W', Gx W → Keep W.heap.size [] W W' → Gx W') →
    (∀ m W, m ≤ N → G m W → RR m W) →
    (∀ m W, m < N → G m W → YieldAt Fence.wide 0 Try.prog l (encs m) W fun e W' =>
      (e = .returned (.bool true) ∧ G (m + 1) W') ∨ (e = .returned (.bool false) ∧ Gx W') ∨ ∃ ch, e = .panicked ch ∧ Gp ch W') →
    G 0 w →
    Calls Try.prog gf (#[.func (.yield l) #[] #[]] ++ lb) w fun e W' => (∃ v, e = .returned v ∧ (G N W' ∨ Gx W')) ∨ ∃ ch, e = .panicked ch ∧ Gp ch W'

/-- The walk of code in activations of some functions. -/
def wpFr (Fr : FuncId → Prop) (P : Program) (c : Code) (Q : Exit → Act → World → Prop) (a : Act) (w : World) : Prop :=
  ∀ (b : Frame) (k : List Item) (cs : List Frame), b.roundOf = none → Fr b.fn →
    ∃ e a' w', Q e a' w' ∧ ArrivesIn (Machine.fenced P Fence.wide) P (lone (b.atR a (.code c :: k)) cs w) b k cs e a' w'

section
variable {Fr : FuncId → Prop} {P : Program} {Q Q' : Exit → Act → World → Prop} {a : Act} {w : World} {c x y : Code}
theorem wpFr_of_wp (h : c.wp P Q a w) : wpFr Fr P c Q a w := fun b k cs hro hb => (wpIn_wide (n := 0)).2 h b k cs hro trivial (room_wide _)
theorem wp_of_wpFr (h : wpFr (fun _ => True) P c Q a w) : c.wp P Q a w := (wpIn_wide (n := 0)).1 fun b k cs hro _ _ => h b k cs hro trivial
theorem wpFr_mono (h : wpFr Fr P c Q a w) (hq : ∀ e a w, Q e a w → Q' e a w) : wpFr Fr P c Q' a w :=
  fun b k cs hro hb => let ⟨e, a', w', q, r⟩ := h b k cs hro hb; ⟨e, a', w', hq _ _ _ q, r⟩
theorem wpFr_seq (h : wpFr Fr P x (Exit.then (wpFr Fr P y Q) Q) a w) : wpFr Fr P (.seq x y) Q a w := by
  intro b k cs hro hb
  have h0 : (lone (b.atR a (.code (.seq x y) :: k)) cs w).fenced P Fence.wide := fenced_wide _ _
  obtain ⟨e, a₁, w₁, hq, harr⟩ := h b (.code y :: k) cs hro hb
  cases e with
  | normal =>
    obtain ⟨e₂, a₂, w₂, hq₂, harr₂⟩ := hq b k cs hro hb
    exact ⟨e₂, a₂, w₂, hq₂, .of_steps (.head h0 stepR_seq harr) harr₂⟩
  | exit id => exact ⟨_, a₁, w₁, hq, .of_steps (.one h0 stepR_seq) (.pass (x := .code y) rfl (fun _ _ => .inl (by simp)) harr)⟩
  | goto l => exact ⟨_, a₁, w₁, hq, .of_steps (.one h0 stepR_seq) (.pass (x := .code y) rfl (fun _ _ => .inl (by simp)) harr)⟩
  | ret => exact ⟨_, a₁, w₁, hq, .of_steps (.one h0 stepR_seq) (.pass (x := .code y) rfl (fun _ _ => .inl (by simp)) harr)⟩
  | panic ch => exact ⟨_, a₁, w₁, hq, .of_steps (.one h0 stepR_seq) (.pass (x := .code y) rfl (fun _ _ => .inl (by simp)) harr)⟩
  | outgrown => exact ⟨_, a₁, w₁, hq, .of_steps (.one h0 stepR_seq) (.pass (x := .code y) rfl (fun _ _ => .inl (by simp)) harr)⟩
theorem wpFr_block {id : Nat} (h : wpFr Fr P c (Exit.inBlock id Q) a w) : wpFr Fr P (.block id c) Q a w := by
  intro b k cs hro hb
  have h0 : (lone (b.atR a (.code (.block id c) :: k)) cs w).fenced P Fence.wide := fenced_wide _ _
  obtain ⟨e, a₁, w₁, hq, harr⟩ := h b (.inBlock id :: k) cs hro hb
  cases e with
  | normal => exact ⟨.normal, a₁, w₁, hq, .head h0 stepR_block (StepsIn.trans harr (.one (fenced_wide _ _) stepR_inBlock))⟩
  | exit id' =>
    by_cases hid : id' = id
    · simp only [Exit.inBlock, hid, if_true] at hq
      exact ⟨.normal, a₁, w₁, hq, .head h0 stepR_block (harr.1 k (by simp [exitTo, hid]))⟩
    · simp only [Exit.inBlock, hid, if_false] at hq
      have this : (id == id') = false := by simp; exact fun h => hid h.symm
      have hx : exitTo id' (.inBlock id :: k) = exitTo id' k := by simp [exitTo, this]
      exact ⟨.exit id', a₁, w₁, hq, fun k' hk => .head h0 stepR_block (harr.1 k' (by rw [hx]; exact hk)),
        fun hr' hk => let ⟨k₁, h1, h2⟩ := harr.2 hr' (by rw [hx]; exact hk); ⟨k₁, h1, .head h0 stepR_block h2⟩⟩
  | goto l =>
    have hx : gotoIn l (.inBlock id :: k) = gotoIn l k := by simp [gotoIn]
    exact ⟨_, a₁, w₁, hq, fun k' hk => .head h0 stepR_block (harr.1 k' (by rw [hx]; exact hk)),
      fun hr' hk => let ⟨k₁, h1, h2⟩ := harr.2 hr' (by rw [hx]; exact hk); ⟨k₁, h1, .head h0 stepR_block h2⟩⟩
  | ret => exact ⟨_, a₁, w₁, hq, .of_steps (.one h0 stepR_block) harr⟩
  | panic ch => exact ⟨_, a₁, w₁, hq, .of_steps (.one h0 stepR_block) harr⟩
  | outgrown => exact ⟨_, a₁, w₁, hq, .of_steps (.one h0 stepR_block) harr⟩
end

/-- A function's contract, out of its body's walk in its own activations. -/
theorem calls_of_wpFr {P : Program} {f : FuncId} {fn : Func} {c : Code} {args : Array Value} {w : World} {R : Ending → World → Prop}
    (hf : P.funcs[f]? = some fn) (hb : fn.body = some c)
    (h : wpFr (fun g => g = f) P c (bodyPostM Fence.wide 0 P fn R) { tmps := args ++ Array.replicate (fn.ntmps - args.size) undef, defers := [] } w) : Calls P f args w R := by
  refine (callsIn_wide (n := 0)).1 ⟨trivial, fun cs hr => ?_⟩
  let b : Frame := { (default : Frame) with fn := f, kind := .normal, roundOf := none }
  have henter : Frame.enter P f args .normal =
      b.atR { tmps := args ++ Array.replicate (fn.ntmps - args.size) undef, defers := [] } [.code c] := by
    simp [Frame.enter, Frame.atR, hf, hb, b]
  obtain ⟨e, a', w', hq, harr⟩ := h b [] cs rfl rfl
  rw [← henter] at harr
  cases e with
  | normal =>
    obtain ⟨e', w'', fr', hR, hs, hfn, hl⟩ := leaves_stepsInM a'.defers .returning w' { b.atR a' [] with mode := .returning } cs rfl rfl rfl hf rfl trivial hr hq
    exact ⟨e', w'', fr', hR, ComesIn.of_steps (StepsIn.trans harr (.one (fenced_wide _ _) (stepR_end rfl))) hs, hfn, hl⟩
  | ret =>
    obtain ⟨todo, hs₀⟩ := harr.1 rfl
    obtain ⟨e', w'', fr', hR, hs, hfn, hl⟩ := leaves_stepsInM a'.defers .returning w' { b.atR a' todo with mode := .returning } cs rfl rfl rfl hf rfl trivial hr hq
    exact ⟨e', w'', fr', hR, ComesIn.of_steps hs₀ hs, hfn, hl⟩
  | panic chain =>
    obtain ⟨todo, hs₀⟩ := harr
    obtain ⟨e', w'', fr', hR, hs, hfn, hl⟩ := leaves_stepsInM a'.defers (.panicking chain) w' { b.atR a' todo with mode := .panicking chain } cs rfl rfl rfl hf rfl trivial hr hq
    exact ⟨e', w'', fr', hR, ComesIn.of_steps hs₀ hs, hfn, hl⟩
  | exit id => exact hq.elim
  | goto l => exact hq.elim
  | outgrown => exact ⟨.outgrown, w', b, hq, harr.resolve_left (by simp [b]), rfl, trivial⟩

/-! How a function with such a statement is left. -/
section
variable {P : Program} {fn : Func} {R : Ending → World → Prop} {tmps : Array Value} {w : World} {D : Nat} {v : Value}
abbrev markOf (D : Nat) : Deferred := { target := .collected D, args := #[] }
theorem leave_none (hr : (results fn tmps).run P w = .ok v w) (hR : R (.returned v) w) : LeavesInM Fence.wide 0 P fn tmps R [] .returning w := ⟨v, hr, hR⟩
theorem leave_mark (hD : w.heap[D]? = some (.deferred (some []))) (hr : (results fn tmps).run P (w.putObj D (.deferred none)) = .ok v (w.putObj D (.deferred none))) (hR : R (.returned v) (w.putObj D (.deferred none))) :
    LeavesInM Fence.wide 0 P fn tmps R [markOf D] .returning w := ⟨by simp, .inl ⟨D, _, rfl, run_takeDeferred hD, v, hr, hR⟩⟩
theorem leave_panic (hD : w.heap[D]? = some (.deferred (some []))) {ch : List PanicEntry} (hR : R (.panicked ch) (w.putObj D (.deferred none))) :
    LeavesInM Fence.wide 0 P fn tmps R [markOf D] (.panicking ch) w := ⟨by simp, .inl ⟨D, _, rfl, run_takeDeferred hD, hR⟩⟩
end

/-- The statement. -/
theorem wpFr_range {Fr : FuncId → Prop} {W : World} {S : List Nat} {L0 : List Res} {g : Operand} {ps : Array Tmp} {assign body : Code} {Q : Exit → Act → World → Prop} {a : Act} {w : World}
    (HS : Sep W S L0 w) {gf : FuncId} {lb : Array Value} (hg : a.eval g = .func (.func gf) #[] lb) (eg : Enters Try.prog gf)
    {encs : Nat → Array Value} {N : Nat} {RR : Nat → World → Prop} (hseq : SeqC gf lb encs N RR) (hps : ∀ m, (encs m).size = ps.size)
    (J : Nat → List Res → Prop) (Jx : Code → List Res → Prop) (Jp : List PanicEntry → List Res → Prop) (h0 : J 0 L0)
    (hRR : ∀ m L W', m ≤ N → J m L → Sep W S L W' → RR m W')
    (hfr : ∀ fn, Fr fn → (∃ f, Try.prog.funcs[fn]? = some f) ∨ ∀ ch L, ¬ Jp ch L)
    (hround : ∃ a₁ : Nat → Act, (∀ (l m : Nat) (W' : World) (K : Act → World → Prop), K (a₁ m) W' →
      assign.wpIn (Fence.wide.inRound l) 0 Try.prog (Exit.then K (fun _ _ _ => False)) { tmps := (ps.zip (encs m)).foldl (fun t (p, v) => t.setIfInBounds p v) a.tmps, defers := [] } W') ∧
    (∀ (l m : Nat) (L : List Res) (r1 r2 : Res) (W' : World), m < N → J m L → Sep W S (L ++ [r1, r2]) W' →
      body.wpIn (Fence.wide.inRound l) 0 Try.prog (fun e a' W'' => match e with
        | .normal => ∃ L', J (m + 1) L' ∧ Sep W S (L' ++ [r1, r2]) W''
        | .ret => ∃ L', Jx .ret L' ∧ Sep W S (L' ++ [r1, r2]) W''
        | .exit id => ∃ L', Jx (.exit id) L' ∧ Sep W S (L' ++ [r1, r2]) W''
        | .goto t => ∃ L', Jx (.goto t) L' ∧ Sep W S (L' ++ [r1, r2]) W''
        | .panic ch => a'.defers = [] ∧ ∃ L', Jp ch L' ∧ Sep W S (L' ++ [r1, r2]) W''
        | .outgrown => False) (a₁ m) W'))
    (hdone : ∀ (D : Nat) (L : List Res) (r2 : Res) (W' : World), J N L → Sep W S (L ++ [objR D (.deferred (some [])), r2]) W' → Q .normal { a with defers := markOf D :: a.defers } W')
    (hstop : ∀ (D : Nat) (c : Code) (L : List Res) (r2 : Res) (W' : World), Jx c L → Sep W S (L ++ [objR D (.deferred (some [])), r2]) W' → wpFr Fr Try.prog c Q { a with defers := markOf D :: a.defers } W')
    (hpanic : ∀ (D : Nat) (ch : List PanicEntry) (L : List Res) (r2 : Res) (W' : World), Jp ch L → Sep W S (L ++ [objR D (.deferred (some [])), r2]) W' → Q (.panic ch) { a with defers := markOf D :: a.defers } W') :
    wpFr Fr Try.prog (.rangeFunc g ps assign body) Q a w := by
  obtain ⟨a₁, hassign, hbody⟩ := hround
  intro b k cs hro hb
  have hr : Fence.wide.room (cs.length + 1 + 0) := room_wide _
  obtain ⟨rec, hrec⟩ : ∃ rec : LoopState → Option Code → Loop, rec = fun st pe => { state := st, pending := pe, fn := b.fn, tmps := a.tmps, params := ps, assign, body, defers := w.heap.size } := ⟨_, rfl⟩
  obtain ⟨D, hD⟩ : ∃ D, w.heap.size = D := ⟨_, rfl⟩
  have hl1 : (w.alloc (.deferred (some []))).heap.size = D + 1 := by rw [World.size_alloc, hD]
  have HS1 := (HS.newObj (.deferred (some []))).newObj (.loop (rec .ready none))
  rw [hD, hl1, List.append_assoc] at HS1
  have he : (Instr.enterLoop b.fn a.tmps ps assign body b.roundOf).run Try.prog w = .ok (D + 1, [markOf D]) ((w.alloc (.deferred (some []))).alloc (.loop (rec .ready none))) := by
    rw [hro, hrec, ← hD]; exact run_enterLoop_outer _ _ _ _ _
  generalize (w.alloc (.deferred (some []))).alloc (.loop (rec .ready none)) = W1 at *
  have hres : (resolve a.eval (rangeCall g (D + 1)) 0).run Try.prog W1 = .ok { target := .fn (.func gf) lb, args := #[.func (.yield (D + 1)) #[] #[]] } W1 := by
    simp only [resolve, hg]
    simp [go_sem]
  have hinv : (invoke (.fn (.func gf) lb) #[.func (.yield (D + 1)) #[] #[]]).run Try.prog W1 = .ok (.enter gf (#[.func (.yield (D + 1)) #[] #[]] ++ lb)) W1 := by
    simp [invoke, go_sem, eg _ _]
  have henter := stepR_rangeFunc (P := Try.prog) (b := b) (a := a) (k := k) (cs := cs) (w := w) he hres hinv
  -- the iterator
  have hcall := hseq (D + 1)
    (fun m W' => ∃ L, J m L ∧ Sep W S (L ++ [objR D (.deferred (some [])), objR (D + 1) (.loop (rec .ready none))]) W')
    (fun W' => ∃ c L, Jx c L ∧ Sep W S (L ++ [objR D (.deferred (some [])), objR (D + 1) (.loop (rec .done (some c)))]) W')
    (fun ch W' => ∃ L r2, Jp ch L ∧ Sep W S (L ++ [objR D (.deferred (some [])), r2]) W') W1
    (fun m A B ⟨L, hj, hs⟩ hk => ⟨L, hj, hs.grow hk⟩) (fun A B ⟨c, L, hj, hs⟩ hk => ⟨c, L, hj, hs.grow hk⟩)
    (fun m A hm ⟨L, hj, hs⟩ => hRR m L A hm hj (by have := hs.take L.length; rwa [take_snoc2] at this))
    (by
      rintro m A hm ⟨L, hj, hs⟩
      have hl : A.heap[D + 1]? = some (.loop (rec .ready none)) := hs.all _ _ get_snoc2.2
      have hy := run_yield (P := Try.prog) (args := encs m) hl (by rw [hrec]; exact hps m)
      have hyf : (rec .ready none).fn = b.fn := by rw [hrec]
      have hyt : (rec .ready none).tmps = a.tmps := by rw [hrec]
      have hyp : (rec .ready none).params = ps := by rw [hrec]
      have hya : (rec .ready none).assign = assign := by rw [hrec]
      have hyb : (rec .ready none).body = body := by rw [hrec]
      have hys : (rec .ready none).state = .ready := by rw [hrec]
      rw [hyf, hyt, hyp, hya, hyb] at hy
      refine ⟨b.fn, _, assign, body, hy, roundIn_of_wpIn_panic (F := Fence.wide) trivial (hassign _ m A _ ⟨_, run_beginRound hl hys, ?_⟩)⟩
      have hs2 := hs.putObj get_snoc2.2 (.loop { rec .ready none with state := .busy })
      rw [set_snoc2.1] at hs2
      refine wpIn_mono (hbody _ m L _ _ _ hm hj hs2) ?_
      have fin : ∀ (jump : Option Code) (L' : List Res) (W3 : World), Sep W S (L' ++ [objR D (.deferred (some [])), objR (D + 1) (.loop { rec .ready none with state := .busy })]) W3 →
          (Instr.endRound (D + 1) jump).run Try.prog W3 = .ok (.bool jump.isNone) (W3.putObj (D + 1) (.loop (rec (if jump.isNone then .ready else .done) jump))) ∧
          Sep W S (L' ++ [objR D (.deferred (some [])), objR (D + 1) (.loop (rec (if jump.isNone then .ready else .done) jump))]) (W3.putObj (D + 1) (.loop (rec (if jump.isNone then .ready else .done) jump))) := fun jump L' W3 h3 => by
        have hl3 : W3.heap[D + 1]? = some (.loop { rec .ready none with state := .busy }) := h3.all _ _ get_snoc2.2
        have := run_endRound (P := Try.prog) jump hl3
        have h4 := h3.putObj get_snoc2.2 (.loop (rec (if jump.isNone then .ready else .done) jump))
        rw [set_snoc2.1] at h4
        refine ⟨?_, h4⟩
        rw [hrec] at this ⊢
        exact this
      rintro e a3 W3 hp
      cases e with
      | normal =>
        obtain ⟨L', hj', hs'⟩ := hp
        obtain ⟨h1, h2⟩ := fin none L' W3 hs'
        exact ⟨_, _, h1, .inl ⟨rfl, L', hj', h2⟩⟩
      | ret =>
        obtain ⟨L', hj', hs'⟩ := hp
        obtain ⟨h1, h2⟩ := fin (some .ret) L' W3 hs'
        exact ⟨_, _, h1, .inr (.inl ⟨rfl, .ret, L', hj', h2⟩)⟩
      | exit id =>
        obtain ⟨L', hj', hs'⟩ := hp
        obtain ⟨h1, h2⟩ := fin (some (.exit id)) L' W3 hs'
        exact ⟨_, _, h1, .inr (.inl ⟨rfl, .exit id, L', hj', h2⟩)⟩
      | goto t =>
        obtain ⟨L', hj', hs'⟩ := hp
        obtain ⟨h1, h2⟩ := fin (some (.goto t)) L' W3 hs'
        exact ⟨_, _, h1, .inr (.inl ⟨rfl, .goto t, L', hj', h2⟩)⟩
      | panic ch =>
        obtain ⟨hd, L', hj', hs'⟩ := hp
        rcases hfr _ hb with hf | hf
        · exact ⟨hd, hf, .inr (.inr ⟨ch, rfl, L', _, hj', hs'⟩)⟩
        · exact absurd hj' (hf _ _)
      | outgrown => exact hp.elim)
    ⟨L0, h0, HS1⟩
  have hcall := (callsIn_wide (n := 0)).2 hcall
  obtain ⟨e, w₃, fr, hR, hsteps, hfn, hleave⟩ := hcall.2 (b.atR { a with defers := [markOf D] ++ a.defers } (.inRangeFunc (D + 1) :: k) :: cs) (room_wide _)
  have hrecs : ∀ st pe, (rec st pe).state = st := fun st pe => by rw [hrec]
  have hrecp : ∀ st pe, (rec st pe).pending = pe := fun st pe => by rw [hrec]
  have back : ∀ (v : Value) (st : LoopState) (pe : Option Code) (L : List Res), e = .returned v → st ≠ .busy → Sep W S (L ++ [objR D (.deferred (some [])), objR (D + 1) (.loop (rec st pe))]) w₃ →
      ∃ w₄ r2, Sep W S (L ++ [objR D (.deferred (some [])), r2]) w₄ ∧
        StepsIn (Machine.fenced Try.prog Fence.wide) Try.prog (lone (b.atR a (.code (.rangeFunc g ps assign body) :: k)) cs w) (lone (b.atR { a with defers := [markOf D] ++ a.defers } ((pe.map Item.code).toList ++ k)) cs w₄) := by
    rintro v st pe L rfl hst hs
    have hl3 : w₃.heap[D + 1]? = some (.loop (rec st pe)) := hs.all _ _ get_snoc2.2
    have hend := run_endLoop (P := Try.prog) hl3 (by rw [hrecs]; exact hst)
    have hend := hend.trans (congrArg (fun x => Result.ok x _) (hrecp st pe))
    have h4 := hs.putObj get_snoc2.2 (.loop { rec st pe with state := .exhausted })
    rw [set_snoc2.1] at h4
    refine ⟨_, _, h4, ?_⟩
    refine .head (fenced_wide _ _) henter (StepsIn.trans hsteps (.head (fenced_wide _ _) ?_ (.one (fenced_wide _ _) (stepR_endRangeFunc hend))))
    rw [← finish_atR_inRangeFunc (D + 1) v]; exact step_leave_returned hleave
  rcases hR with ⟨v, rfl, ⟨L, hj, hs⟩ | ⟨c, L, hj, hs⟩⟩ | ⟨ch, rfl, L, r2, hj, hs⟩
  · obtain ⟨w₄, r2, h4, st⟩ := back v .ready none L rfl (by simp) hs
    exact ⟨.normal, _, w₄, hdone D L r2 w₄ hj h4, st⟩
  · obtain ⟨w₄, r2, h4, st⟩ := back v .done (some c) L rfl (by simp) hs
    obtain ⟨e', a'', w₅, hq, harr⟩ := hstop D c L r2 w₄ hj h4 b k cs hro hb
    exact ⟨e', a'', w₅, hq, .of_steps st harr⟩
  · refine ⟨.panic ch, _, w₃, hpanic D ch L r2 w₃ hj hs, .inRangeFunc (D + 1) :: k, .head (fenced_wide _ _) henter (StepsIn.trans hsteps (.one (fenced_wide _ _) ?_))⟩
    rw [← Frame.raise_atR]; exact step_leave_panicked hleave

/-! A region that draws its order: a quiet head; a tail that comes in its order, and may call a round. -/
section
variable {P : Program} {ops : Array Oper} {md : Region.Mode} {C : World → Prop}
theorem Oper.wpIn_of_quiet {o : Oper} {a : Act} {K : Act → Prop} {K' : Act → World → Prop} {Q' : Exit → Act → World → Prop} {w : World} (hw : C w) (h : ∀ a w', C w' → K a → K' a w') (hh : o.quiet P a C K) : o.wpIn Fence.wide 0 P a w K' Q' := by
  obtain ⟨v, h1, h2⟩ := hh
  have h3 := h1 w hw
  refine ⟨fun _ _ => trivial, ?_⟩
  unfold Oper.quietAt at h3
  show Oper.uponIn _ _ _ _ _ _ _ ((execOp a.eval o).run P w)
  generalize (execOp a.eval o).run P w = r at *
  cases r with
  | ok n w' =>
    cases n <;> simp only [Oper.quietUpon] at h3 <;> simp only [Oper.uponIn]
    case value u =>
      obtain ⟨e1, e2⟩ := h3
      rw [e1, e2]
      exact h _ _ hw h2
    case skip =>
      obtain ⟨e1, e2⟩ := h3
      rw [e1]
      rw [e2] at h2
      exact h _ _ hw h2
    case enter f args =>
      obtain ⟨e1, e2⟩ := h3
      rw [e1]
      refine ⟨fun hd => by simp [Fence.wide] at hd, callsIn_wide.2 (e2.mono ?_)⟩
      rintro e w2 ⟨rfl, hc⟩
      exact h _ _ hc h2
  | halt s w' => simp [Oper.quietUpon] at h3
theorem wpOpIn_of_qOp {i : Nat} {a : Act} {K : Act → Prop} {K' : Act → World → Prop} {Q' : Exit → Act → World → Prop} {w : World} (hC : C w) (h : ∀ a w', C w' → K a → K' a w') (hh : qOp P ops C i K a) : wpOpIn Fence.wide 0 P ops Q' i K' a w := by
  unfold qOp at hh
  unfold wpOpIn
  split
  · rename_i ho; simp only [ho] at hh; exact h _ _ hC hh
  · rename_i o ho
    simp only [ho] at hh
    split
    · rename_i hw; simp only [hw, if_true] at hh; exact Oper.wpIn_of_quiet hC h hh
    · rename_i hw; simp only [hw] at hh; exact ⟨fun _ _ => trivial, h _ _ hC hh⟩
theorem wpAnyIn_of_headQ {n g : Nat} {L : Array Bool → Act → Prop} {Q' : Exit → Act → World → Prop} (hL : ∀ listed a w, C w → L listed a → wpAnyIn Fence.wide 0 P md ops Q' g listed a w) :
    ∀ (f : Nat) (listed : Array Bool) (a : Act) (w : World), C w → wpAnyLQ P md ops C n L f listed a → wpAnyIn Fence.wide 0 P md ops Q' (f + g) listed a w
  | 0, listed, a, w, hw, h => by rw [Nat.zero_add]; exact hL _ _ _ hw h
  | f + 1, listed, a, w, hw, h => by
    rw [show f + 1 + g = (f + g) + 1 by omega]
    exact ⟨fun h0 => absurd h0 h.1, fun i hi => wpOpIn_of_qOp hw (fun a' w' hw' h' => wpAnyIn_of_headQ hL f _ a' w' hw' h') (h.2 i hi).2⟩
theorem wpAnyIn_of_seq {Q' : Exit → Act → World → Prop} : ∀ (l : List Oper) (k : Nat) (listed : Array Bool) (a : Act) (w : World), (∀ j, l[j]? = ops[k + j]?) →
    Region.seqB md ops l.length k listed = true → wpListIn Fence.wide 0 P ops Q' l a w → wpAnyIn Fence.wide 0 P md ops Q' l.length listed a w
  | [], _, _, _, _, _, hB, h => ⟨by simpa [Region.seqB] using hB, h⟩
  | o :: l, k, listed, a, w, hl, hB, h => by
    have h0 : ops[k]? = some o := by simpa using (hl 0).symm
    simp only [List.length_cons, Region.seqB, Bool.and_eq_true, decide_eq_true_eq] at hB
    refine ⟨fun h1 => (by rw [hB.1] at h1; cases h1), fun i hi => ?_⟩
    rw [hB.1] at hi
    have hik : i = k := by simpa using hi
    subst hik
    have hw : wpOpIn Fence.wide 0 P ops Q' i (wpListIn Fence.wide 0 P ops Q' l) a w := by unfold wpOpIn; simp only [h0]; exact h
    exact wpOpIn_mono (fun a' w' h' => wpAnyIn_of_seq l (i + 1) _ a' w' (fun j => by have := hl (j + 1); simpa [Nat.add_assoc, Nat.add_comm 1 j] using this) hB.2 h') hw

theorem wp_region_round_tail {id : Nat} {Q : Exit → Act → World → Prop} {a : Act} {w : World} {l : List Oper} (n : Nat) (hm : P.follows .mixedOrders = true) (hB : Region.lexTailB .any l.toArray n = true)
    (h : wpQuiet P l.toArray (fun w' => ∃ x : Ext w, w' = x.now) (fun a' => ∀ w', (∃ x : Ext w, w' = x.now) → wpListIn Fence.wide 0 P l.toArray Q (l.drop n) a' w') (l.take n) a) : (Code.region id l.toArray true).wp P Q a w := by
  simp only [Region.lexTailB, Bool.and_eq_true, decide_eq_true_eq] at hB
  obtain ⟨⟨⟨⟨hsel, hn⟩, hs⟩, hc⟩, hlex⟩ := hB
  have hn' : n < l.length := by simpa using hn
  have htl : (l.take n).length = n := by simp; omega
  have hdl : (l.drop n).length = l.toArray.size - n := by simp
  have inv0 : HeadInv .any l.toArray n (Array.replicate l.toArray.size false) :=
    ⟨by simp, fun j oj _ hl => (by rw [getD_replicate_false] at hl; cases hl), fun t _ ht => getD_in (by simpa using ht) (getD_replicate_false _ _)⟩
  have H := wpAnyLQ_lex (md := .any) (g := l.toArray.size - n) hsel hs hc hn (l.take n) 0 _ a (fun j hj => by
    have hj' : j < n := by rw [htl] at hj; exact hj
    simp [hj']) (by simpa using htl) inv0 (by rw [htl]; exact hlex) h
  refine (wpIn_wide (n := 0)).1 (wpIn_region_any hm ?_)
  have := wpAnyIn_of_headQ (Q' := Q) (g := l.toArray.size - n) (fun listed a' w' hw' hL => by
    have := wpAnyIn_of_seq (md := .any) (Q' := Q) (l.drop n) n listed a' w' (fun j => by simp [List.getElem?_drop]) (by rw [hdl]; exact hL.1) (hL.2 w' hw')
    rwa [hdl] at this) _ _ _ _ ⟨⟨_, (Keep.refl _ _ _).drew⟩, rfl⟩ H
  rw [htl, show n + (l.toArray.size - n) = l.toArray.size by omega] at this
  exact this
end
end Go.Proofs.Ytbdomdmnjclpdaa
