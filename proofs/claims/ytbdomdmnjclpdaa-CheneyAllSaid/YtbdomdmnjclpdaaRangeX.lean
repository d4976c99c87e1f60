/-
  A range over a function, of iterators that have memory of their own between two rounds.
-/
import Derived.Test.YtbdomdmnjclpdaaRange
import Derived.Test.YtbdomdmnjclpdaaMerge
set_option linter.unusedSimpArgs false
set_option linter.unusedVariables false
set_option maxRecDepth 100000
namespace Go.Proofs.Ytbdomdmnjclpdaa
open Go.RowKit

section
variable {W w w' : World} {S : List Nat} {L L' X : List Res} {r r' r1 r2 : Res}
/-- The order of things is of no matter. -/
theorem Sep.perm (h : Sep W S L w) (hp : L.Perm L') : Sep W S L' w := by
  have hpw : L.Pairwise (fun a b : Res => ∀ k ∈ a.blocks, k ∉ b.blocks) := by
    rw [List.pairwise_iff_getElem]
    intro i j hi hj hij k hk
    exact h.apart i j _ _ (by omega) (List.getElem?_eq_getElem hi) (List.getElem?_eq_getElem hj) k hk
  have hpw' := (hp.pairwise_iff (fun {a b : Res} (hab : ∀ k ∈ a.blocks, k ∉ b.blocks) => (fun k hk hka => hab k hka hk : ∀ k ∈ b.blocks, k ∉ a.blocks))).1 hpw
  rw [List.pairwise_iff_getElem] at hpw'
  have mem : ∀ (i : Nat) (a : Res), L'[i]? = some a → ∃ j, L[j]? = some a := fun i a ha => by
    have := hp.mem_iff.2 (List.mem_of_getElem? ha)
    exact List.mem_iff_getElem?.1 this
  refine ⟨h.keep, ?_, ?_, ?_⟩
  · intro i a ha
    obtain ⟨j, hj⟩ := mem i a ha
    exact h.all j a hj
  · intro i j a b hij ha hb k hka hkb
    obtain ⟨hi, ea⟩ := List.getElem?_eq_some_iff.1 ha
    obtain ⟨hj, eb⟩ := List.getElem?_eq_some_iff.1 hb
    rcases Nat.lt_or_gt_of_ne hij with hlt | hlt
    · exact hpw' i j hi hj hlt k (by rw [ea]; exact hka) (by rw [eb]; exact hkb)
    · exact hpw' j i hj hi hlt k (by rw [eb]; exact hkb) (by rw [ea]; exact hka)
  · intro i a ha k hk hlt
    obtain ⟨j, hj⟩ := mem i a ha
    exact h.old j a hj k hk hlt
/-- A new thing, ahead of others. -/
theorem Sep.bring (A B : List Res) (h : Sep W S (A ++ B ++ [r]) w) : Sep W S (A ++ [r] ++ B) w :=
  h.perm (by rw [List.append_assoc, List.append_assoc]; exact List.Perm.append_left A List.perm_append_comm)
/-- A thing in the midst is forgotten. -/
theorem Sep.dropMid (A B : List Res) (h : Sep W S (A ++ [r] ++ B) w) : Sep W S (A ++ B) w := by
  have h2 : Sep W S (A ++ B ++ [r]) w := h.perm (by rw [List.append_assoc, List.append_assoc]; exact List.Perm.append_left A List.perm_append_comm)
  have := h2.take (A ++ B).length
  rwa [List.take_left] at this
theorem get3a : (L ++ r1 :: r2 :: X)[L.length]? = some r1 := by simp
theorem get3b : (L ++ r1 :: r2 :: X)[L.length + 1]? = some r2 := by simp
theorem set3b : (L ++ r1 :: r2 :: X).set (L.length + 1) r = L ++ r1 :: r :: X := by simp [List.set_append]
end

/-- A variable of one cell. -/
theorem loadVar_one {P : Program} {w : World} {ty : TypeId} {d : TypeDesc} {a : Addr} {v : Value} (hu : P.underlying ty = some d) (hd : d.isRow = false) (hc : w.cell? a = some v) : (loadVar ty a).run P w = .ok v w := by
  have hagg : (isAgg ty).run P w = .ok false w := by
    unfold isAgg
    rw [Sem.run_bind, run_underlying hu w]
    cases d <;> simp_all
  simp [loadVar, Sem.run_bind, hagg, Result.andThen, load, Sem.run, hc]
theorem results_cc {fn : Func} {p q : Tmp} {ty tz : TypeId} (h : fn.results = #[.cell p ty, .cell q tz]) (tmps : Array Value) (P : Program) (w : World) {v1 v2 : Value} {a1 a2 : Addr}
    (h1 : tmps.getD p undef = .pointer (some a1)) (h2 : tmps.getD q undef = .pointer (some a2)) (l1 : (loadVar ty a1).run P w = .ok v1 w) (l2 : (loadVar tz a2).run P w = .ok v2 w) :
    (results fn tmps).run P w = .ok (.tuple #[v1, v2]) w := by
  have h1' : tmps[p]?.getD undef = .pointer (some a1) := by simpa using h1
  have h2' : tmps[q]?.getD undef = .pointer (some a2) := by simpa using h2
  simp only [results, h]
  simp [Sem.run_bind, Result.andThen, h1', h2', asAddr, l1, l2]
theorem results_c {fn : Func} {p : Tmp} {ty : TypeId} (h : fn.results = #[.cell p ty]) (tmps : Array Value) (P : Program) (w : World) {v1 : Value} {a1 : Addr}
    (h1 : tmps.getD p undef = .pointer (some a1)) (l1 : (loadVar ty a1).run P w = .ok v1 w) :
    (results fn tmps).run P w = .ok v1 w := by
  have h1' : tmps[p]?.getD undef = .pointer (some a1) := by simpa using h1
  simp only [results, h]
  simp [Sem.run_bind, Result.andThen, h1', asAddr, l1]

/-- What an iterator does: N rounds, each at its own values; RR: what it reads; between rounds it may have things X of its own. -/
def SeqS (gf : FuncId) (lb : Array Value) (encs : Nat → Array Value) (N : Nat) (RR : Nat → World → Prop) : Prop :=
  ∀ (l : Nat) (W0 : World) (S : List Nat) (B : Nat → List Res → Prop) (Bx : List Res → Prop) (Bp : List PanicEntry → List Res → Prop) (w : World),
    (∀ m L X W', m ≤ N → B m L → Sep W0 S (L ++ X) W' → RR m W') →
    (∀ m L X W', m < N → B m L → Sep W0 S (L ++ X) W' → YieldAt Fence.wide 0 Try.prog l (encs m) W' fun e W'' =>
      (e = .returned (.bool true) ∧ ∃ L', B (m + 1) L' ∧ Sep W0 S (L' ++ X) W'') ∨ (e = .returned (.bool false) ∧ ∃ L', Bx L' ∧ Sep W0 S (L' ++ X) W'') ∨ ∃ ch, e = .panicked ch ∧ ∃ L', Bp ch L' ∧ Sep W0 S (L' ++ X) W'') →
    (∃ L, B 0 L ∧ Sep W0 S L w) →
    Calls Try.prog gf (#[.func (.yield l) #[] #[]] ++ lb) w fun e W' => (∃ v, e = .returned v ∧ ((∃ L, B N L ∧ Sep W0 S L W') ∨ ∃ L, Bx L ∧ Sep W0 S L W')) ∨ ∃ ch, e = .panicked ch ∧ ∃ L, Bp ch L ∧ Sep W0 S L W'
/-- One that has none. -/
theorem SeqC.toS {gf : FuncId} {lb : Array Value} {encs : Nat → Array Value} {N : Nat} {RR : Nat → World → Prop} (h : SeqC gf lb encs N RR) : SeqS gf lb encs N RR := by
  intro l W0 S B Bx Bp w hRR hY h0
  refine h l (fun m W' => ∃ L, B m L ∧ Sep W0 S L W') (fun W' => ∃ L, Bx L ∧ Sep W0 S L W') (fun ch W' => ∃ L, Bp ch L ∧ Sep W0 S L W') w
    (fun m A A' ⟨L, hb, hs⟩ hk => ⟨L, hb, hs.grow hk⟩) (fun A A' ⟨L, hb, hs⟩ hk => ⟨L, hb, hs.grow hk⟩) (fun m A hm ⟨L, hb, hs⟩ => hRR m L [] A hm hb (by simpa using hs)) ?_ h0
  rintro m A hm ⟨L, hb, hs⟩
  have := hY m L [] A hm hb (by simpa using hs)
  simpa using this

theorem wpFr_rangeX {Fr : FuncId → Prop} {W : World} {S : List Nat} {L0 : List Res} {g : Operand} {ps : Array Tmp} {assign body : Code} {Q : Exit → Act → World → Prop} {a : Act} {w : World}
    (HS : Sep W S L0 w) {gf : FuncId} {lb : Array Value} (hg : a.eval g = .func (.func gf) #[] lb) (eg : Enters Try.prog gf)
    {encs : Nat → Array Value} {N : Nat} {RR : Nat → World → Prop} (hseq : SeqS gf lb encs N RR) (hps : ∀ m, (encs m).size = ps.size)
    (J : Nat → List Res → Prop) (Jx : Code → List Res → Prop) (Jp : List PanicEntry → List Res → Prop) (h0 : J 0 L0)
    (hRR : ∀ m L X W', m ≤ N → J m L → Sep W S (L ++ X) W' → RR m W')
    (hfr : ∀ fn, Fr fn → (∃ f, Try.prog.funcs[fn]? = some f) ∨ ∀ ch L, ¬ Jp ch L)
    (hround : ∀ (l m : Nat) (L X : List Res) (r1 r2 : Res) (W' : World), m < N → J m L → Sep W S (L ++ r1 :: r2 :: X) W' →
      assign.wpIn (Fence.wide.inRound l) 0 Try.prog (Exit.then (fun a₁ W1 => ∃ L1, Sep W S (L1 ++ r1 :: r2 :: X) W1 ∧ ∀ (q2 : Res) (W2 : World), Sep W S (L1 ++ r1 :: q2 :: X) W2 →
        body.wpIn (Fence.wide.inRound l) 0 Try.prog (fun e a' W'' => match e with
          | .normal => ∃ L', J (m + 1) L' ∧ Sep W S (L' ++ r1 :: q2 :: X) W''
          | .ret => ∃ L', Jx .ret L' ∧ Sep W S (L' ++ r1 :: q2 :: X) W''
          | .exit id => ∃ L', Jx (.exit id) L' ∧ Sep W S (L' ++ r1 :: q2 :: X) W''
          | .goto t => ∃ L', Jx (.goto t) L' ∧ Sep W S (L' ++ r1 :: q2 :: X) W''
          | .panic ch => a'.defers = [] ∧ ∃ L', Jp ch L' ∧ Sep W S (L' ++ r1 :: q2 :: X) W''
          | .outgrown => False) a₁ W2) (fun _ _ _ => False)) { tmps := (ps.zip (encs m)).foldl (fun t (p, v) => t.setIfInBounds p v) a.tmps, defers := [] } W')
    (hdone : ∀ (D : Nat) (L : List Res) (r2 : Res) (W' : World), J N L → Sep W S (L ++ [objR D (.deferred (some [])), r2]) W' → Q .normal { a with defers := markOf D :: a.defers } W')
    (hstop : ∀ (D : Nat) (c : Code) (L : List Res) (r2 : Res) (W' : World), Jx c L → Sep W S (L ++ [objR D (.deferred (some [])), r2]) W' → wpFr Fr Try.prog c Q { a with defers := markOf D :: a.defers } W')
    (hpanic : ∀ (D : Nat) (ch : List PanicEntry) (L : List Res) (r2 : Res) (W' : World), Jp ch L → Sep W S (L ++ [objR D (.deferred (some [])), r2]) W' → Q (.panic ch) { a with defers := markOf D :: a.defers } W') :
    wpFr Fr Try.prog (.rangeFunc g ps assign body) Q a w := by
  intro b k cs hro hb
  have hr : Fence.wide.room (cs.length + 1 + 0) := room_wide _
  obtain ⟨rec, hrec⟩ : ∃ rec : LoopState → Option Code → Loop, rec = fun st pe => { state := st, pending := pe, fn := b.fn, tmps := a.tmps, params := ps, assign, body, defers := w.heap.size } := ⟨_, rfl⟩
  obtain ⟨D, hD⟩ : ∃ D, w.heap.size = D := ⟨_, rfl⟩
  have hl1 : (w.alloc (.deferred (some []))).heap.size = D + 1 := by rw [World.size_alloc, hD]
  have HS1 := (HS.newObj (.deferred (some []))).newObj (.loop (rec .ready none))
  rw [hD, hl1, List.append_assoc] at HS1
  have he : (Instr.enterLoop b.fn a.tmps ps assign body b.roundOf).run Try.prog w = .ok (D + 1, [markOf D]) ((w.alloc (.deferred (some []))).alloc (.loop (rec .ready none))) := by
    rw [hro, hrec, ← hD]; exact run_enterLoop_outer _ _ _ _ _
  generalize (w.alloc (.deferred (some []))).alloc (.loop (rec .ready none)) = W1 at *
  have hres : (resolve a.eval (rangeCall g (D + 1)) 0).run Try.prog W1 = .ok { target := .fn (.func gf) lb, args := #[.func (.yield (D + 1)) #[] #[]] } W1 := by
    simp only [resolve, hg]
    simp [go_sem]
  have hinv : (invoke (.fn (.func gf) lb) #[.func (.yield (D + 1)) #[] #[]]).run Try.prog W1 = .ok (.enter gf (#[.func (.yield (D + 1)) #[] #[]] ++ lb)) W1 := by
    simp [invoke, go_sem, eg _ _]
  have henter := stepR_rangeFunc (P := Try.prog) (b := b) (a := a) (k := k) (cs := cs) (w := w) he hres hinv
  -- the iterator
  have hcall := hseq (D + 1) W S
    (fun m L1 => ∃ L, J m L ∧ L1 = L ++ [objR D (.deferred (some [])), objR (D + 1) (.loop (rec .ready none))])
    (fun L1 => ∃ c L, Jx c L ∧ L1 = L ++ [objR D (.deferred (some [])), objR (D + 1) (.loop (rec .done (some c)))])
    (fun ch L1 => ∃ L r2, Jp ch L ∧ L1 = L ++ [objR D (.deferred (some [])), r2]) W1
    (by
      rintro m _ X A hm ⟨L, hj, rfl⟩ hs
      refine hRR m L ([objR D (.deferred (some [])), objR (D + 1) (.loop (rec .ready none))] ++ X) A hm hj ?_
      rwa [← List.append_assoc])
    (by
      rintro m _ X A hm ⟨L, hj, rfl⟩ hs0
      have hs : Sep W S (L ++ objR D (.deferred (some [])) :: objR (D + 1) (.loop (rec .ready none)) :: X) A := by simpa using hs0
      have hl : A.heap[D + 1]? = some (.loop (rec .ready none)) := hs.all _ _ get3b
      have hy := run_yield (P := Try.prog) (args := encs m) hl (by rw [hrec]; exact hps m)
      have hyf : (rec .ready none).fn = b.fn := by rw [hrec]
      have hyt : (rec .ready none).tmps = a.tmps := by rw [hrec]
      have hyp : (rec .ready none).params = ps := by rw [hrec]
      have hya : (rec .ready none).assign = assign := by rw [hrec]
      have hyb : (rec .ready none).body = body := by rw [hrec]
      have hys : (rec .ready none).state = .ready := by rw [hrec]
      rw [hyf, hyt, hyp, hya, hyb] at hy
      refine ⟨b.fn, _, assign, body, hy, roundIn_of_wpIn_panic (F := Fence.wide) trivial (wpIn_mono (hround (D + 1) m L X _ _ A hm hj hs) ?_)⟩
      rintro e1 a1 A1 he1
      cases e1 with
      | normal => ?_
      | ret => exact he1
      | exit id => exact he1
      | goto t => exact he1
      | panic ch => exact he1
      | outgrown => exact he1
      obtain ⟨L1, hs1, hbody⟩ := he1
      have hl1 : A1.heap[D + 1]? = some (.loop (rec .ready none)) := hs1.all _ _ get3b
      refine ⟨_, run_beginRound hl1 hys, ?_⟩
      have hs2 := hs1.putObj get3b (.loop { rec .ready none with state := .busy })
      rw [set3b] at hs2
      refine wpIn_mono (hbody _ _ hs2) ?_
      have fin : ∀ (jump : Option Code) (L' : List Res) (W3 : World), Sep W S (L' ++ objR D (.deferred (some [])) :: objR (D + 1) (.loop { rec .ready none with state := .busy }) :: X) W3 →
          (Instr.endRound (D + 1) jump).run Try.prog W3 = .ok (.bool jump.isNone) (W3.putObj (D + 1) (.loop (rec (if jump.isNone then .ready else .done) jump))) ∧
          Sep W S ((L' ++ [objR D (.deferred (some [])), objR (D + 1) (.loop (rec (if jump.isNone then .ready else .done) jump))]) ++ X) (W3.putObj (D + 1) (.loop (rec (if jump.isNone then .ready else .done) jump))) := fun jump L' W3 h3 => by
        have hl3 : W3.heap[D + 1]? = some (.loop { rec .ready none with state := .busy }) := h3.all _ _ get3b
        have := run_endRound (P := Try.prog) jump hl3
        have h4 := h3.putObj get3b (.loop (rec (if jump.isNone then .ready else .done) jump))
        rw [set3b] at h4
        refine ⟨?_, by simpa using h4⟩
        rw [hrec] at this ⊢
        exact this
      rintro e a3 W3 hp
      cases e with
      | normal =>
        obtain ⟨L', hj', hs'⟩ := hp
        obtain ⟨h1, h2⟩ := fin none L' W3 hs'
        exact ⟨_, _, h1, .inl ⟨rfl, _, ⟨L', hj', rfl⟩, h2⟩⟩
      | ret =>
        obtain ⟨L', hj', hs'⟩ := hp
        obtain ⟨h1, h2⟩ := fin (some .ret) L' W3 hs'
        exact ⟨_, _, h1, .inr (.inl ⟨rfl, _, ⟨.ret, L', hj', rfl⟩, h2⟩)⟩
      | exit id =>
        obtain ⟨L', hj', hs'⟩ := hp
        obtain ⟨h1, h2⟩ := fin (some (.exit id)) L' W3 hs'
        exact ⟨_, _, h1, .inr (.inl ⟨rfl, _, ⟨.exit id, L', hj', rfl⟩, h2⟩)⟩
      | goto t =>
        obtain ⟨L', hj', hs'⟩ := hp
        obtain ⟨h1, h2⟩ := fin (some (.goto t)) L' W3 hs'
        exact ⟨_, _, h1, .inr (.inl ⟨rfl, _, ⟨.goto t, L', hj', rfl⟩, h2⟩)⟩
      | panic ch =>
        obtain ⟨hd, L', hj', hs'⟩ := hp
        rcases hfr _ hb with hf | hf
        · exact ⟨hd, hf, .inr (.inr ⟨ch, rfl, _, ⟨L', _, hj', rfl⟩, by simpa using hs'⟩)⟩
        · exact absurd hj' (hf _ _)
      | outgrown => exact hp.elim)
    ⟨_, ⟨L0, h0, rfl⟩, HS1⟩
  have hcall := (callsIn_wide (n := 0)).2 hcall
  obtain ⟨e, w₃, fr, hR, hsteps, hfn, hleave⟩ := hcall.2 (b.atR { a with defers := [markOf D] ++ a.defers } (.inRangeFunc (D + 1) :: k) :: cs) (room_wide _)
  have hrecs : ∀ st pe, (rec st pe).state = st := fun st pe => by rw [hrec]
  have hrecp : ∀ st pe, (rec st pe).pending = pe := fun st pe => by rw [hrec]
  have back : ∀ (v : Value) (st : LoopState) (pe : Option Code) (L : List Res), e = .returned v → st ≠ .busy → Sep W S (L ++ [objR D (.deferred (some [])), objR (D + 1) (.loop (rec st pe))]) w₃ →
      ∃ w₄ r2, Sep W S (L ++ [objR D (.deferred (some [])), r2]) w₄ ∧
        StepsIn (Machine.fenced Try.prog Fence.wide) Try.prog (lone (b.atR a (.code (.rangeFunc g ps assign body) :: k)) cs w) (lone (b.atR { a with defers := [markOf D] ++ a.defers } ((pe.map Item.code).toList ++ k)) cs w₄) := by
    rintro v st pe L rfl hst hs
    have hl3 : w₃.heap[D + 1]? = some (.loop (rec st pe)) := hs.all _ _ get_snoc2.2
    have hend := run_endLoop (P := Try.prog) hl3 (by rw [hrecs]; exact hst)
    have hend := hend.trans (congrArg (fun x => Result.ok x _) (hrecp st pe))
    have h4 := hs.putObj get_snoc2.2 (.loop { rec st pe with state := .exhausted })
    rw [set_snoc2.1] at h4
    refine ⟨_, _, h4, ?_⟩
    refine .head (fenced_wide _ _) henter (StepsIn.trans hsteps (.head (fenced_wide _ _) ?_ (.one (fenced_wide _ _) (stepR_endRangeFunc hend))))
    rw [← finish_atR_inRangeFunc (D + 1) v]; exact step_leave_returned hleave
  rcases hR with ⟨v, rfl, ⟨_, ⟨L, hj, rfl⟩, hs⟩ | ⟨_, ⟨c, L, hj, rfl⟩, hs⟩⟩ | ⟨ch, rfl, _, ⟨L, r2, hj, rfl⟩, hs⟩
  · obtain ⟨w₄, r2, h4, st⟩ := back v .ready none L rfl (by simp) hs
    exact ⟨.normal, _, w₄, hdone D L r2 w₄ hj h4, st⟩
  · obtain ⟨w₄, r2, h4, st⟩ := back v .done (some c) L rfl (by simp) hs
    obtain ⟨e', a'', w₅, hq, harr⟩ := hstop D c L r2 w₄ hj h4 b k cs hro hb
    exact ⟨e', a'', w₅, hq, .of_steps st harr⟩
  · refine ⟨.panic ch, _, w₃, hpanic D ch L r2 w₃ hj hs, .inRangeFunc (D + 1) :: k, .head (fenced_wide _ _) henter (StepsIn.trans hsteps (.one (fenced_wide _ _) ?_))⟩
    rw [← Frame.raise_atR]; exact step_leave_panicked hleave
end Go.Proofs.Ytbdomdmnjclpdaa
