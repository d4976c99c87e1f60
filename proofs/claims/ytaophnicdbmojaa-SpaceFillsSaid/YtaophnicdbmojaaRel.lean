/-
  Regions that draw their order, each operation of which yields a value that is told of (in whatever order they come), and makes new memory alone.
-/
import Derived.Test.YtaophnicdbmojaaQuiet
import Derived.Test.YtaophnicdbmojaaNvm2
set_option maxRecDepth 100000
namespace Go.Proofs.Ytaophnicdbmojaa
open Go.RowKit

/-- What is told of a value: it is this one; or something that new memory leaves true. -/
inductive Fact where
  | is (c : Value)
  | so (h : Value → World → Prop) (stable : ∀ v w w', h v w → Keep w.heap.size [] w w' → h v w')

def Fact.holds : Fact → Value → World → Prop
  | .is c, v, _ => v = c
  | .so h _, v, w => h v w

theorem Fact.keep {p : Fact} {v : Value} {w w' : World} (h : p.holds v w) (hk : Keep w.heap.size [] w w') : p.holds v w' := by
  cases p with
  | is c => exact h
  | so h' hs => exact hs v w w' h hk

/-- The values told for sure of what an operation waits for. -/
def sure (pre : List Fact) : List Edge → List (Nat × Value)
  | [] => []
  | e :: es => if Region.binds .any e then (match pre[e.on]? with | some (.is c) => (e.on, c) :: sure pre es | _ => sure pre es) else sure pre es
def lay : List (Nat × Value) → (Nat → Value) → Nat → Value
  | [], u, k => u k
  | (j, c) :: r, u, k => bif k == j then c else lay r u k
/-- .. and what else is told of it. -/
def told (pre : List Fact) (u : Nat → Value) (w : World) : List Edge → Prop → Prop
  | [], G => G
  | e :: es, G => if Region.binds .any e then (match pre[e.on]? with | some (.so h _) => h (u e.on) w → told pre u w es G | _ => told pre u w es G) else told pre u w es G

theorem lay_sure (pre : List Fact) (u : Nat → Value) (w : World) : ∀ es : List Edge, (∀ e ∈ es, Region.binds .any e = true → ∀ p : Fact, pre[e.on]? = some p → p.holds (u e.on) w) → lay (sure pre es) u = u
  | [], _ => rfl
  | e :: es, h => by
    have ih := lay_sure pre u w es (fun e' he' => h e' (by simp [he']))
    unfold sure
    split
    · rename_i hb
      split
      · rename_i c hc
        funext k
        simp only [lay]
        cases hk : (k == e.on) with
        | true =>
          rw [beq_iff_eq] at hk
          subst hk
          exact (h e (by simp) hb _ hc).symm
        | false => rw [ih]; rfl
      · exact ih
    · exact ih

theorem told_out (pre : List Fact) (u : Nat → Value) (w : World) (G : Prop) : ∀ es : List Edge, (∀ e ∈ es, Region.binds .any e = true → ∀ p : Fact, pre[e.on]? = some p → p.holds (u e.on) w) → told pre u w es G → G
  | [], _, hg => hg
  | e :: es, h, hg => by
    have ih := told_out pre u w G es (fun e' he' => h e' (by simp [he']))
    unfold told at hg
    split at hg
    · rename_i hb
      split at hg
      · rename_i hh hs hc
        exact ih (hg (h e (by simp) hb _ hc))
      · exact ih hg
    · exact ih hg

/-- The frame, whose slots of the region hold u. -/
def puts (u : Nat → Value) : Nat → List Oper → Act → Act
  | _, [], a => a
  | n, o :: l, a => puts u (n + 1) l (a.put o.dst (u n))

def freshB : List Oper → Bool
  | [] => true
  | o :: l => (match o.dst with | some d => l.all fun o' => o'.dst != some d | none => true) && freshB l

theorem puts_put (u : Nat → Value) (d : Nat) (v : Value) : ∀ (l : List Oper) (n : Nat) (a : Act), (l.all fun o' => o'.dst != some d) = true → (puts u n l a).put (some d) v = puts u n l (a.put (some d) v)
  | [], _, _, _ => rfl
  | o :: l, n, a, h => by
    simp only [List.all_cons, Bool.and_eq_true, bne_iff_ne, ne_eq] at h
    simp only [puts]
    rw [puts_put u d v l (n + 1) _ (by simpa only [List.all_eq_true, bne_iff_ne, ne_eq] using h.2)]
    congr 1
    cases hd : o.dst with
    | none => rfl
    | some d' =>
      have : d' ≠ d := by rintro rfl; exact h.1 hd
      simp [Act.put, Array.setIfInBounds_comm _ _ this]

theorem puts_congr (u u' : Nat → Value) : ∀ (l : List Oper) (n : Nat) (a : Act), (∀ k, n ≤ k → u k = u' k) → puts u n l a = puts u' n l a
  | [], _, _, _ => rfl
  | o :: l, n, a, h => by
    simp only [puts]
    rw [h n (Nat.le_refl _)]
    exact puts_congr u u' l (n + 1) _ (fun k hk => h k (by omega))

theorem puts_one (v : Value) : ∀ (l : List Oper) (u : Nat → Value) (n i : Nat) (a : Act) (o : Oper), freshB l = true → l[i]? = some o →
    (puts u n l a).put o.dst v = puts (fun k => if k = n + i then v else u k) n l a
  | [], _, _, _, _, _, _, h => by simp at h
  | o' :: l, u, n, 0, a, o, hf, h => by
    simp only [List.getElem?_cons_zero, Option.some.injEq] at h
    subst h
    simp only [freshB, Bool.and_eq_true] at hf
    simp only [puts, Nat.add_zero, if_true]
    rw [puts_congr u (fun k => if k = n then v else u k) l (n + 1) _ (fun k hk => by show u k = if k = n then v else u k; rw [if_neg (by omega)])]
    cases hd : o'.dst with
    | none => rfl
    | some d =>
      rw [hd] at hf
      rw [puts_put _ d v l (n + 1) _ hf.1]
      congr 1
      simp [Act.put]
  | o' :: l, u, n, i + 1, a, o, hf, h => by
    simp only [List.getElem?_cons_succ] at h
    simp only [freshB, Bool.and_eq_true] at hf
    simp only [puts]
    rw [puts_one v l u (n + 1) i _ o hf.2 h, if_neg (by omega), show n + 1 + i = n + (i + 1) by omega]

theorem puts_start : ∀ (l : List Oper) (u : Nat → Value) (n : Nat) (a : Act), (∀ j o, l[j]? = some o → ∀ d, o.dst = some d → u (n + j) = a.tmps.getD d undef) → puts u n l a = a
  | [], _, _, _, _ => rfl
  | o :: l, u, n, a, h => by
    have h0 : a.put o.dst (u n) = a := by
      cases hd : o.dst with
      | none => rfl
      | some d =>
        have := h 0 o rfl d hd
        rw [Nat.add_zero] at this
        rw [this]
        have e : a.tmps.setIfInBounds d (a.tmps.getD d undef) = a.tmps := by
          apply Array.ext_getElem?
          intro i
          rw [Array.getElem?_setIfInBounds]
          split
          · rename_i hdi
            subst hdi
            split
            · rename_i hlt
              simp [hlt]
            · rename_i hge
              rw [Array.getElem?_eq_none (by omega)]
          · rfl
        simp only [Act.put, e]
    simp only [puts, h0]
    exact puts_start l u (n + 1) a (fun j o' hj d hd => by
      have := h (j + 1) o' (by simpa using hj) d hd
      rw [show n + 1 + j = n + (j + 1) by omega]
      exact this)

/-- What an operation yields. -/
def yUpon (P : Program) (a : Act) (K : Value → World → Prop) (Q : Exit → Act → World → Prop) : Result Next → Prop
  | .ok (.value v) w' => K v w'
  | .ok .skip w' => K undef w'
  | .ok (.enter f args) w' => Calls P f args w' fun
      | .returned v, w'' => K v w''
      | .panicked chain, w'' => Q (.panic chain) a w''
      | .outgrown, _ => LetsOut Q
  | .halt (.panic v) w' => Q (.panic [{ v, recovered := false }]) a w'
  | _ => False

theorem upon_of_y {P : Program} {o : Oper} {a : Act} {K : Value → World → Prop} {Q : Exit → Act → World → Prop} {next : Act → World → Prop} {r : Result Next} (hn : ∀ v w', K v w' → next (a.put o.dst v) w') (h : yUpon P a K Q r) : o.upon P a next Q r := by
  unfold yUpon at h
  unfold Oper.upon
  split at h
  · exact hn _ _ h
  · exact hn _ _ h
  · refine Calls.mono h fun e w'' h' => ?_
    cases e with
    | returned v => exact hn _ _ h'
    | panicked c => exact h'
    | outgrown => exact h'
  · exact h
  · exact h.elim

section
variable {P : Program} {Q : Exit → Act → World → Prop} {ops : List Oper} {W : World} {F : (Nat → Value) → Act}

def RelStep (P : Program) (Q : Exit → Act → World → Prop) (ops : Array Oper) (W : World) (F : (Nat → Value) → Act) (pre : List Fact) (o : Oper) (p : Fact) : Prop :=
  ∀ (u : Nat → Value) (x : Ext W) (K : Value → World → Prop), (∀ v (y : Ext W), Keep x.now.heap.size [] x.now y.now → p.holds v y.now → K v y.now) →
    told pre u x.now o.after.toList (if Region.wanted o (yielded ops (F (lay (sure pre o.after.toList) u)).tmps) then yUpon P (F (lay (sure pre o.after.toList) u)) K Q ((execOp (F (lay (sure pre o.after.toList) u)).eval o).run P x.now) else K undef x.now)

def wpRel (P : Program) (Q : Exit → Act → World → Prop) (ops : Array Oper) (W : World) (F : (Nat → Value) → Act) : List Fact → List Oper → Prop
  | pre, [] => ∀ (u : Nat → Value) (x : Ext W), (∀ (i : Nat) (p : Fact), pre[i]? = some p → p.holds (u i) x.now) → Q .normal (F u) x.now
  | pre, o :: l => ∃ p, RelStep P Q ops W F pre o p ∧ wpRel P Q ops W F (pre ++ [p]) l

theorem wpRel_step {o : Oper} {l : List Oper} {pre : List Fact} (p : Fact) (h : RelStep P Q ops.toArray W F pre o p) (h' : wpRel P Q ops.toArray W F (pre ++ [p]) l) : wpRel P Q ops.toArray W F pre (o :: l) := ⟨p, h, h'⟩

theorem wpRel_is {o : Oper} {l : List Oper} {pre : List Fact} {c : Value}
    (h : ∀ (u : Nat → Value) (x : Ext W) (K : Value → World → Prop), (∀ y : Ext W, Keep x.now.heap.size [] x.now y.now → K c y.now) →
      told pre u x.now o.after.toList (if Region.wanted o (yielded ops.toArray (F (lay (sure pre o.after.toList) u)).tmps) then yUpon P (F (lay (sure pre o.after.toList) u)) K Q ((execOp (F (lay (sure pre o.after.toList) u)).eval o).run P x.now) else K undef x.now))
    (h' : wpRel P Q ops.toArray W F (pre ++ [.is c]) l) : wpRel P Q ops.toArray W F pre (o :: l) :=
  ⟨.is c, fun u x K hK => h u x K fun y hk => hK c y hk rfl, h'⟩

theorem wpRel_so {o : Oper} {l : List Oper} {pre : List Fact} (S : Value → World → Prop) (hs : ∀ v w w', S v w → Keep w.heap.size [] w w' → S v w')
    (h : ∀ (u : Nat → Value) (x : Ext W) (K : Value → World → Prop), (∀ v (y : Ext W), Keep x.now.heap.size [] x.now y.now → S v y.now → K v y.now) →
      told pre u x.now o.after.toList (if Region.wanted o (yielded ops.toArray (F (lay (sure pre o.after.toList) u)).tmps) then yUpon P (F (lay (sure pre o.after.toList) u)) K Q ((execOp (F (lay (sure pre o.after.toList) u)).eval o).run P x.now) else K undef x.now))
    (h' : wpRel P Q ops.toArray W F (pre ++ [.so S hs]) l) : wpRel P Q ops.toArray W F pre (o :: l) :=
  ⟨.so S hs, fun u x K hK => h u x K fun v y hk hv => hK v y hk hv, h'⟩

theorem wpRel_nil {pre : List Fact} (h : ∀ (u : Nat → Value) (x : Ext W), (∀ (i : Nat) (p : Fact), pre[i]? = some p → p.holds (u i) x.now) → Q .normal (F u) x.now) : wpRel P Q ops.toArray W F pre [] := h

theorem wpRel_all : ∀ (l : List Oper) (pre : List Fact), wpRel P Q ops.toArray W F pre l →
    ∃ ps : List Fact, ps.length = pre.length + l.length ∧ ps.take pre.length = pre ∧ (∀ j o, l[j]? = some o → ∃ p, ps[pre.length + j]? = some p ∧ RelStep P Q ops.toArray W F (ps.take (pre.length + j)) o p) ∧
      ∀ (u : Nat → Value) (x : Ext W), (∀ (i : Nat) (p : Fact), ps[i]? = some p → p.holds (u i) x.now) → Q .normal (F u) x.now
  | [], pre, h => ⟨pre, by simp, by simp, by simp, h⟩
  | o :: l, pre, ⟨p, hp, h⟩ => by
    obtain ⟨ps, h1, h2, h3, h4⟩ := wpRel_all l _ h
    simp only [List.length_append, List.length_cons, List.length_nil] at h1 h2 h3
    have hpre : ps.take pre.length = pre := by
      have := congrArg (List.take pre.length) h2
      simpa [List.take_take] using this
    refine ⟨ps, by simp; omega, hpre, ?_, h4⟩
    intro j o' hj
    cases j with
    | zero =>
      simp only [List.getElem?_cons_zero, Option.some.injEq] at hj
      subst hj
      refine ⟨p, ?_, ?_⟩
      · have := congrArg (fun q => q[pre.length]?) h2
        simp at this
        simpa using this
      · rw [Nat.add_zero, hpre]; exact hp
    | succ j =>
      simp only [List.getElem?_cons_succ] at hj
      obtain ⟨q, hq, hs⟩ := h3 j o' hj
      rw [show pre.length + (0 + 1) + j = pre.length + (j + 1) by omega] at hq hs
      exact ⟨q, hq, hs⟩

theorem wp_region_rel {id : Nat} {a : Act} {w : World} (hm : P.follows .mixedOrders = true) (hB : downB .any ops.toArray = true) (hF : freshB ops = true)
    (h : wpRel P Q ops.toArray w (fun u => puts u 0 ops a) [] ops) : (Code.region id ops.toArray true).wp P Q a w := by
  obtain ⟨ps, h1, _, h3, h4⟩ := wpRel_all ops [] h
  simp only [List.length_nil, Nat.zero_add] at h1 h3
  refine wp_region_inv hm hB (fun L a' w' => ∃ (u : Nat → Value) (x : Ext w), a' = puts u 0 ops a ∧ w' = x.now ∧ ∀ (i : Nat) (p : Fact), ps[i]? = some p → L.getD i false = true → p.holds (u i) w') ?_ ?_ ?_
  · refine ⟨fun i => match ops[i]? with | some o => (match o.dst with | some d => a.tmps.getD d undef | none => undef) | none => undef, ⟨w.drew, (Keep.refl _ _ _).drew⟩, ?_, rfl, ?_⟩
    · refine (puts_start ops _ 0 a (fun j o hj d hd => ?_)).symm
      simp only [Nat.zero_add, hj, hd]
    · intro i p _ hl
      rw [getD_replicate_false] at hl
      cases hl
  · rintro L a' w' i ⟨u, x, rfl, rfl, hL⟩ hi
    obtain ⟨hun, o, ho, hall⟩ := mem_ready.1 hi
    have ho' : ops[i]? = some o := by simpa using ho
    obtain ⟨p, hp, hs⟩ := h3 i o ho'
    have hdeps : ∀ e ∈ o.after.toList, Region.binds .any e = true → ∀ p', (ps.take i)[e.on]? = some p' → p'.holds (u e.on) x.now := by
      intro e he hb p' hp'
      rw [List.getElem?_take] at hp'
      split at hp'
      · exact hL _ _ hp' (hall e (by simpa using he) hb)
      · cases hp'
    have hq := told_out _ _ _ _ _ hdeps (hs u x (fun v w'' => ∃ y : Ext w, w'' = y.now ∧ Keep x.now.heap.size [] x.now y.now ∧ p.holds v y.now) (fun v y hk hv => ⟨y, rfl, hk, hv⟩))
    rw [lay_sure _ _ _ _ hdeps] at hq
    have hnext : ∀ v w'', (∃ y : Ext w, w'' = y.now ∧ Keep x.now.heap.size [] x.now y.now ∧ p.holds v y.now) →
        ∃ (u' : Nat → Value) (x' : Ext w), (puts u 0 ops a).put o.dst v = puts u' 0 ops a ∧ w'' = x'.now ∧ ∀ (i' : Nat) (p : Fact), ps[i']? = some p → (L.setIfInBounds i true).getD i' false = true → p.holds (u' i') w'' := by
      rintro v w'' ⟨y, rfl, hk, hv⟩
      refine ⟨_, y, (puts_one v ops u 0 i a o hF ho'), rfl, fun i' p' hp' hl => ?_⟩
      simp only [Nat.zero_add]
      split
      · rename_i he
        subst he
        rw [hp] at hp'
        injection hp' with hp'
        subst hp'
        exact hv
      · rename_i he
        refine Fact.keep (p := p') (hL i' p' hp' ?_) hk
        rw [← hl]
        simp only [Array.getD_eq_getD_getElem?, Array.getElem?_setIfInBounds_ne (fun e => he e.symm)]
    unfold wpOp
    rw [ho]
    simp only
    split
    · rename_i hw
      rw [if_pos hw] at hq
      exact .inl (upon_of_y hnext hq)
    · rename_i hw
      rw [if_neg hw] at hq
      exact hnext _ _ hq
  · rintro L a' w' ⟨u, x, rfl, rfl, hL⟩ hr
    refine h4 u x fun i p hp => hL i p hp (hr i ?_)
    have := (List.getElem?_eq_some_iff.1 hp).1
    simpa using (by omega : i < ops.length)
end

/-- A slice at the begin of a block that reads so. -/
def RowAt (w : World) (v : Value) (xs : List Value) : Prop :=
  ∃ g m, v = .slice (some ⟨g, 0, none⟩) xs.length m ∧ xs.length ≤ m ∧ ∀ j u, xs[j]? = some u → w.cell? ⟨g, j, none⟩ = some u
theorem RowAt.keep {w w' : World} {v : Value} {xs : List Value} (h : RowAt w v xs) (hk : Keep w.heap.size [] w w') : RowAt w' v xs := by
  obtain ⟨g, m, rfl, hm, h⟩ := h
  exact ⟨g, m, rfl, hm, fun j u hu => (World.cell?_of_block (hk.block g (World.block_lt_of_cell? w _ (h j u hu)) (by simp))).trans (h j u hu)⟩
theorem NewRow.at_ {w w' : World} {v : Value} {xs ex : List Value} {g : Nat} (h : NewRow w w' v xs g ex) : RowAt w' v xs :=
  ⟨g, _, h.val, by omega, fun j u hu => by
    rw [h.blk.cell]
    simp only [List.getElem?_toArray]
    rw [List.getElem?_append_left (List.getElem?_eq_some_iff.1 hu).1]
    exact hu⟩
theorem RowAt.rd {w : World} {v : Value} {xs : List Value} (h : RowAt w v xs) : Rd w v xs := by
  obtain ⟨g, m, rfl, _, h⟩ := h
  exact ⟨_, m, rfl, fun _ => ⟨g, 0, rfl, fun j u hu => by rw [Nat.zero_add]; exact h j u hu⟩⟩
theorem Rd.take {w : World} {g h m : Nat} {xs ys : List Value} (hc : ∀ j u, xs[j]? = some u → w.cell? ⟨g, j, none⟩ = some u) (hy : xs.take h = ys) (hh : h ≤ xs.length) : Rd w (.slice (some ⟨g, 0, none⟩) h m) ys := by
  subst hy
  have e : (xs.take h).length = h := by simp; omega
  refine ⟨_, m, by rw [e], fun _ => ⟨g, 0, rfl, fun j u hu => ?_⟩⟩
  rw [Nat.zero_add]
  have hj := (List.getElem?_eq_some_iff.1 hu).1
  rw [List.getElem?_take_of_lt (by omega)] at hu
  exact hc j u hu
end Go.Proofs.Ytaophnicdbmojaa
