/-
  Maps whose keys are integers, with values of any kind: what they hold, and what each operation on them does, over any program.
-/
import Derived.MapKept
import Derived.Test.YtaophnicdbmojaaBase
set_option maxRecDepth 100000
namespace Go.Proofs.Ytaophnicdbmojaa
open Go.RowKit

/-- An entry. -/
def ment (kd : IntKind) (x : Int × Value × Nat) : MapEntry := { key := .int kd x.1, val := x.2.1, born := x.2.2 }

structure MOk (L : List (Int × Value × Nat)) (clk : Nat) (m : Int → Option Value) : Prop where
  keys : (L.map (·.1)).Nodup
  borns : (L.map (·.2.2)).Nodup
  old : ∀ x ∈ L, x.2.2 < clk
  has : ∀ k v, m k = some v ↔ ∃ b, (k, v, b) ∈ L

/-- Block r is a map that holds just m. -/
def IMap (w : World) (r : Nat) (kd : IntKind) (m : Int → Option Value) : Prop :=
  ∃ L clk, w.heap[r]? = some (.map (L.map (ment kd)).toArray clk) ∧ MOk L clk m

/-- A block is another one. -/
def setObjW (w : World) (r : Nat) (o : Obj) : World := { w with heap := w.heap.setIfInBounds r o }

def mset (m : Int → Option Value) (k : Int) (v : Value) : Int → Option Value := fun j => if j = k then some v else m j
def mdel (m : Int → Option Value) (k : Int) : Int → Option Value := fun j => if j = k then none else m j

section
variable {w w' : World} {r : Nat} {kd : IntKind} {m : Int → Option Value}
theorem IMap.lt (h : IMap w r kd m) : r < w.heap.size := by
  obtain ⟨L, clk, hq, _⟩ := h
  exact (Array.getElem?_eq_some_iff.1 hq).1
theorem IMap.same (h : IMap w r kd m) (he : w'.heap[r]? = w.heap[r]?) : IMap w' r kd m := by
  obtain ⟨L, clk, hq, h'⟩ := h
  exact ⟨L, clk, he.trans hq, h'⟩
theorem IMap.keep (h : IMap w r kd m) {n : Nat} {S : List Nat} (hk : Keep n S w w') (hr : r < n) (hS : r ∉ S) : IMap w' r kd m := h.same (hk.block r hr hS)
theorem IMap.new (w : World) (kd : IntKind) : IMap (w.alloc (.map #[] 0)) w.heap.size kd (fun _ => none) :=
  ⟨[], 0, heap_alloc_new w _, ⟨by simp, by simp, by simp, by simp⟩⟩
theorem IMap.ne_blk {g : Nat} {t : TypeId} {cs : Array Value} (h : IMap w r kd m) (hb : Blk w g t cs) : r ≠ g := by
  rintro rfl
  obtain ⟨L, clk, hq, _⟩ := h
  unfold Blk at hb
  rw [hq] at hb
  cases hb
theorem setObjW_at (hr : r < w.heap.size) (o : Obj) : (setObjW w r o).heap[r]? = some o := by simp [setObjW, hr]
theorem setObjW_other (o : Obj) {k : Nat} (h : k ≠ r) : (setObjW w r o).heap[k]? = w.heap[k]? := by
  simp only [setObjW]
  rw [Array.getElem?_setIfInBounds_ne (by omega)]
theorem setObjW_size (o : Obj) : (setObjW w r o).heap.size = w.heap.size := by simp [setObjW]
theorem Keep.setObj {n : Nat} {S : List Nat} {w0 : World} (h : Keep n S w0 w) (hr : r < n → r ∈ S) (o : Obj) : Keep n S w0 (setObjW w r o) :=
  h.trans ⟨rfl, rfl, rfl, by simp [setObjW], fun k hk hs => setObjW_other o (fun e => hs (e ▸ hr (e ▸ hk)))⟩
end

theorem nodup_inj {α : Type} {l : List α} (h : l.Nodup) {i j : Nat} {hi : i < l.length} {hj : j < l.length} (e : l[i] = l[j]) : i = j := by
  have hp := List.pairwise_iff_getElem.1 h
  rcases Nat.lt_trichotomy i j with hlt | rfl | hlt
  · exact absurd e (hp i j hi hj hlt)
  · rfl
  · exact absurd e.symm (hp j i hj hi hlt)

section
variable {kd : IntKind}
theorem findNow_ment (k : Int) : ∀ (L : List (Int × Value × Nat)) (i : Nat),
    Instr.findNow (.int kd) (.int kd k) (L.map (ment kd)) i = some ((L.findIdx? fun x => x.1 == k).bind fun j => (L[j]?).map fun x => (i + j, x.2.1)) := by
  intro L
  induction L with
  | nil => intro i; simp [Instr.findNow]
  | cons x L ih =>
    intro i
    by_cases hx : x.1 = k
    · subst hx
      simp [Instr.findNow, Instr.sameNow, ment, List.findIdx?_cons]
    · have hb : (k == x.1) = false := by simp; omega
      have hb' : (x.1 == k) = false := by simp [hx]
      simp only [List.map_cons, Instr.findNow, Instr.sameNow, ment, if_true, hb]
      rw [ih, List.findIdx?_cons, hb']
      cases hf : L.findIdx? fun x => x.1 == k with
      | none => simp
      | some j => simp [Nat.add_assoc, Nat.add_comm 1 j]
end

section
variable {P : Program} {w : World} {r : Nat} {kd : IntKind} {m : Int → Option Value} {K E T : TypeId}

/-- Where a key's entry lies. -/
theorem MOk.at_ {L : List (Int × Value × Nat)} {clk : Nat} (h : MOk L clk m) (k : Int) :
    (m k = none ∧ L.findIdx? (fun x => x.1 == k) = none) ∨ (∃ j v b, m k = some v ∧ L.findIdx? (fun x => x.1 == k) = some j ∧ L[j]? = some (k, v, b)) := by
  cases hf : L.findIdx? fun x => x.1 == k with
  | none =>
    left
    refine ⟨?_, rfl⟩
    cases hm : m k with
    | none => rfl
    | some v =>
      obtain ⟨b, hb⟩ := (h.has k v).1 hm
      have := List.findIdx?_eq_none_iff.1 hf _ hb
      simp at this
  | some j =>
    right
    obtain ⟨hj, hp, _⟩ := List.findIdx?_eq_some_iff_getElem.1 hf
    rcases hx : L[j] with ⟨x1, x2, x3⟩
    rw [hx] at hp
    simp at hp
    subst hp
    have hmem : (x1, x2, x3) ∈ L := hx ▸ List.getElem_mem hj
    exact ⟨j, x2, x3, (h.has _ _).2 ⟨_, hmem⟩, rfl, by rw [List.getElem?_eq_getElem hj, hx]⟩

theorem findKey_run {L : List (Int × Value × Nat)} {clk : Nat} (h : MOk L clk m) (hK : P.underlying K = some (.int kd)) (k : Int) (w : World) :
    (m k = none ∧ (Instr.findKey K (.int kd k) (L.map (ment kd))).run P w = .ok none w) ∨
    (∃ j v b, m k = some v ∧ L[j]? = some (k, v, b) ∧ (Instr.findKey K (.int kd k) (L.map (ment kd))).run P w = .ok (some (j, v)) w) := by
  rcases h.at_ k with ⟨h1, h2⟩ | ⟨j, v, b, h1, h2, h3⟩
  · refine .inl ⟨h1, ?_⟩
    simp [Instr.findKey, run_underlying hK, findNow_ment, h2]
  · refine .inr ⟨j, v, b, h1, h3, ?_⟩
    simp [Instr.findKey, run_underlying hK, findNow_ment, h2, h3]

theorem checkKey_run (hK : P.underlying K = some (.int kd)) (b : Bool) (k : Int) (w : World) : (Instr.checkKey b 10000 K (.int kd k)).run P w = .ok () w := by
  rw [show (10000 : Nat) = 9999 + 1 from rfl, Instr.checkKey]
  simp [run_underlying hK]

/-- A look-up. -/
theorem lookup_ok (h : IMap w r kd m) (hT : P.underlying T = some (.map K E)) (hK : P.underlying K = some (.int kd)) (k : Int) {z : Value} (hz : (zeroValue E).run P w = .ok z w) :
    (Instr.lookup T (.map (some r)) (.int kd k) true).run P w = .ok (.tuple #[(m k).getD z, .bool (m k).isSome]) w := by
  obtain ⟨L, clk, hb, hm⟩ := h
  have hg : (getObj r).run P w = .ok (.map (L.map (ment kd)).toArray clk) w := by simp [getObj, Sem.run, hb]
  rcases findKey_run (P := P) hm hK k w with ⟨h1, h2⟩ | ⟨j, v, b, h1, h2, h3⟩
  · simp [Instr.lookup, run_underlying hT, hg, checkKey_run hK, h2, hz, h1]
  · simp [Instr.lookup, run_underlying hT, hg, checkKey_run hK, h3, h1]
theorem lookup_any (h : IMap w r kd m) (hT : P.underlying T = some (.map K E)) (hK : P.underlying K = some (.int kd)) (k : Int) {z : Value} (hz : (zeroValue E).run P w = .ok z w) :
    (Instr.lookup T (.map (some r)) (.int kd k) false).run P w = .ok ((m k).getD z) w := by
  obtain ⟨L, clk, hb, hm⟩ := h
  have hg : (getObj r).run P w = .ok (.map (L.map (ment kd)).toArray clk) w := by simp [getObj, Sem.run, hb]
  rcases findKey_run (P := P) hm hK k w with ⟨h1, h2⟩ | ⟨j, v, b, h1, h2, h3⟩
  · simp [Instr.lookup, run_underlying hT, hg, checkKey_run hK, h2, hz, h1]
  · simp [Instr.lookup, run_underlying hT, hg, checkKey_run hK, h3, h1]

/-- A store. -/
theorem update_run (h : IMap w r kd m) (hT : P.underlying T = some (.map K E)) (hK : P.underlying K = some (.int kd)) (k : Int) (v : Value) :
    ∃ o, (Instr.mapUpdate T (.map (some r)) (.int kd k) v).run P w = .ok () (setObjW w r o) ∧ IMap (setObjW w r o) r kd (mset m k v) := by
  have hlt := h.lt
  obtain ⟨L, clk, hb, hm⟩ := h
  have hg : (getObj r).run P w = .ok (.map (L.map (ment kd)).toArray clk) w := by simp [getObj, Sem.run, hb]
  have hs : ∀ o, (setObj r o).run P w = .ok () (setObjW w r o) := fun o => by simp [setObj, Sem.run, hb, setObjW]
  rcases findKey_run (P := P) hm hK k w with ⟨h1, h2⟩ | ⟨j, u, b, h1, h2, h3⟩
  · refine ⟨.map (L.map (ment kd) ++ [({ key := .int kd k, val := v, born := clk } : MapEntry)]).toArray (clk + 1), by simp [Instr.mapUpdate, run_underlying hT, hg, checkKey_run hK, h2, hs], L ++ [(k, v, clk)], clk + 1, ?_, ?_⟩
    · rw [setObjW_at hlt]
      simp [ment]
    · have hnk : ∀ x ∈ L, x.1 ≠ k := by
        rintro ⟨a, c, e⟩ hx rfl
        rw [(hm.has a c).2 ⟨e, hx⟩] at h1
        cases h1
      refine ⟨?_, ?_, ?_, ?_⟩
      · rw [List.map_append, List.nodup_append]
        refine ⟨hm.keys, by simp, ?_⟩
        intro a ha c hc
        simp at hc
        subst hc
        obtain ⟨x, hx, rfl⟩ := List.mem_map.1 ha
        exact hnk x hx
      · rw [List.map_append, List.nodup_append]
        refine ⟨hm.borns, by simp, ?_⟩
        intro a ha c hc
        simp at hc
        subst hc
        obtain ⟨x, hx, rfl⟩ := List.mem_map.1 ha
        have := hm.old x hx
        omega
      · intro x hx
        rcases List.mem_append.1 hx with hx | hx
        · have := hm.old x hx; omega
        · simp at hx; subst hx; simp
      · intro j u
        unfold mset
        by_cases hj : j = k
        · subst hj
          simp only [if_true, Option.some.injEq, List.mem_append, List.mem_singleton, Prod.mk.injEq, true_and]
          constructor
          · rintro rfl; exact ⟨clk, .inr ⟨rfl, rfl⟩⟩
          · rintro ⟨b, hb | ⟨rfl, _⟩⟩
            · exact absurd rfl (hnk _ hb)
            · rfl
        · simp only [hj, if_false, hm.has, List.mem_append, List.mem_singleton, Prod.mk.injEq, false_and, or_false]
  · have hj : j < L.length := (List.getElem?_eq_some_iff.1 h2).1
    have hLj : L[j] = (k, u, b) := (List.getElem?_eq_some_iff.1 h2).2
    refine ⟨.map ((L.map (ment kd)).modify j fun e => { e with key := .int kd k, val := v }).toArray clk, by simp [Instr.mapUpdate, run_underlying hT, hg, checkKey_run hK, h3, hs, Instr.keyThatStays, h2, ment, Instr.sameBits], L.set j (k, v, b), clk, ?_, ?_⟩
    · rw [setObjW_at hlt]
      congr 3
      rw [List.map_set]
      apply List.ext_getElem?
      intro i
      rw [List.getElem?_modify, List.getElem?_set]
      by_cases hij : j = i
      · subst hij
        simp [ment, hj, hLj]
      · simp [hij]
    · have hk1 : (L.set j (k, v, b)).map (·.1) = L.map (·.1) := by
        rw [List.map_set]
        apply List.ext_getElem?
        intro i
        rw [List.getElem?_set]
        by_cases hij : j = i
        · subst hij; simp [hj, hLj]
        · simp [hij]
      have hk2 : (L.set j (k, v, b)).map (·.2.2) = L.map (·.2.2) := by
        rw [List.map_set]
        apply List.ext_getElem?
        intro i
        rw [List.getElem?_set]
        by_cases hij : j = i
        · subst hij; simp [hj, hLj]
        · simp [hij]
      refine ⟨hk1 ▸ hm.keys, hk2 ▸ hm.borns, ?_, ?_⟩
      · intro x hx
        rcases List.mem_or_eq_of_mem_set hx with hx | rfl
        · exact hm.old x hx
        · exact hm.old (k, u, b) (hLj ▸ List.getElem_mem hj)
      · intro i y
        unfold mset
        have hone : ∀ x ∈ L, x.1 = k → x = (k, u, b) := by
          intro x hx hxk
          obtain ⟨i, hi, rfl⟩ := List.mem_iff_getElem.1 hx
          have e : (L.map (·.1))[i]'(by simpa using hi) = (L.map (·.1))[j]'(by simpa using hj) := by simp [hxk, hLj]
          have := nodup_inj hm.keys e
          subst this
          exact hLj
        by_cases hik : i = k
        · subst hik
          simp only [if_true, Option.some.injEq]
          constructor
          · rintro rfl; exact ⟨b, List.mem_iff_getElem.2 ⟨j, by simpa using hj, by simp⟩⟩
          · rintro ⟨b', hb'⟩
            rcases List.mem_or_eq_of_mem_set hb' with hx | hx
            · obtain ⟨n, hn, e⟩ := List.mem_iff_getElem.1 hb'
              rw [List.getElem_set] at e
              by_cases hjn : j = n
              · subst hjn; simp at e; exact e.1
              · simp only [hjn, if_false] at e
                have e2 : (L.map (·.1))[n]'(by simpa using hn) = (L.map (·.1))[j]'(by simpa using hj) := by simp [e, hLj]
                exact absurd (nodup_inj hm.keys e2).symm hjn
            · injection hx with _ hx; injection hx with hx _; exact hx.symm
        · simp only [hik, if_false, hm.has]
          constructor
          · rintro ⟨c, hc⟩
            refine ⟨c, ?_⟩
            obtain ⟨n, hn, e⟩ := List.mem_iff_getElem.1 hc
            refine List.mem_iff_getElem.2 ⟨n, by simpa using hn, ?_⟩
            rw [List.getElem_set]
            by_cases hjn : j = n
            · subst hjn; rw [hLj] at e; injection e with e _; exact absurd e.symm hik
            · simp [hjn, e]
          · rintro ⟨c, hc⟩
            rcases List.mem_or_eq_of_mem_set hc with hx | hx
            · exact ⟨c, hx⟩
            · injection hx with hx _; exact absurd hx hik

theorem update_keep (h : IMap w r kd m) (hT : P.underlying T = some (.map K E)) (hK : P.underlying K = some (.int kd)) (k : Int) (v : Value) :
    ∃ w', (Instr.mapUpdate T (.map (some r)) (.int kd k) v).run P w = .ok () w' ∧ IMap w' r kd (mset m k v) ∧ Keep w.heap.size [r] w w' ∧ w'.heap.size = w.heap.size := by
  obtain ⟨o, h1, h2⟩ := update_run h hT hK k v
  exact ⟨_, h1, h2, (Keep.refl _ _ _).setObj (by simp) o, setObjW_size o⟩

/-- clear. -/
theorem clear_run (h : IMap w r kd m) (hT : P.underlying T = some (.map K E)) (ty : TypeId) :
    ∃ o, (Builtin.clear_ #[T] ty #[.map (some r)]).run P w = .ok (.tuple #[]) (setObjW w r o) ∧ IMap (setObjW w r o) r kd (fun _ => none) := by
  have hlt := h.lt
  obtain ⟨L, clk, hb, hm⟩ := h
  have hg : (getObj r).run P w = .ok (.map (L.map (ment kd)).toArray clk) w := by simp [getObj, Sem.run, hb]
  have hs : ∀ o, (setObj r o).run P w = .ok () (setObjW w r o) := fun o => by simp [setObj, Sem.run, hb, setObjW]
  refine ⟨.map #[] clk, by simp [Builtin.clear_, run_underlying hT, hg, hs], [], clk, ?_, ⟨by simp, by simp, by simp, by simp⟩⟩
  rw [setObjW_at hlt]
  rfl
theorem clear_keep (h : IMap w r kd m) (hT : P.underlying T = some (.map K E)) (ty : TypeId) :
    ∃ w', (Builtin.clear_ #[T] ty #[.map (some r)]).run P w = .ok (.tuple #[]) w' ∧ IMap w' r kd (fun _ => none) ∧ Keep w.heap.size [r] w w' ∧ w'.heap.size = w.heap.size := by
  obtain ⟨o, h1, h2⟩ := clear_run h hT ty
  exact ⟨_, h1, h2, (Keep.refl _ _ _).setObj (by simp) o, setObjW_size o⟩

/-- How many entries an iterator hasn't seen. -/
def unseen (w : World) (it r : Nat) : Nat :=
  match w.heap[it]?, w.heap[r]? with
  | some (.mapIter _ _ seen _), some (.map es _) => (es.toList.filter fun e => !seen.contains e.born).length
  | _, _ => 0

theorem range_run {es : Array MapEntry} {clk : Nat} (hb : w.heap[r]? = some (.map es clk)) (hT : P.underlying T = some (.map K E)) :
    (Instr.range T (.map (some r))).run P w = .ok (.pointer (some ⟨w.heap.size, 0, none⟩)) (w.alloc (.mapIter (some r) clk #[] clk)) := by
  have hg : (getObj r).run P w = .ok (.map es clk) w := by simp [getObj, Sem.run, hb]
  simp [Instr.range, run_underlying hT, hg, newObj, Sem.run]

theorem filter_less {α : Type} (L : List α) (p q : α → Bool) (hpq : ∀ x ∈ L, p x = true → q x = true) (x : α) (hx : x ∈ L) (hq : q x = true) (hp : p x = false) : (L.filter p).length < (L.filter q).length := by
  induction L with
  | nil => cases hx
  | cons a L ih =>
    have hle : (L.filter p).length ≤ (L.filter q).length := by
      clear ih hx
      induction L with
      | nil => simp
      | cons b L ih2 =>
        have hb := hpq b (by simp)
        have := ih2 (fun y hy => hpq y (by simp at hy ⊢; rcases hy with h | h <;> simp [h]))
        simp only [List.filter_cons]
        by_cases h1 : p b = true
        · simp [h1, hb h1]; omega
        · by_cases h2 : q b = true
          · simp [h1, h2]; omega
          · simp [h1, h2]; omega
    simp only [List.filter_cons]
    rcases List.mem_cons.1 hx with rfl | hx
    · simp [hq, hp]; omega
    · have h2 := ih (fun y hy => hpq y (by simp [hy])) hx
      have ha := hpq a (by simp)
      by_cases h1 : p a = true
      · simp [h1, ha h1]; omega
      · by_cases h2 : q a = true
        · simp [h1, h2]; omega
        · simp [h1, h2]; omega

/-- A step of an iterator over a map that nobody stores into. -/
theorem next_run {L : List (Int × Value × Nat)} {clk : Nat} (hm : MOk L clk m) {it : Nat} {seen : Array Nat} (hit : w.heap[it]? = some (.mapIter (some r) clk seen clk)) (hr : w.heap[r]? = some (.map (L.map (ment kd)).toArray clk)) (ty : TypeId) :
    ((∀ x ∈ L, x.2.2 ∈ seen) ∧ (Instr.next (.pointer (some ⟨it, 0, none⟩)) false ty).run P w = .ok (.tuple #[.bool false]) w) ∨
    (∃ x ∈ L, x.2.2 ∉ seen ∧ ∃ w', (Instr.next (.pointer (some ⟨it, 0, none⟩)) false ty).run P w = .ok (.tuple #[.bool true, .int kd x.1, x.2.1]) w' ∧
      w'.heap[it]? = some (.mapIter (some r) clk (seen.push x.2.2) clk) ∧ Keep w.heap.size [it] w w' ∧ w'.heap.size = w.heap.size ∧ unseen w' it r < unseen w it r) := by
  have hgi : ∀ w' : World, w'.heap = w.heap → (getObj it).run P w' = .ok (.mapIter (some r) clk seen clk) w' := fun w' e => by simp [getObj, Sem.run, e, hit]
  have hgr : ∀ w' : World, w'.heap = w.heap → (getObj r).run P w' = .ok (.map (L.map (ment kd)).toArray clk) w' := fun w' e => by simp [getObj, Sem.run, e, hr]
  have hlt : it < w.heap.size := (Array.getElem?_eq_some_iff.1 hit).1
  have hne : it ≠ r := by rintro rfl; rw [hit] at hr; cases hr
  have hall : (!seen.isEmpty && !(L.map (ment kd)).toArray.isEmpty && (L.map (ment kd)).toArray.all (fun e => decide (e.born ≥ clk))) = false := by
    cases L with
    | nil => simp
    | cons x L =>
      have := hm.old x (by simp)
      simp [ment]
      intro _ h
      omega
  obtain ⟨left, hleft⟩ : ∃ left, left = (L.map (ment kd)).filter fun e => !seen.contains e.born := ⟨_, rfl⟩
  have hold : left.filter (fun e => decide (e.born < clk)) = left := by
    rw [List.filter_eq_self]
    intro e he
    rw [hleft] at he
    obtain ⟨x, hx, rfl⟩ := List.mem_map.1 (List.mem_filter.1 he).1
    exact decide_eq_true (hm.old x hx)
  have hnew : left.filter (fun e => decide (e.born ≥ clk)) = [] := by
    rw [List.filter_eq_nil_iff]
    intro e he
    rw [hleft] at he
    obtain ⟨x, hx, rfl⟩ := List.mem_map.1 (List.mem_filter.1 he).1
    have := hm.old x hx
    simp [ment]; omega
  cases hl : left with
  | nil =>
    left
    have hf : (L.map (ment kd)).filter (fun e => !seen.contains e.born) = [] := by rw [← hleft, hl]
    refine ⟨?_, ?_⟩
    · intro x hx
      rw [List.filter_eq_nil_iff] at hf
      have := hf (ment kd x) (List.mem_map.2 ⟨x, hx, rfl⟩)
      simpa [ment] using this
    · have h1 : ((L.map (ment kd)).toArray.filter fun e => !seen.contains e.born) = #[] := by
        rw [List.filter_toArray, hf]
      simp only [Instr.next, Sem.run_bind, hgi w rfl, hgr w rfl, Result.andThen_ok, hall, h1]
      simp [choose, Sem.run, Question.forced]
  | cons e rest =>
    right
    have h1 : ((L.map (ment kd)).toArray.filter fun e => !seen.contains e.born) = left.toArray := by
      rw [List.filter_toArray, ← hleft]
    have h2 : (left.toArray.filter fun e => decide (e.born < clk)) = left.toArray := by rw [List.filter_toArray, hold]
    have h3 : (left.toArray.filter fun e => decide (e.born ≥ clk)) = #[] := by rw [List.filter_toArray, hnew]
    have h4 : left.toArray.isEmpty = false := by rw [hl]; rfl
    have hpos : 0 < left.length := by rw [hl]; simp
    have key : ∃ k w1, k < left.length ∧ w1.heap = w.heap ∧ w1.os = w.os ∧ w1.tape = w.tape ∧ w1.output = w.output ∧ ∀ (f : Nat → Sem Value), (choose (.mapNext left.length) >>= f).run P w = (f k).run P w1 := by
      by_cases hf : left.length ≤ 1
      · exact ⟨0, w, hpos, rfl, rfl, rfl, rfl, fun f => by simp [choose, Sem.run, Question.forced, hf, bind, Sem.bind]⟩
      · exact ⟨(Question.mapNext left.length).cut (w.tape w.drawn (.mapNext left.length)), w.drew, Nat.mod_lt _ hpos, rfl, rfl, rfl, rfl, fun f => by simp only [choose, bind, Sem.bind, Sem.run, Question.forced, decide_eq_true_eq, hf, if_false]; rfl⟩
    obtain ⟨k, w1, hk, e1, e2, e3, e4, hch⟩ := key
    have hke : left[k] ∈ left := List.getElem_mem hk
    have hke2 : left[k] ∈ (L.map (ment kd)).filter fun e => !seen.contains e.born := by rw [← hleft]; exact hke
    obtain ⟨x, hx, hxe⟩ := List.mem_map.1 (List.mem_filter.1 hke2).1
    have hns : x.2.2 ∉ seen := by
      have := (List.mem_filter.1 hke2).2
      rw [← hxe] at this
      simpa [ment] using this
    have hs1 : (setObj it (.mapIter (some r) clk (seen.push x.2.2) clk)).run P w1 = .ok () (setObjW w1 it (.mapIter (some r) clk (seen.push x.2.2) clk)) := by
      simp [setObj, Sem.run, e1, hit, setObjW]
    have hat : (setObjW w1 it (.mapIter (some r) clk (seen.push x.2.2) clk)).heap[it]? = some (.mapIter (some r) clk (seen.push x.2.2) clk) := setObjW_at (by rw [e1]; exact hlt) _
    have hat2 : (setObjW w1 it (.mapIter (some r) clk (seen.push x.2.2) clk)).heap[r]? = w.heap[r]? := by rw [setObjW_other _ (by omega), e1]
    refine ⟨x, hx, hns, setObjW w1 it (.mapIter (some r) clk (seen.push x.2.2) clk), ?_, hat, ?_, ?_, ?_⟩
    · have hsz : (((if left.toArray.isEmpty = true then #[none] else #[]) ++ Array.map some (left.toArray ++ #[]) : Array (Option MapEntry)).size) = left.length := by simp [h4]
      simp only [Instr.next, Sem.run_bind, hgi w rfl, hgr w rfl, Result.andThen_ok, hall, h1, h2, h3]
      simp only [Bool.false_eq_true, if_false, hsz]
      have := hch fun d => (match ((if left.toArray.isEmpty = true then #[none] else #[]) ++ Array.map some (left.toArray ++ #[]) : Array (Option MapEntry))[d]? with
          | some (some e) => do
            setObj it (Obj.mapIter (some r) clk (seen.push e.born) clk)
            pure (Value.tuple #[Value.bool true, e.key, e.val])
          | some none => pure (Value.tuple #[Value.bool false])
          | none => stuck "Next: no such candidate")
      refine this.trans ?_
      have hc : ((if left.toArray.isEmpty = true then #[none] else #[]) ++ Array.map some (left.toArray ++ #[]) : Array (Option MapEntry))[k]? = some (some (ment kd x)) := by
        simp [h4, hk, hxe]
      rw [hc]
      simp [ment, hs1]
    · exact ⟨e2, e3, e4, by simp [setObjW, e1], fun j hj hs => by rw [setObjW_other _ (by simpa using hs), e1]⟩
    · simp [setObjW, e1]
    · unfold unseen
      rw [hat, hat2, hit, hr]
      simp only
      refine filter_less _ _ _ (fun y hy h => ?_) (ment kd x) (by simp; exact ⟨_, _, _, hx, rfl⟩) ?_ ?_
      · simp at h ⊢; exact h.1
      · simp [ment]; exact hns
      · simp [ment]

theorem entry_run {L : List (Int × Value × Nat)} {clk : Nat} (hm : MOk L clk m) {it : Nat} {seen : Array Nat} {x : Int × Value × Nat} (hx : x ∈ L) (hit : w.heap[it]? = some (.mapIter (some r) clk (seen.push x.2.2) clk))
    (hr : w.heap[r]? = some (.map (L.map (ment kd)).toArray clk)) :
    (Instr.entry (.pointer (some ⟨it, 0, none⟩))).run P w = .ok (.tuple #[.int kd x.1, x.2.1]) w := by
  have hgi : (getObj it).run P w = .ok (.mapIter (some r) clk (seen.push x.2.2) clk) w := by simp [getObj, Sem.run, hit]
  have hgr : (getObj r).run P w = .ok (.map (L.map (ment kd)).toArray clk) w := by simp [getObj, Sem.run, hr]
  have hf : (L.map (ment kd)).find? (fun e => e.born == x.2.2) = some (ment kd x) := by
    have hb := hm.borns
    clear hm hr hgr
    induction L with
    | nil => cases hx
    | cons a L ih =>
      rw [List.map_cons, List.find?_cons]
      by_cases ha : a.2.2 = x.2.2
      · have hax : a = x := by
          rcases List.mem_cons.1 hx with rfl | hx
          · rfl
          · simp only [List.map_cons, List.nodup_cons] at hb
            exact absurd (List.mem_map.2 ⟨x, hx, ha.symm⟩) hb.1
        subst hax
        simp [ment]
      · have hne : ((ment kd a).born == x.2.2) = false := by simpa [ment] using ha
        rw [hne]
        simp only [List.map_cons, List.nodup_cons] at hb
        refine ih ?_ hb.2
        rcases List.mem_cons.1 hx with rfl | hx
        · exact absurd rfl ha
        · exact hx
  simp [Instr.entry, hgi, hgr, hf, ment]
end
end Go.Proofs.Ytaophnicdbmojaa
