/-
  Maps whose keys are told by a number each: KeyFn says what is asked of such keys; here of structs of two numbers.
-/
import Derived.Laws.StructEq
import Derived.Test.YtaophnicdbmojaaRelS
set_option linter.unusedSimpArgs false
set_option linter.unusedVariables false
set_option maxRecDepth 100000
namespace Go.Proofs.Ytaophnicdbmojaa
open Go.RowKit

def mentK (kv : Int → Value) (x : Int × Value × Nat) : MapEntry := { key := kv x.1, val := x.2.1, born := x.2.2 }
structure KeyFn (P : Program) (K : TypeId) (kv : Int → Value) : Prop where
  find : ∀ (k : Int) (L : List (Int × Value × Nat)) (w : World), (Instr.findKey K (kv k) (L.map (mentK kv))).run P w = .ok ((L.findIdx? fun x => x.1 == k).bind fun j => (L[j]?).map fun x => (j, x.2.1)) w
  check : ∀ (b : Bool) (k : Int) (w : World), (Instr.checkKey b 10000 K (kv k)).run P w = .ok () w
  stays : ∀ (k : Int) (w : World), (Instr.keyThatStays (kv k) (kv k)).run P w = .ok (kv k) w
/-- Block r is a map that holds just m. -/
def KMap (w : World) (r : Nat) (kv : Int → Value) (m : Int → Option Value) : Prop :=
  ∃ L clk, w.heap[r]? = some (.map (L.map (mentK kv)).toArray clk) ∧ MOk L clk m

section
variable {w w' : World} {r : Nat} {kv : Int → Value} {m : Int → Option Value}
theorem KMap.lt (h : KMap w r kv m) : r < w.heap.size := by
  obtain ⟨L, clk, hq, _⟩ := h
  exact (Array.getElem?_eq_some_iff.1 hq).1
theorem KMap.same (h : KMap w r kv m) (he : w'.heap[r]? = w.heap[r]?) : KMap w' r kv m := by
  obtain ⟨L, clk, hq, h'⟩ := h
  exact ⟨L, clk, he.trans hq, h'⟩
theorem KMap.keep (h : KMap w r kv m) {n : Nat} {S : List Nat} (hk : Keep n S w w') (hr : r < n) (hS : r ∉ S) : KMap w' r kv m := h.same (hk.block r hr hS)
theorem KMap.new (w : World) (kv : Int → Value) : KMap (w.alloc (.map #[] 0)) w.heap.size kv (fun _ => none) :=
  ⟨[], 0, heap_alloc_new w _, ⟨by simp, by simp, by simp, by simp⟩⟩
end
section
variable {P : Program} {w : World} {r : Nat} {kv : Int → Value} {m : Int → Option Value} {K E T : TypeId}
theorem findKeyK_run (hK : KeyFn P K kv) {L : List (Int × Value × Nat)} {clk : Nat} (h : MOk L clk m) (k : Int) (w : World) :
    (m k = none ∧ (Instr.findKey K (kv k) (L.map (mentK kv))).run P w = .ok none w) ∨
    (∃ j v b, m k = some v ∧ L[j]? = some (k, v, b) ∧ (Instr.findKey K (kv k) (L.map (mentK kv))).run P w = .ok (some (j, v)) w) := by
  rcases h.at_ k with ⟨h1, h2⟩ | ⟨j, v, b, h1, h2, h3⟩
  · refine .inl ⟨h1, ?_⟩
    rw [hK.find, h2]; rfl
  · refine .inr ⟨j, v, b, h1, h3, ?_⟩
    rw [hK.find, h2]
    simp [h3]
/-- A look-up. -/
theorem lookup_okK (h : KMap w r kv m) (hT : P.underlying T = some (.map K E)) (hK : KeyFn P K kv) (k : Int) {z : Value} (hz : (zeroValue E).run P w = .ok z w) :
    (Instr.lookup T (.map (some r)) (kv k) true).run P w = .ok (.tuple #[(m k).getD z, .bool (m k).isSome]) w := by
  obtain ⟨L, clk, hb, hm⟩ := h
  have hg : (getObj r).run P w = .ok (.map (L.map (mentK kv)).toArray clk) w := by simp [getObj, Sem.run, hb]
  rcases findKeyK_run (P := P) hK hm k w with ⟨h1, h2⟩ | ⟨j, v, b, h1, h2, h3⟩
  · simp [Instr.lookup, run_underlying hT, hg, hK.check, h2, hz, h1]
  · simp [Instr.lookup, run_underlying hT, hg, hK.check, h3, h1]
theorem lookup_anyK (h : KMap w r kv m) (hT : P.underlying T = some (.map K E)) (hK : KeyFn P K kv) (k : Int) {z : Value} (hz : (zeroValue E).run P w = .ok z w) :
    (Instr.lookup T (.map (some r)) (kv k) false).run P w = .ok ((m k).getD z) w := by
  obtain ⟨L, clk, hb, hm⟩ := h
  have hg : (getObj r).run P w = .ok (.map (L.map (mentK kv)).toArray clk) w := by simp [getObj, Sem.run, hb]
  rcases findKeyK_run (P := P) hK hm k w with ⟨h1, h2⟩ | ⟨j, v, b, h1, h2, h3⟩
  · simp [Instr.lookup, run_underlying hT, hg, hK.check, h2, hz, h1]
  · simp [Instr.lookup, run_underlying hT, hg, hK.check, h3, h1]

/-- A store. -/
theorem update_runK (h : KMap w r kv m) (hT : P.underlying T = some (.map K E)) (hK : KeyFn P K kv) (k : Int) (v : Value) :
    ∃ o, (Instr.mapUpdate T (.map (some r)) (kv k) v).run P w = .ok () (setObjW w r o) ∧ KMap (setObjW w r o) r kv (mset m k v) := by
  have hlt := h.lt
  obtain ⟨L, clk, hb, hm⟩ := h
  have hg : (getObj r).run P w = .ok (.map (L.map (mentK kv)).toArray clk) w := by simp [getObj, Sem.run, hb]
  have hs : ∀ o, (setObj r o).run P w = .ok () (setObjW w r o) := fun o => by simp [setObj, Sem.run, hb, setObjW]
  rcases findKeyK_run (P := P) hK hm k w with ⟨h1, h2⟩ | ⟨j, u, b, h1, h2, h3⟩
  · refine ⟨.map (L.map (mentK kv) ++ [({ key := kv k, val := v, born := clk } : MapEntry)]).toArray (clk + 1), by simp [Instr.mapUpdate, run_underlying hT, hg, hK.check, h2, hs], L ++ [(k, v, clk)], clk + 1, ?_, ?_⟩
    · rw [setObjW_at hlt]
      simp [mentK]
    · have hnk : ∀ x ∈ L, x.1 ≠ k := by
        rintro ⟨a, c, e⟩ hx rfl
        rw [(hm.has a c).2 ⟨e, hx⟩] at h1
        cases h1
      refine ⟨?_, ?_, ?_, ?_⟩
      · rw [List.map_append, List.nodup_append]
        refine ⟨hm.keys, by simp, ?_⟩
        intro a ha c hc
        simp at hc
        subst hc
        obtain ⟨x, hx, rfl⟩ := List.mem_map.1 ha
        exact hnk x hx
      · rw [List.map_append, List.nodup_append]
        refine ⟨hm.borns, by simp, ?_⟩
        intro a ha c hc
        simp at hc
        subst hc
        obtain ⟨x, hx, rfl⟩ := List.mem_map.1 ha
        have := hm.old x hx
        omega
      · intro x hx
        rcases List.mem_append.1 hx with hx | hx
        · have := hm.old x hx; omega
        · simp at hx; subst hx; simp
      · intro j u
        unfold mset
        by_cases hj : j = k
        · subst hj
          simp only [if_true, Option.some.injEq, List.mem_append, List.mem_singleton, Prod.mk.injEq, true_and]
          constructor
          · rintro rfl; exact ⟨clk, .inr ⟨rfl, rfl⟩⟩
          · rintro ⟨b, hb | ⟨rfl, _⟩⟩
            · exact absurd rfl (hnk _ hb)
            · rfl
        · simp only [hj, if_false, hm.has, List.mem_append, List.mem_singleton, Prod.mk.injEq, false_and, or_false]
  · have hj : j < L.length := (List.getElem?_eq_some_iff.1 h2).1
    have hLj : L[j] = (k, u, b) := (List.getElem?_eq_some_iff.1 h2).2
    refine ⟨.map ((L.map (mentK kv)).modify j fun e => { e with key := kv k, val := v }).toArray clk, by simp [Instr.mapUpdate, run_underlying hT, hg, hK.check, h3, hs, h2, mentK, hK.stays], L.set j (k, v, b), clk, ?_, ?_⟩
    · rw [setObjW_at hlt]
      congr 3
      rw [List.map_set]
      apply List.ext_getElem?
      intro i
      rw [List.getElem?_modify, List.getElem?_set]
      by_cases hij : j = i
      · subst hij
        simp [mentK, hj, hLj]
      · simp [hij]
    · have hk1 : (L.set j (k, v, b)).map (·.1) = L.map (·.1) := by
        rw [List.map_set]
        apply List.ext_getElem?
        intro i
        rw [List.getElem?_set]
        by_cases hij : j = i
        · subst hij; simp [hj, hLj]
        · simp [hij]
      have hk2 : (L.set j (k, v, b)).map (·.2.2) = L.map (·.2.2) := by
        rw [List.map_set]
        apply List.ext_getElem?
        intro i
        rw [List.getElem?_set]
        by_cases hij : j = i
        · subst hij; simp [hj, hLj]
        · simp [hij]
      refine ⟨hk1 ▸ hm.keys, hk2 ▸ hm.borns, ?_, ?_⟩
      · intro x hx
        rcases List.mem_or_eq_of_mem_set hx with hx | rfl
        · exact hm.old x hx
        · exact hm.old (k, u, b) (hLj ▸ List.getElem_mem hj)
      · intro i y
        unfold mset
        have hone : ∀ x ∈ L, x.1 = k → x = (k, u, b) := by
          intro x hx hxk
          obtain ⟨i, hi, rfl⟩ := List.mem_iff_getElem.1 hx
          have e : (L.map (·.1))[i]'(by simpa using hi) = (L.map (·.1))[j]'(by simpa using hj) := by simp [hxk, hLj]
          have := nodup_inj hm.keys e
          subst this
          exact hLj
        by_cases hik : i = k
        · subst hik
          simp only [if_true, Option.some.injEq]
          constructor
          · rintro rfl; exact ⟨b, List.mem_iff_getElem.2 ⟨j, by simpa using hj, by simp⟩⟩
          · rintro ⟨b', hb'⟩
            rcases List.mem_or_eq_of_mem_set hb' with hx | hx
            · obtain ⟨n, hn, e⟩ := List.mem_iff_getElem.1 hb'
              rw [List.getElem_set] at e
              by_cases hjn : j = n
              · subst hjn; simp at e; exact e.1
              · simp only [hjn, if_false] at e
                have e2 : (L.map (·.1))[n]'(by simpa using hn) = (L.map (·.1))[j]'(by simpa using hj) := by simp [e, hLj]
                exact absurd (nodup_inj hm.keys e2).symm hjn
            · injection hx with _ hx; injection hx with hx _; exact hx.symm
        · simp only [hik, if_false, hm.has]
          constructor
          · rintro ⟨c, hc⟩
            refine ⟨c, ?_⟩
            obtain ⟨n, hn, e⟩ := List.mem_iff_getElem.1 hc
            refine List.mem_iff_getElem.2 ⟨n, by simpa using hn, ?_⟩
            rw [List.getElem_set]
            by_cases hjn : j = n
            · subst hjn; rw [hLj] at e; injection e with e _; exact absurd e.symm hik
            · simp [hjn, e]
          · rintro ⟨c, hc⟩
            rcases List.mem_or_eq_of_mem_set hc with hx | hx
            · exact ⟨c, hx⟩
            · injection hx with hx _; exact absurd hx hik

theorem update_keepK (h : KMap w r kv m) (hT : P.underlying T = some (.map K E)) (hK : KeyFn P K kv) (k : Int) (v : Value) :
    ∃ w', (Instr.mapUpdate T (.map (some r)) (kv k) v).run P w = .ok () w' ∧ KMap w' r kv (mset m k v) ∧ Keep w.heap.size [r] w w' ∧ w'.heap.size = w.heap.size := by
  obtain ⟨o, h1, h2⟩ := update_runK h hT hK k v
  exact ⟨_, h1, h2, (Keep.refl _ _ _).setObj (by simp) o, setObjW_size o⟩

end

/-- A pair's key. -/
def kPair (z : Int) : Value := .agg #[.int .i64 (z / 8), .int .i64 (z % 8)]
theorem kPair_beq (x z : Int) : ((x / 8 == z / 8) && (x % 8 == z % 8)) = (z == x) := by
  rw [Bool.eq_iff_iff, Bool.and_eq_true, beq_iff_eq, beq_iff_eq, beq_iff_eq]
  omega
theorem field_struct : Try.prog.underlying 95 = some (.struct (Try.prog.fieldsOf 95)) := by kernel_rfl
theorem field_held : Try.prog.stoodInHeld 95 = false := by kernel_rfl
theorem field_fields : ∃ f0 f1 : Field, Try.prog.fieldsOf 95 = #[f0, f1] ∧ (f0.type = 3 ∧ f1.type = 3) ∧ (f0.offset = 0 ∧ f1.offset = 1) ∧ f0.name = "at" ∧ f1.name = "i" := ⟨_, _, rfl, ⟨rfl, rfl⟩, ⟨rfl, rfl⟩, rfl, rfl⟩
theorem int_intK : Try.prog.underlying 3 = some (.int .i64) := by kernel_rfl
theorem equal_pair (x z : Int) (w : World) : (Op.equal 95 (kPair x) (kPair z)).run Try.prog w = .ok (z == x) w := by
  obtain ⟨f0, f1, hf, ⟨h0, h1⟩, ⟨o0, o1⟩, n0, n1⟩ := field_fields
  have hp0 : ∀ x y (w : World), (part 3 #[x, y] 0).run Try.prog w = .ok x w := fun x y w => by kernel_rfl
  have hp1 : ∀ x y (w : World), (part 3 #[x, y] 1).run Try.prog w = .ok y w := fun x y w => by kernel_rfl
  unfold kPair
  show (Op.equalIn (9999 + 1) _ _ _).run _ _ = _
  rw [run_equalIn_agg w 9999 95 _ _ field_struct field_held, hf, ← kPair_beq]
  simp [Op.eqFields, h0, h1, o0, o1, n0, n1, hp0, hp1, run_equalIn_int, int_intK]
  by_cases e1 : x / 8 = z / 8 <;> by_cases e2 : x % 8 = z % 8 <;> simp [e1, e2]
theorem ask_pair (k : Int) (w : World) : ∀ (L : List (Int × Value × Nat)) (i : Nat), (Instr.findAsking 95 (kPair k) (L.map (mentK kPair)) i).run Try.prog w = .ok ((L.findIdx? fun x => x.1 == k).bind fun j => (L[j]?).map fun x => (i + j, x.2.1)) w := by
  intro L
  induction L with
  | nil => intro i; simp [Instr.findAsking]
  | cons x L ih =>
    intro i
    simp only [List.map_cons, Instr.findAsking, mentK, Sem.run_bind, equal_pair, Result.andThen_ok]
    by_cases hx : x.1 = k
    · subst hx
      simp [List.findIdx?_cons]
    · have hb : (x.1 == k) = false := by simp [hx]
      simp only [hb, Bool.false_eq_true, if_false]
      have := ih (i + 1)
      rw [this, List.findIdx?_cons, hb]
      cases hf : L.findIdx? fun x => x.1 == k with
      | none => simp
      | some j => simp [Nat.add_assoc, Nat.add_comm 1 j]
theorem field_key : KeyFn Try.prog 95 kPair := by
  refine ⟨?_, ?_, ?_⟩
  · intro k L w
    cases L with
    | nil => simp [Instr.findKey, run_underlying field_struct, Instr.findNow]
    | cons x L =>
      have h := ask_pair k w (x :: L) 0
      simp only [Nat.zero_add] at h
      rw [← h]
      simp [Instr.findKey, run_underlying field_struct, Instr.findNow, Instr.sameNow, kPair, mentK]
  · intro b k w
    kernel_rfl
  · intro k w
    simp [Instr.keyThatStays, kPair, Instr.sameBits]
end Go.Proofs.Ytaophnicdbmojaa
