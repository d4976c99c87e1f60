/-
  Arrays of two and of four integers, as arguments.
-/
import Derived.Laws.IdiomArrays
import Derived.Test.YtaophnicdbmojaaOpen
set_option linter.unusedSimpArgs false
set_option linter.unusedVariables false
set_option maxRecDepth 100000
namespace Go.Proofs.Ytaophnicdbmojaa
open Go.ChangeShapes Go.WideShapes Go.ChangeAt Go.RowKit Go.Joins

section
variable {H : Type} {enc : TypeId × Value → H} {P : Program} {W : World} {base : Nat} {held : Bool} {r : Reach} {b0 : Nat} {t e : TypeId} {v : Value} {d : DataW H} {p : List MemPlace}

theorem trod_array2 {fuel : Nat} {c0 c1 : Value} {x : DataW H × List MemPlace} (ht : P.underlying t = some (.array 2 e)) (hce : P.cellsOf e = 1)
    (h : DataW.trod enc P W base (fun _ => true) held fuel t [c0, c1] = some x) :
    ∃ y0 y1 n, x = (.agg [y0.1, y1.1], y0.2 ++ y1.2) ∧ DataW.trod enc P W base (fun _ => true) held n e [c0] = some y0 ∧ DataW.trod enc P W base (fun _ => true) held n e [c1] = some y1 := by
  cases fuel with
  | zero => simp [DataW.trod] at h
  | succ n =>
    unfold DataW.trod at h
    rw [ht] at h
    have r3 : List.range 2 = [0, 1] := rfl
    simp [r3, hce] at h
    obtain ⟨_, h⟩ := h
    cases h0 : DataW.trod enc P W base (fun _ => true) held n e [c0] with
    | none => simp [h0] at h
    | some y0 =>
      cases h1 : DataW.trod enc P W base (fun _ => true) held n e [c1] with
      | none => simp [h0, h1] at h
      | some y1 =>
        simp [h0, h1] at h
        exact ⟨y0, y1, n, h.symm, h0, h1⟩

theorem okWide_array {n : Nat} (hu : P.underlying t = some (.array n e)) (h : Value.okWide P W r b0 t v) : ∃ xs : Array Value, v = .agg xs ∧ xs.size = P.cellsOf t := by
  simp only [Value.okWide, hu] at h
  obtain ⟨cs, h1, h2, _⟩ := h
  exact ⟨cs, h1, h2⟩

theorem open_arr2 (k : IntKind) (hu : P.underlying t = some (.array 2 e)) (hC : P.cellsOf t = 2) (he : P.underlying e = some (.int k)) (hce : P.cellsOf e = 1) (hv : Value.okWide P W r b0 t v) (h : DataW.Trod enc P W base (fun _ => true) held t v d p) :
    ∃ x y : Int, v = .agg #[.int k x, .int k y] ∧ (lowest k ≤ x ∧ x ≤ greatest k) ∧ (lowest k ≤ y ∧ y ≤ greatest k) := by
  obtain ⟨cs, rfl, hsz⟩ := okWide_array hu hv
  rw [hC] at hsz
  obtain ⟨c0, c1, rfl⟩ : ∃ c0 c1, cs = #[c0, c1] := by
    rcases cs with ⟨l⟩
    match l, hsz with
    | [a, b], _ => exact ⟨a, b, rfl⟩
  obtain ⟨fuel, hf⟩ := h
  obtain ⟨y0, y1, n, _, h0, h1⟩ := trod_array2 hu hce (by simpa [Value.cells] using hf)
  obtain ⟨x, e0, _, w0⟩ := DataW.trod_int he h0
  obtain ⟨y, e1, _, w1⟩ := DataW.trod_int he h1
  simp at e0 e1
  subst e0 e1
  exact ⟨x, y, rfl, wf_bounds k x w0, wf_bounds k y w1⟩
theorem open_arr4 (k : IntKind) (hu : P.underlying t = some (.array 4 e)) (hC : P.cellsOf t = 4) (he : P.underlying e = some (.int k)) (hce : P.cellsOf e = 1) (hv : Value.okWide P W r b0 t v) (h : DataW.Trod enc P W base (fun _ => true) held t v d p) :
    ∃ x y z u : Int, v = .agg #[.int k x, .int k y, .int k z, .int k u] ∧ (lowest k ≤ x ∧ x ≤ greatest k) ∧ (lowest k ≤ y ∧ y ≤ greatest k) ∧ (lowest k ≤ z ∧ z ≤ greatest k) ∧ (lowest k ≤ u ∧ u ≤ greatest k) := by
  obtain ⟨cs, rfl, hsz⟩ := okWide_array hu hv
  rw [hC] at hsz
  obtain ⟨c0, c1, c2, c3, rfl⟩ : ∃ c0 c1 c2 c3, cs = #[c0, c1, c2, c3] := by
    rcases cs with ⟨l⟩
    match l, hsz with
    | [a, b, c, d], _ => exact ⟨a, b, c, d, rfl⟩
  obtain ⟨fuel, hf⟩ := h
  obtain ⟨y0, y1, y2, y3, n, _, h0, h1, h2, h3⟩ := trod_array4 hu hce (by simpa [Value.cells] using hf)
  obtain ⟨x, e0, _, w0⟩ := DataW.trod_int he h0
  obtain ⟨y, e1, _, w1⟩ := DataW.trod_int he h1
  obtain ⟨z, e2, _, w2⟩ := DataW.trod_int he h2
  obtain ⟨u, e3, _, w3⟩ := DataW.trod_int he h3
  simp at e0 e1 e2 e3
  subst e0 e1 e2 e3
  exact ⟨x, y, z, u, rfl, wf_bounds k x w0, wf_bounds k y w1, wf_bounds k z w2, wf_bounds k u w3⟩
end
end Go.Proofs.Ytaophnicdbmojaa
