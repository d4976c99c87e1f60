/-
  Opening a law's arguments: numbers, bools, slices of numbers, a struct of three numbers.
-/
import Derived.WalkKit
import Derived.ProofKit
import Derived.OpenShut
import Derived.Lib.SmallJoins
import Derived.Test.YtbdomdmnjclpdaaNvm
set_option maxRecDepth 100000
namespace Go.Proofs.Ytbdomdmnjclpdaa
open Go.ChangeShapes Go.WideShapes Go.ChangeAt Go.RowKit Go.Joins Go.WideMaps Go.WideElems Go.Deep

/-- The least and the greatest number of a kind. -/
def lowest : IntKind → Int
  | .i8 => -128 | .i16 => -32768 | .i32 => -2147483648 | .i64 => -9223372036854775808 | _ => 0
def greatest : IntKind → Int
  | .i8 => 127 | .u8 => 255 | .i16 => 32767 | .u16 => 65535 | .i32 => 2147483647 | .u32 => 4294967295 | .i64 => 9223372036854775807 | .u64 => 18446744073709551615

section
variable {H : Type} {enc : TypeId × Value → H} {P : Program} {W : World} {r : Reach} {b0 : Nat} {base : Nat} {held : Bool} {v : Value} {d : DataW H} {p : List MemPlace} {t e : TypeId}

theorem wf_bounds (k : IntKind) (a : Int) (h : (Lit.int k a).wf = true) : lowest k ≤ a ∧ a ≤ greatest k := by
  cases k <;> simp [Lit.wf, IntKind.min, IntKind.max, IntKind.signed, IntKind.bits] at h <;> simp [lowest, greatest] <;> omega

theorem open_num (k : IntKind) (hu : P.underlying t = some (.int k)) (hv : Value.okWide P W r b0 t v) (h : DataW.Trod enc P W base (fun _ => true) held t v d p) : ∃ a, v = .int k a ∧ lowest k ≤ a ∧ a ≤ greatest k := by
  obtain ⟨a, rfl, _, _, w⟩ := open_int hu hv h
  exact ⟨a, rfl, (wf_bounds k a w).1, (wf_bounds k a w).2⟩
theorem open_boolean (hu : P.underlying t = some .bool) (hv : Value.okWide P W r b0 t v) (h : DataW.Trod enc P W base (fun _ => true) held t v d p) : ∃ a, v = .bool a := by
  obtain ⟨a, rfl, _, _⟩ := open_bool hu hv h
  exact ⟨a, rfl⟩

theorem open_nums (k : IntKind) (hu : P.underlying t = some (.slice e)) (he : P.underlying e = some (.int k)) (hc : P.cellsOf e = 1) (hv : Value.okWide P W r b0 t v) (h : DataW.Trod enc P W base (fun _ => true) held t v d p) :
    ∃ xs : List Int, Rd W v (xs.map (.int k)) ∧ (∀ x ∈ xs, lowest k ≤ x ∧ x ≤ greatest k) ∧ xs.length ≤ maxLen := by
  obtain ⟨a0, len, cap, rfl⟩ := okWide_slice hu hv
  obtain ⟨fuel, hf⟩ := h
  rcases open_ints hu he hc hf with ⟨hcs, _⟩ | ⟨x, l, c, zs, hcs, _, hl, hm, hz, _, hcell, hwz⟩
  · simp [Value.cells] at hcs
    obtain ⟨rfl, rfl, rfl⟩ := hcs
    exact ⟨[], ⟨none, 0, rfl, by simp⟩, by simp, by simp⟩
  · simp [Value.cells] at hcs
    obtain ⟨rfl, rfl, rfl⟩ := hcs
    simp only [if_true] at hz
    refine ⟨zs.take len, ⟨some x, cap, by rw [List.length_map, List.length_take, hz, Nat.min_eq_left hl], fun hp => ?_⟩, ?_, ?_⟩
    · have hp' : 0 < len := by simp [List.length_take, hz] at hp; omega
      obtain ⟨b, off, spot⟩ := x
      have hc0 := hcell 0 (by omega)
      have hspot : spot = none := by simpa [Addr.add] using World.cell?_spot hc0
      subst hspot
      refine ⟨b, off, rfl, fun j u hu => ?_⟩
      have hj : j < len := by have := (List.getElem?_eq_some_iff.1 hu).1; simp [hz] at this; omega
      have := hcell j (by omega)
      rw [Addr.add_mid] at this
      rw [this]
      simp only [List.getElem?_map, List.getElem?_take, hj, if_true, List.getElem?_eq_getElem (show j < zs.length by omega), Option.map_some] at hu
      rw [← hu, List.getD_eq_getElem?_getD, List.getElem?_eq_getElem (show j < zs.length by omega)]
      rfl
    · intro y hy
      exact wf_bounds k y (hwz y (List.mem_of_mem_take hy))
    · rw [List.length_take]; omega

theorem open_three (k : IntKind) {f0 f1 f2 : Field} {u : TypeId} (hs : P.underlying t = some (.struct #[f0, f1, f2])) (hone : oneCellFields P #[f0, f1, f2] = true) (hC : P.cellsOf t = 3) (hu : P.underlying u = some (.int k)) (h0 : f0.type = u) (h1 : f1.type = u) (h2 : f2.type = u)
    (hv : Value.okWide P W r b0 t v) (h : DataW.Trod enc P W base (fun _ => true) held t v d p) :
    ∃ x y z : Int, v = .agg #[.int k x, .int k y, .int k z] ∧ (lowest k ≤ x ∧ x ≤ greatest k) ∧ (lowest k ≤ y ∧ y ≤ greatest k) ∧ (lowest k ≤ z ∧ z ≤ greatest k) := by
  obtain ⟨c0, c1, c2, y0, y1, y2, m, rfl, _, _, hy0, hy1, hy2⟩ := open_agg3 hs hone hC hv h
  rw [h0] at hy0
  rw [h1] at hy1
  rw [h2] at hy2
  obtain ⟨x, e0, _, w0⟩ := DataW.trod_int hu hy0
  obtain ⟨y, e1, _, w1⟩ := DataW.trod_int hu hy1
  obtain ⟨z, e2, _, w2⟩ := DataW.trod_int hu hy2
  simp at e0 e1 e2
  subst e0 e1 e2
  exact ⟨x, y, z, rfl, wf_bounds k x w0, wf_bounds k y w1, wf_bounds k z w2⟩
end
end Go.Proofs.Ytbdomdmnjclpdaa
