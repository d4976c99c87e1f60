/-
  Small heads, and slices of these, as arguments.
-/
import Derived.Lib.SmallJoins
import Derived.Test.YtbdomdmnjclpdaaOpen
set_option linter.unusedSimpArgs false
set_option linter.unusedVariables false
set_option maxRecDepth 100000
namespace Go.Proofs.Ytbdomdmnjclpdaa
open Go.ChangeShapes Go.WideShapes Go.ChangeAt Go.RowKit Go.Joins Go.WideMaps Go.WideElems Go.Deep

structure HV where
  rf : Int
  wd : Int
structure HV.Ok (x : HV) : Prop where
  r0 : 0 ≤ x.rf
  r1 : x.rf ≤ 255
  w0 : 0 ≤ x.wd
  w1 : x.wd ≤ 255

/-- A slice that reads as these. -/
def RdH (w : World) (v : Value) (l : List HV) : Prop :=
  ∃ A c, v = .slice A l.length c ∧ ∀ (j : Nat) (x : HV), l[j]? = some x → ∃ g off, A = some ⟨g, off, none⟩ ∧ w.cell? ⟨g, off + 2 * j, none⟩ = some (.int .u8 x.rf) ∧ w.cell? ⟨g, off + (2 * j + 1), none⟩ = some (.int .u8 x.wd)

theorem RdH.keep {w w' : World} {v : Value} {l : List HV} (h : RdH w v l) (hk : Keep w.heap.size [] w w') : RdH w' v l := by
  obtain ⟨A, c, rfl, h⟩ := h
  refine ⟨A, c, rfl, fun j x hx => ?_⟩
  obtain ⟨g, off, rfl, h0, h1⟩ := h j x hx
  have e : ∀ o, w'.cell? ⟨g, o, none⟩ = w.cell? ⟨g, o, none⟩ := fun o => World.cell?_of_block (hk.block g (World.block_lt_of_cell? w _ h0) (by simp))
  exact ⟨g, off, rfl, (e _).trans h0, (e _).trans h1⟩

theorem h_fields : ∃ f0 f1 : Field, Try.prog.underlying 61 = some (.struct #[f0, f1]) ∧ (f0.type = 5 ∧ f1.type = 5) ∧ f0.offset = 0 ∧ f1.offset = 1 ∧ oneCellFields Try.prog #[f0, f1] = true :=
  ⟨_, _, rfl, ⟨rfl, rfl⟩, rfl, rfl, by kernel_rfl⟩

section
variable {H : Type} {enc : TypeId × Value → H} {W : World} {r : Reach} {b0 : Nat} {base : Nat} {held : Bool} {v : Value} {d : DataW H} {p : List MemPlace}

theorem one_of2' {n fuel : Nat} {t : TypeId} {k : IntKind} {cs : List Value} {y : DataW H × List MemPlace} (ht : Try.prog.underlying t = some (.int k)) (hc : Try.prog.cellsOf t = 1) (h : DataW.trod enc Try.prog W base (fun _ => true) held fuel t ((cs.drop n).take (Try.prog.cellsOf t)) = some y) :
    ∃ x, cs[n]? = some (.int k x) ∧ lowest k ≤ x ∧ x ≤ greatest k := by
  rw [hc] at h
  obtain ⟨x, e, _, hw⟩ := DataW.trod_int ht h
  refine ⟨x, ?_, wf_bounds k x hw⟩
  have := congrArg (fun l => l[0]?) e
  simpa [List.getElem?_take, List.getElem?_drop] using this

theorem open_h (hv : Value.okWide Try.prog W r b0 61 v) (h : DataW.Trod enc Try.prog W base (fun _ => true) held 61 v d p) :
    ∃ x y : Int, v = .agg #[.int .u8 x, .int .u8 y] ∧ (lowest .u8 ≤ x ∧ x ≤ greatest .u8) ∧ (lowest .u8 ≤ y ∧ y ≤ greatest .u8) := by
  obtain ⟨f0, f1, hS, ⟨t0, t1⟩, o0, o1, hone⟩ := h_fields
  obtain ⟨c0, c1, y0, y1, m, rfl, _, _, hy0, hy1⟩ := open_agg2 hS hone (by kernel_rfl) hv h
  rw [t0] at hy0
  rw [t1] at hy1
  obtain ⟨x, e0, _, w0⟩ := DataW.trod_int (k := .u8) (by kernel_rfl) hy0
  obtain ⟨y, e1, _, w1⟩ := DataW.trod_int (k := .u8) (by kernel_rfl) hy1
  simp at e0 e1
  subst e0 e1
  exact ⟨x, y, rfl, wf_bounds .u8 x w0, wf_bounds .u8 y w1⟩

theorem open_hs (hv : Value.okWide Try.prog W r b0 25 v) (h : DataW.Trod enc Try.prog W base (fun _ => true) held 25 v d p) :
    ∃ l : List HV, RdH W v l ∧ (∀ x ∈ l, x.Ok) ∧ l.length ≤ maxLen := by
  obtain ⟨a0, len, cap, rfl⟩ := okWide_slice (show Try.prog.underlying 25 = some (.slice 61) by kernel_rfl) hv
  obtain ⟨fuel, hf⟩ := h
  rcases DataW.trod_slice (show Try.prog.underlying 25 = some (.slice 61) by kernel_rfl) hf with ⟨hcs, _⟩ | ⟨a, len', cap', elems, rest, n, _, hcs, _, _, hl, hm, hlen, hel, _, _⟩
  · simp [Value.cells] at hcs
    obtain ⟨rfl, rfl, rfl⟩ := hcs
    exact ⟨[], ⟨none, 0, rfl, by simp⟩, by simp, by simp⟩
  · simp [Value.cells] at hcs
    obtain ⟨rfl, rfl, rfl⟩ := hcs
    obtain ⟨f0, f1, hS, ⟨t0, t1⟩, o0, o1, hone⟩ := h_fields
    have hC : Try.prog.cellsOf 61 = 2 := by kernel_rfl
    by_cases h0 : len = 0
    · subst h0
      exact ⟨[], ⟨some a, cap, rfl, by simp⟩, by simp, by simp⟩
    have hspot : a.spot = none := by
      have h1 := hel 0 (by omega)
      rw [List.getElem?_eq_getElem (by omega), hC, Option.bind_eq_some_iff] at h1
      obtain ⟨cs', hcs, hy⟩ := h1
      obtain ⟨_, hl4, hcell⟩ := World.cells?_some hcs
      have k0 := hcell 0 (by omega)
      rw [List.getElem?_eq_getElem (by omega)] at k0
      have := World.cell?_spot k0
      simpa [Addr.add] using this
    obtain ⟨b, off, spot⟩ := a
    simp only at hspot
    subst hspot
    have each : ∀ i, i < len → ∃ x : HV, x.Ok ∧ W.cell? ((⟨b, off, none⟩ : Addr).add (2 * i)) = some (.int .u8 x.rf) ∧ W.cell? ((⟨b, off, none⟩ : Addr).add (2 * i + 1)) = some (.int .u8 x.wd) := by
      intro i hi
      have h1 := hel i hi
      rw [List.getElem?_eq_getElem (by omega), hC, Option.bind_eq_some_iff] at h1
      obtain ⟨cs', hcs, hy⟩ := h1
      obtain ⟨y0, y1, m, _, _, g0, g1⟩ := trod_struct2 hS hy
      rw [t0, o0] at g0
      rw [t1, o1] at g1
      obtain ⟨x0, e0, l0, u0⟩ := one_of2' (k := .u8) (by kernel_rfl) (by kernel_rfl) g0
      obtain ⟨x1, e1, l1, u1⟩ := one_of2' (k := .u8) (by kernel_rfl) (by kernel_rfl) g1
      obtain ⟨_, _, hcell⟩ := World.cells?_some hcs
      have ha : ∀ j, ((⟨b, off, none⟩ : Addr).add (i * 2)).add j = (⟨b, off, none⟩ : Addr).add (2 * i + j) := fun j => by
        rw [add_plain, add_plain, add_plain]
        congr 1
        omega
      have k0 := hcell 0 (by omega)
      have k1 := hcell 1 (by omega)
      rw [ha, e0] at k0
      rw [ha, e1] at k1
      exact ⟨⟨x0, x1⟩, ⟨l0, u0, l1, u1⟩, k0, k1⟩
    let pick : Nat → HV := fun i => if hi : i < len then Classical.choose (each i hi) else ⟨0, 0⟩
    have hp : ∀ i, i < len → (pick i).Ok ∧ W.cell? ((⟨b, off, none⟩ : Addr).add (2 * i)) = some (.int .u8 (pick i).rf) ∧ W.cell? ((⟨b, off, none⟩ : Addr).add (2 * i + 1)) = some (.int .u8 (pick i).wd) := by
      intro i hi
      have e : pick i = Classical.choose (each i hi) := dif_pos hi
      rw [e]
      exact Classical.choose_spec (each i hi)
    refine ⟨(List.range len).map pick, ⟨some ⟨b, off, none⟩, cap, by simp, fun j x hx => ?_⟩, ?_, by simp; omega⟩
    · have hj : j < len := by have := (List.getElem?_eq_some_iff.1 hx).1; simpa using this
      simp [hj] at hx
      subst hx
      obtain ⟨_, k0, k1⟩ := hp j hj
      rw [add_plain] at k0 k1
      exact ⟨b, off, rfl, k0, k1⟩
    · intro x hx
      obtain ⟨i, hi, rfl⟩ := List.mem_map.1 hx
      exact (hp i (List.mem_range.1 hi)).1
end
end Go.Proofs.Ytbdomdmnjclpdaa
