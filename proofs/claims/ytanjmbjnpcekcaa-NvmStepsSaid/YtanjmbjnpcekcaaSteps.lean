/-
  A slice of steps, as an argument.
-/
import Derived.Lib.SmallJoins
import Derived.Test.YtanjmbjnpcekcaaOpen
set_option linter.unusedSimpArgs false
set_option linter.unusedVariables false
namespace Go.Proofs.Ytanjmbjnpcekcaa
open Go.ChangeShapes Go.WideShapes Go.ChangeAt Go.RowKit Go.Joins Go.WideMaps Go.WideElems Go.Deep

structure Stp where
  dO : Int
  at_ : Int
  v : Int
  bt : Int
def Stp.val (x : Stp) : Value := .agg #[.int .u8 x.dO, .int .u8 x.at_, .int .u64 x.v, .int .u64 x.bt]
structure Stp.Ok (x : Stp) : Prop where
  d0 : 0 ≤ x.dO
  d1 : x.dO ≤ 255
  a0 : 0 ≤ x.at_
  a1 : x.at_ ≤ 255
  v0 : 0 ≤ x.v
  v1 : x.v ≤ 18446744073709551615
  b0 : 0 ≤ x.bt
  b1 : x.bt ≤ 18446744073709551615

/-- A slice that reads as these steps. -/
def RdS (w : World) (v : Value) (l : List Stp) : Prop :=
  ∃ A c, v = .slice A l.length c ∧ ∀ (j : Nat) (x : Stp), l[j]? = some x → ∃ g off, A = some ⟨g, off, none⟩ ∧ w.cell? ⟨g, off + 4 * j, none⟩ = some (.int .u8 x.dO) ∧ w.cell? ⟨g, off + (4 * j + 1), none⟩ = some (.int .u8 x.at_) ∧
    w.cell? ⟨g, off + (4 * j + 2), none⟩ = some (.int .u64 x.v) ∧ w.cell? ⟨g, off + (4 * j + 3), none⟩ = some (.int .u64 x.bt)

theorem RdS.keep {w w' : World} {v : Value} {l : List Stp} (h : RdS w v l) (hk : Keep w.heap.size [] w w') : RdS w' v l := by
  obtain ⟨A, c, rfl, h⟩ := h
  refine ⟨A, c, rfl, fun j x hx => ?_⟩
  obtain ⟨g, off, rfl, h0, h1, h2, h3⟩ := h j x hx
  have e : ∀ o, w'.cell? ⟨g, o, none⟩ = w.cell? ⟨g, o, none⟩ := fun o => World.cell?_of_block (hk.block g (World.block_lt_of_cell? w _ h0) (by simp))
  exact ⟨g, off, rfl, (e _).trans h0, (e _).trans h1, (e _).trans h2, (e _).trans h3⟩

theorem step_fields : ∃ f0 f1 f2 f3 : Field, Try.prog.underlying 58 = some (.struct #[f0, f1, f2, f3]) ∧ (f0.type = 5 ∧ f1.type = 5 ∧ f2.type = 25 ∧ f3.type = 25) ∧ f0.offset = 0 ∧ f1.offset = 1 ∧ f2.offset = 2 ∧ f3.offset = 3 :=
  ⟨_, _, _, _, rfl, ⟨rfl, rfl, rfl, rfl⟩, rfl, rfl, rfl, rfl⟩

section
variable {H : Type} {enc : TypeId × Value → H} {W : World} {r : Reach} {b0 : Nat} {base : Nat} {held : Bool} {v : Value} {d : DataW H} {p : List MemPlace}

theorem one_of {n fuel : Nat} {t : TypeId} {k : IntKind} {cs : List Value} {y : DataW H × List MemPlace} (ht : Try.prog.underlying t = some (.int k)) (hc : Try.prog.cellsOf t = 1) (h : DataW.trod enc Try.prog W base (fun _ => true) held fuel t ((cs.drop n).take (Try.prog.cellsOf t)) = some y) :
    ∃ x, cs[n]? = some (.int k x) ∧ lowest k ≤ x ∧ x ≤ greatest k := by
  rw [hc] at h
  obtain ⟨x, e, _, hw⟩ := DataW.trod_int ht h
  refine ⟨x, ?_, wf_bounds k x hw⟩
  have := congrArg (fun l => l[0]?) e
  simpa [List.getElem?_take, List.getElem?_drop] using this

theorem open_steps (hv : Value.okWide Try.prog W r b0 53 v) (h : DataW.Trod enc Try.prog W base (fun _ => true) held 53 v d p) :
    ∃ l : List Stp, RdS W v l ∧ (∀ x ∈ l, x.Ok) ∧ l.length ≤ maxLen := by
  obtain ⟨a0, len, cap, rfl⟩ := okWide_slice (show Try.prog.underlying 53 = some (.slice 58) by kernel_rfl) hv
  obtain ⟨fuel, hf⟩ := h
  rcases DataW.trod_slice (show Try.prog.underlying 53 = some (.slice 58) by kernel_rfl) hf with ⟨hcs, _⟩ | ⟨a, len', cap', elems, rest, n, _, hcs, _, _, hl, hm, hlen, hel, _, _⟩
  · simp [Value.cells] at hcs
    obtain ⟨rfl, rfl, rfl⟩ := hcs
    exact ⟨[], ⟨none, 0, rfl, by simp⟩, by simp, by simp⟩
  · simp [Value.cells] at hcs
    obtain ⟨rfl, rfl, rfl⟩ := hcs
    obtain ⟨f0, f1, f2, f3, hS, ⟨t0, t1, t2, t3⟩, o0, o1, o2, o3⟩ := step_fields
    have hC : Try.prog.cellsOf 58 = 4 := by kernel_rfl
    by_cases h0 : len = 0
    · subst h0
      exact ⟨[], ⟨some a, cap, rfl, by simp⟩, by simp, by simp⟩
    have hspot : a.spot = none := by
      have h1 := hel 0 (by omega)
      rw [List.getElem?_eq_getElem (by omega), hC, Option.bind_eq_some_iff] at h1
      obtain ⟨cs', hcs, hy⟩ := h1
      obtain ⟨_, hl4, hcell⟩ := World.cells?_some hcs
      have k0 := hcell 0 (by omega)
      rw [List.getElem?_eq_getElem (by omega)] at k0
      have := World.cell?_spot k0
      simpa [Addr.add] using this
    obtain ⟨b, off, spot⟩ := a
    simp only at hspot
    subst hspot
    have each : ∀ i, i < len → ∃ x : Stp, x.Ok ∧ W.cell? ((⟨b, off, none⟩ : Addr).add (4 * i)) = some (.int .u8 x.dO) ∧ W.cell? ((⟨b, off, none⟩ : Addr).add (4 * i + 1)) = some (.int .u8 x.at_) ∧ W.cell? ((⟨b, off, none⟩ : Addr).add (4 * i + 2)) = some (.int .u64 x.v) ∧ W.cell? ((⟨b, off, none⟩ : Addr).add (4 * i + 3)) = some (.int .u64 x.bt) := by
      intro i hi
      have h1 := hel i hi
      rw [List.getElem?_eq_getElem (by omega), hC, Option.bind_eq_some_iff] at h1
      obtain ⟨cs', hcs, hy⟩ := h1
      obtain ⟨y0, y1, y2, y3, m, _, _, g0, g1, g2, g3⟩ := trod_struct4 hS hy
      rw [t0, o0] at g0
      rw [t1, o1] at g1
      rw [t2, o2] at g2
      rw [t3, o3] at g3
      obtain ⟨x0, e0, l0, u0⟩ := one_of (k := .u8) (by kernel_rfl) (by kernel_rfl) g0
      obtain ⟨x1, e1, l1, u1⟩ := one_of (k := .u8) (by kernel_rfl) (by kernel_rfl) g1
      obtain ⟨x2, e2, l2, u2⟩ := one_of (k := .u64) (by kernel_rfl) (by kernel_rfl) g2
      obtain ⟨x3, e3, l3, u3⟩ := one_of (k := .u64) (by kernel_rfl) (by kernel_rfl) g3
      obtain ⟨_, _, hcell⟩ := World.cells?_some hcs
      have ha : ∀ j, ((⟨b, off, none⟩ : Addr).add (i * 4)).add j = (⟨b, off, none⟩ : Addr).add (4 * i + j) := fun j => by
        rw [add_plain, add_plain, add_plain]
        congr 1
        omega
      have k0 := hcell 0 (by omega)
      have k1 := hcell 1 (by omega)
      have k2 := hcell 2 (by omega)
      have k3 := hcell 3 (by omega)
      rw [ha, e0] at k0
      rw [ha, e1] at k1
      rw [ha, e2] at k2
      rw [ha, e3] at k3
      exact ⟨⟨x0, x1, x2, x3⟩, ⟨l0, u0, l1, u1, l2, u2, l3, u3⟩, k0, k1, k2, k3⟩
    let pick : Nat → Stp := fun i => if hi : i < len then Classical.choose (each i hi) else ⟨0, 0, 0, 0⟩
    have hp : ∀ i, i < len → (pick i).Ok ∧ W.cell? ((⟨b, off, none⟩ : Addr).add (4 * i)) = some (.int .u8 (pick i).dO) ∧ W.cell? ((⟨b, off, none⟩ : Addr).add (4 * i + 1)) = some (.int .u8 (pick i).at_) ∧ W.cell? ((⟨b, off, none⟩ : Addr).add (4 * i + 2)) = some (.int .u64 (pick i).v) ∧ W.cell? ((⟨b, off, none⟩ : Addr).add (4 * i + 3)) = some (.int .u64 (pick i).bt) := by
      intro i hi
      have e : pick i = Classical.choose (each i hi) := dif_pos hi
      rw [e]
      exact Classical.choose_spec (each i hi)
    refine ⟨(List.range len).map pick, ⟨some ⟨b, off, none⟩, cap, by simp, fun j x hx => ?_⟩, ?_, by simp; omega⟩
    · have hj : j < len := by have := (List.getElem?_eq_some_iff.1 hx).1; simpa using this
      simp [hj] at hx
      subst hx
      obtain ⟨_, k0, k1, k2, k3⟩ := hp j hj
      rw [add_plain] at k0 k1 k2 k3
      exact ⟨b, off, rfl, k0, k1, k2, k3⟩
    · intro x hx
      obtain ⟨i, hi, rfl⟩ := List.mem_map.1 hx
      exact (hp i (List.mem_range.1 hi)).1
end
end Go.Proofs.Ytanjmbjnpcekcaa
