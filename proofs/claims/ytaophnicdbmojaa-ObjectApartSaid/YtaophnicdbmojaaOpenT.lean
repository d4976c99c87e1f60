/-
  Slices of arrays of three small numbers, as arguments.
-/
import Derived.Laws.IdiomArrays
import Derived.Test.YtaophnicdbmojaaOpen
set_option linter.unusedSimpArgs false
set_option linter.unusedVariables false
set_option maxRecDepth 100000
namespace Go.Proofs.Ytaophnicdbmojaa
open Go.ChangeShapes Go.WideShapes Go.ChangeAt Go.RowKit Go.Joins Go.WideMaps Go.WideElems Go.Deep

structure TV where
  a : Int
  b : Int
  c : Int
structure TV.Ok (x : TV) : Prop where
  a0 : 0 ≤ x.a
  a1 : x.a ≤ 255
  b0 : 0 ≤ x.b
  b1 : x.b ≤ 255
  c0 : 0 ≤ x.c
  c1 : x.c ≤ 255

/-- A slice that reads as these. -/
def RdT (w : World) (v : Value) (l : List TV) : Prop :=
  ∃ A c, v = .slice A l.length c ∧ ∀ (j : Nat) (x : TV), l[j]? = some x → ∃ g off, A = some ⟨g, off, none⟩ ∧ w.cell? ⟨g, off + 3 * j, none⟩ = some (.int .u8 x.a) ∧ w.cell? ⟨g, off + (3 * j + 1), none⟩ = some (.int .u8 x.b) ∧ w.cell? ⟨g, off + (3 * j + 2), none⟩ = some (.int .u8 x.c)

theorem RdT.keep {w w' : World} {v : Value} {l : List TV} (h : RdT w v l) (hk : Keep w.heap.size [] w w') : RdT w' v l := by
  obtain ⟨A, c, rfl, h⟩ := h
  refine ⟨A, c, rfl, fun j x hx => ?_⟩
  obtain ⟨g, off, rfl, h0, h1, h2⟩ := h j x hx
  have e : ∀ o, w'.cell? ⟨g, o, none⟩ = w.cell? ⟨g, o, none⟩ := fun o => World.cell?_of_block (hk.block g (World.block_lt_of_cell? w _ h0) (by simp))
  exact ⟨g, off, rfl, (e _).trans h0, (e _).trans h1, (e _).trans h2⟩
section
variable {H : Type} {enc : TypeId × Value → H} {P : Program} {W : World} {base : Nat} {held : Bool} {r : Reach} {b0 : Nat} {t e : TypeId} {v : Value} {d : DataW H} {p : List MemPlace}
theorem trod_array3 {fuel : Nat} {c0 c1 c2 : Value} {x : DataW H × List MemPlace} (ht : P.underlying t = some (.array 3 e)) (hce : P.cellsOf e = 1)
    (h : DataW.trod enc P W base (fun _ => true) held fuel t [c0, c1, c2] = some x) :
    ∃ y0 y1 y2 n, DataW.trod enc P W base (fun _ => true) held n e [c0] = some y0 ∧ DataW.trod enc P W base (fun _ => true) held n e [c1] = some y1 ∧ DataW.trod enc P W base (fun _ => true) held n e [c2] = some y2 := by
  cases fuel with
  | zero => simp [DataW.trod] at h
  | succ n =>
    unfold DataW.trod at h
    rw [ht] at h
    have r3 : List.range 3 = [0, 1, 2] := rfl
    simp [r3, hce] at h
    obtain ⟨_, h⟩ := h
    cases h0 : DataW.trod enc P W base (fun _ => true) held n e [c0] with
    | none => simp [h0] at h
    | some y0 =>
      cases h1 : DataW.trod enc P W base (fun _ => true) held n e [c1] with
      | none => simp [h0, h1] at h
      | some y1 =>
        cases h2 : DataW.trod enc P W base (fun _ => true) held n e [c2] with
        | none => simp [h0, h1, h2] at h
        | some y2 => exact ⟨y0, y1, y2, n, h0, h1, h2⟩
end
section
variable {H : Type} {enc : TypeId × Value → H} {W : World} {r : Reach} {b0 : Nat} {base : Nat} {held : Bool} {v : Value} {d : DataW H} {p : List MemPlace}
theorem t_arr : Try.prog.underlying 92 = some (.array 3 5) := by kernel_rfl
theorem open_ts (hv : Value.okWide Try.prog W r b0 90 v) (h : DataW.Trod enc Try.prog W base (fun _ => true) held 90 v d p) :
    ∃ l : List TV, RdT W v l ∧ (∀ x ∈ l, x.Ok) ∧ l.length ≤ maxLen := by
  obtain ⟨a0, len, cap, rfl⟩ := okWide_slice (show Try.prog.underlying 90 = some (.slice 92) by kernel_rfl) hv
  obtain ⟨fuel, hf⟩ := h
  rcases DataW.trod_slice (show Try.prog.underlying 90 = some (.slice 92) by kernel_rfl) hf with ⟨hcs, _⟩ | ⟨a, len', cap', elems, rest, n, _, hcs, _, _, hl, hm, hlen, hel, _, _⟩
  · simp [Value.cells] at hcs
    obtain ⟨rfl, rfl, rfl⟩ := hcs
    exact ⟨[], ⟨none, 0, rfl, by simp⟩, by simp, by simp⟩
  · simp [Value.cells] at hcs
    obtain ⟨rfl, rfl, rfl⟩ := hcs
    have hC : Try.prog.cellsOf 92 = 3 := by kernel_rfl
    have hC1 : Try.prog.cellsOf 5 = 1 := by kernel_rfl
    have hU : Try.prog.underlying 5 = some (.int .u8) := by kernel_rfl
    by_cases h0 : len = 0
    · subst h0
      exact ⟨[], ⟨some a, cap, rfl, by simp⟩, by simp, by simp⟩
    have hspot : a.spot = none := by
      have h1 := hel 0 (by omega)
      rw [List.getElem?_eq_getElem (by omega), hC, Option.bind_eq_some_iff] at h1
      obtain ⟨cs', hcs, hy⟩ := h1
      obtain ⟨_, hl4, hcell⟩ := World.cells?_some hcs
      have k0 := hcell 0 (by omega)
      rw [List.getElem?_eq_getElem (by omega)] at k0
      have := World.cell?_spot k0
      simpa [Addr.add] using this
    obtain ⟨b, off, spot⟩ := a
    simp only at hspot
    subst hspot
    have each : ∀ i, i < len → ∃ x : TV, x.Ok ∧ W.cell? ((⟨b, off, none⟩ : Addr).add (3 * i)) = some (.int .u8 x.a) ∧ W.cell? ((⟨b, off, none⟩ : Addr).add (3 * i + 1)) = some (.int .u8 x.b) ∧ W.cell? ((⟨b, off, none⟩ : Addr).add (3 * i + 2)) = some (.int .u8 x.c) := by
      intro i hi
      have h1 := hel i hi
      rw [List.getElem?_eq_getElem (by omega), hC, Option.bind_eq_some_iff] at h1
      obtain ⟨cs', hcs, hy⟩ := h1
      obtain ⟨_, hl3, hcell⟩ := World.cells?_some hcs
      obtain ⟨c0, c1, c2, rfl⟩ : ∃ c0 c1 c2, cs' = [c0, c1, c2] := by
        match cs', hl3 with
        | [x, y, z], _ => exact ⟨x, y, z, rfl⟩
      obtain ⟨y0, y1, y2, m, g0, g1, g2⟩ := trod_array3 t_arr hC1 hy
      obtain ⟨x0, e0, _, w0⟩ := DataW.trod_int hU g0
      obtain ⟨x1, e1, _, w1⟩ := DataW.trod_int hU g1
      obtain ⟨x2, e2, _, w2⟩ := DataW.trod_int hU g2
      simp at e0 e1 e2
      subst e0 e1 e2
      have ha : ∀ j, ((⟨b, off, none⟩ : Addr).add (i * 3)).add j = (⟨b, off, none⟩ : Addr).add (3 * i + j) := fun j => by
        rw [add_plain, add_plain, add_plain]
        congr 1
        omega
      have k0 := hcell 0 (by omega)
      have k1 := hcell 1 (by omega)
      have k2 := hcell 2 (by omega)
      rw [ha] at k0 k1 k2
      obtain ⟨l0, u0⟩ := wf_bounds .u8 x0 w0
      obtain ⟨l1, u1⟩ := wf_bounds .u8 x1 w1
      obtain ⟨l2, u2⟩ := wf_bounds .u8 x2 w2
      exact ⟨⟨x0, x1, x2⟩, ⟨l0, u0, l1, u1, l2, u2⟩, k0, k1, k2⟩
    let pick : Nat → TV := fun i => if hi : i < len then Classical.choose (each i hi) else ⟨0, 0, 0⟩
    have hp : ∀ i, i < len → (pick i).Ok ∧ W.cell? ((⟨b, off, none⟩ : Addr).add (3 * i)) = some (.int .u8 (pick i).a) ∧ W.cell? ((⟨b, off, none⟩ : Addr).add (3 * i + 1)) = some (.int .u8 (pick i).b) ∧ W.cell? ((⟨b, off, none⟩ : Addr).add (3 * i + 2)) = some (.int .u8 (pick i).c) := by
      intro i hi
      have e : pick i = Classical.choose (each i hi) := dif_pos hi
      rw [e]
      exact Classical.choose_spec (each i hi)
    refine ⟨(List.range len).map pick, ⟨some ⟨b, off, none⟩, cap, by simp, fun j x hx => ?_⟩, ?_, by simp; omega⟩
    · have hj : j < len := by have := (List.getElem?_eq_some_iff.1 hx).1; simpa using this
      simp [hj] at hx
      subst hx
      obtain ⟨_, k0, k1, k2⟩ := hp j hj
      rw [add_plain] at k0 k1 k2
      exact ⟨b, off, rfl, k0, k1, k2⟩
    · intro x hx
      obtain ⟨i, hi, rfl⟩ := List.mem_map.1 hx
      exact (hp i (List.mem_range.1 hi)).1
end
end Go.Proofs.Ytaophnicdbmojaa
