/-
  Small laws on single operations, over any program: slicing, arrays behind pointers, copies between rows.
-/
import Derived.WalkKit
import Derived.Deep.MidRow
import Derived.StillTailTactics
import Derived.Laws.CopyOwn
import Derived.Test.YtaophnicdbmojaaBase
set_option maxRecDepth 100000
namespace Go.Proofs.Ytaophnicdbmojaa
open Go.RowKit
section
variable {P : Program} {T E A : TypeId} {n k : Nat}
theorem sizeOf_run (hE : (P.info? E).map (·.size) = some k) (w : World) : (sizeOf E).run P w = .ok k w := by
  cases hq : P.info? E with
  | none => simp [hq] at hE
  | some i =>
    have hs : i.size = k := by simpa [hq] using hE
    simp [sizeOf, typeInfo, hq, hs]
theorem slice_lh (hT : P.underlying T = some (.slice E)) (hE : (P.info? E).map (·.size) = some 1) (g off n c l h : Nat) (k k' : IntKind) (a b : Int) (ha : a = l) (hb : b = h) (h1 : l < h) (h2 : h ≤ c) (w : World) :
    (Instr.slice T (.slice (some ⟨g, off, none⟩) n c) (some (.int k a)) (some (.int k' b)) none).run P w = .ok (.slice (some ⟨g, off + l, none⟩) (h - l) (c - l)) w := by
  subst ha hb
  have e1 : (l : Int) ≤ (h : Int) := by omega
  have e2 : (h : Int) ≤ (c : Int) := by omega
  have e3 : ¬ c = l := by omega
  simp [Instr.slice, run_underlying hT, Instr.sliceBounds, run_sliceBound, e1, e2, sizeOf_run hE, e3, Addr.add_mid]
theorem slice_l (hT : P.underlying T = some (.slice E)) (hE : (P.info? E).map (·.size) = some 1) (g off n c l : Nat) (k : IntKind) (a : Int) (ha : a = l) (h1 : l ≤ n) (h2 : l < c) (w : World) :
    (Instr.slice T (.slice (some ⟨g, off, none⟩) n c) (some (.int k a)) none none).run P w = .ok (.slice (some ⟨g, off + l, none⟩) (n - l) (c - l)) w := by
  subst ha
  have e1 : (l : Int) ≤ (n : Int) := by omega
  have e3 : ¬ c = l := by omega
  simp [Instr.slice, run_underlying hT, Instr.sliceBounds, run_sliceBound, e1, sizeOf_run hE, e3, Addr.add_mid]
theorem arrayAt_run (hA : P.underlying A = some (.array n E)) (p : Option Addr) (m c : Nat) (h : n ≤ m) (w : World) :
    (Instr.arrayAt A (.slice p m c)).run P w = .ok (.pointer p) w := by
  have : ¬ m < n := by omega
  simp [Instr.arrayAt, run_underlying hA, this]
/-- A still load of a whole row in the middle of a block. -/
theorem still_load_mid {ops : Array Oper} {rest : List Oper} {op : Oper} {a : Act} {w : World} {Q : Act → Prop} (hgd : op.guard = none) (ty : TypeId) (x : Operand) (ho : op.op = .load ty x)
    (b o : Nat) (hx : a.eval x = .pointer (some ⟨b, o, none⟩)) (cs : List Value) (d : TypeDesc) (hc : w.rangeAt b o cs)
    (hu : P.underlying ty = some d) (hd : d.isRow = true) (hi : (P.info? ty).map (·.size) = some cs.length)
    (h : wpStill P ops w Q rest (a.put op.dst (.agg cs.toArray))) : wpStill P ops w Q (op :: rest) a := by
  refine wpStill_step fun K hK => ?_
  rw [if_pos (by simp [Region.wanted, hgd])]
  unfold Oper.still execOp
  simp only [ho, hx, Instr.loadAt, Instr.sureAddr, Sem.run_bind, Sem.run_pure, Result.andThen_ok, run_loadVar_mid w b o ty cs d hc hu hd hi]
  exact ⟨rfl, hK _ h⟩
/-- copy, into a row that is known whole. -/
theorem copy_blk {dT sT ty elem : TypeId} (hu : P.underlying dT = some (.slice elem)) (hsz : (P.info? elem).map (·.size) = some 1) {w : World} {g : Nat} {t : TypeId} {cur : Array Value} (hb : Blk w g t cur)
    (dp sp : Option Addr) (dLen dCap sLen sCap off : Nat) (cs : List Value) (hn : cs.length = min sLen dLen)
    (hpos : 0 < cs.length → dp = some ⟨g, off, none⟩ ∧ ∃ g2 o2, sp = some ⟨g2, o2, none⟩ ∧ ∀ j v, cs[j]? = some v → w.cell? ⟨g2, o2 + j, none⟩ = some v)
    (hfit : off + cs.length ≤ cur.size) (h1 : ∀ v ∈ cs, v.oneCell' = true) :
    ∃ w', (Builtin.copy_ #[dT, sT] ty #[.slice dp dLen dCap, .slice sp sLen sCap]).run P w = .ok (goInt cs.length) w' ∧ Blk w' g t (splice cur.toList off cs).toArray ∧ Keep w.heap.size [g] w w' ∧ w'.heap.size = w.heap.size := by
  by_cases h0 : cs.length = 0
  · refine ⟨w, ?_, ?_, Keep.refl _ _ _, rfl⟩
    · rw [h0]
      exact run_copy_none (P := P) w dT sT ty elem dp sp dLen dCap sLen sCap hu hsz (by rw [h0] at hn; exact hn.symm)
    · obtain rfl : cs = [] := List.eq_nil_of_length_eq_zero h0
      simpa [splice] using hb
  · obtain ⟨rfl, g2, o2, rfl, hsrc⟩ := hpos (by omega)
    refine ⟨_, run_copy_row (P := P) w dT sT ty elem g off dLen dCap ⟨g2, o2, none⟩ sLen sCap cur t cs hu hsz hb hn (fun j v hv => by rw [Addr.add_mid]; exact hsrc j v hv) hfit h1, ?_, ?_, ?_⟩
    · have := setRow_heap w g cur (cur.toList.take off ++ cs ++ cur.toList.drop (off + cs.length)).toArray t _ hb
      unfold Blk splice
      rw [← List.append_assoc]
      exact this
    · exact ⟨rfl, rfl, rfl, by simp [World.setRow], fun k hk hs => setRow_other w g k _ (by simpa using hs)⟩
    · simp [World.setRow]
end
end Go.Proofs.Ytaophnicdbmojaa
