/-
  Contracts of package power: steps, and Run, which hears of the power's going.
-/
import Derived.WalkKit
import Derived.BigQuiet
import Derived.Deep.QuietTactic
import Derived.WalkLawsBesides
import Derived.Recover
import Derived.Shelf.Abstract
import Derived.Test.YtaophnicdbmojaaBase
import Derived.Test.YtaophnicdbmojaaProg
set_option maxRecDepth 100000
namespace Go.Proofs.Ytaophnicdbmojaa
open Go.RowKit Go.Shelf

/-- What is thrown when the power goes. -/
def offV : Value := .iface 128 (.agg #[])
def offE : Ending := .panicked [{ v := offV, recovered := false }]

def Pow (w : World) (p : Nat) (l u : Int) : Prop := Blk w p 126 #[.int .i64 l, .int .i64 u]

/-- Does the power go at the next step? -/
def goes (l u : Int) : Prop := 0 ≤ l ∧ l ≤ u

set_option maxHeartbeats 400000 in
theorem used_any (p : Nat) (l u : Int) (w : World) (h : Pow w p l u) :
    Calls Try.prog 94 #[.pointer (some ⟨p, 0, none⟩)] w fun e w' => e = .returned (.int .i64 u) ∧ w = w' := by
  have hu := h.cell 1
  simp at hu
  clear h
  go_enter Try.func94, Try.ntmps94
  go_wp2
  go_ret
  exact ⟨rfl, rfl⟩

set_option maxHeartbeats 400000 in
theorem tick_neg (p : Nat) (l u : Int) (w : World) (h : Pow w p l u) (hl : l < 0) :
    Calls Try.prog 54 #[.pointer (some ⟨p, 0, none⟩)] w fun e w' => e = .returned (.tuple #[]) ∧ ∃ n, w' = (w.drewN n).setCell ⟨p, 1, none⟩ (.int .i64 (wrap64 (u + 1))) := by
  have hc0 := h.cell 0
  have hc1 := h.cell 1
  have hf := h.frozen 1
  simp at hc0 hc1
  clear h
  have hd : decide (0 ≤ l) = false := by simpa using hl
  go_enter Try.func54, Try.ntmps54
  go_wp2
  go_quiet (fail)
  go_wp2
  go_end0
  exact ⟨rfl, _, rfl⟩

set_option maxHeartbeats 400000 in
theorem tick_less (p : Nat) (l u : Int) (w : World) (h : Pow w p l u) (hl : 0 ≤ l) (hlu : u < l) :
    Calls Try.prog 54 #[.pointer (some ⟨p, 0, none⟩)] w fun e w' => e = .returned (.tuple #[]) ∧ ∃ n, w' = (w.drewN n).setCell ⟨p, 1, none⟩ (.int .i64 (wrap64 (u + 1))) := by
  have hc0 := h.cell 0
  have hc1 := h.cell 1
  have hf := h.frozen 1
  simp at hc0 hc1
  clear h
  have hd : decide (0 ≤ l) = true := by simpa using hl
  have hd2 : decide (l ≤ u) = false := by simpa using hlu
  go_enter Try.func54, Try.ntmps54
  go_wp2
  go_quiet (fail)
  go_wp2
  go_end0
  exact ⟨rfl, _, rfl⟩

set_option maxHeartbeats 400000 in
theorem tick_goes (p : Nat) (l u : Int) (w : World) (h : Pow w p l u) (hl : 0 ≤ l) (hlu : l ≤ u) :
    Calls Try.prog 54 #[.pointer (some ⟨p, 0, none⟩)] w fun e w' => e = offE ∧ ∃ n, w' = w.drewN n := by
  have hc0 := h.cell 0
  have hc1 := h.cell 1
  have hf := h.frozen 1
  simp at hc0 hc1
  clear h
  have hd : decide (0 ≤ l) = true := by simpa using hl
  have hd2 : decide (l ≤ u) = true := by simpa using hlu
  go_enter Try.func54, Try.ntmps54
  go_wp2
  go_quiet (fail)
  go_wp2
  exact ⟨rfl, rfl, _, rfl⟩

/-- One step: it is done, or the power goes. -/
theorem tick_any (p : Nat) (l u : Int) (w : World) (h : Pow w p l u) :
    Calls Try.prog 54 #[.pointer (some ⟨p, 0, none⟩)] w fun e w' =>
      (¬ goes l u ∧ e = .returned (.tuple #[]) ∧ ∃ n, w' = (w.drewN n).setCell ⟨p, 1, none⟩ (.int .i64 (wrap64 (u + 1)))) ∨ (goes l u ∧ e = offE ∧ ∃ n, w' = w.drewN n) := by
  unfold goes
  by_cases hl : 0 ≤ l
  · by_cases hlu : l ≤ u
    · exact (tick_goes p l u w h hl hlu).mono fun e w' h => .inr ⟨⟨hl, hlu⟩, h⟩
    · exact (tick_less p l u w h hl (by omega)).mono fun e w' h => .inl ⟨by omega, h⟩
  · exact (tick_neg p l u w h (by omega)).mono fun e w' h => .inl ⟨by omega, h⟩

set_option maxHeartbeats 400000 in
theorem pnew_any (l : Int) (w : World) :
    Calls Try.prog 69 #[.int .i64 l] w fun e w' => e = .returned (.pointer (some ⟨w.heap.size, 0, none⟩)) ∧ w' = w.alloc (.cells #[.int .i64 l, .int .i64 0] 126) := by
  go_enter Try.func69, Try.ntmps69
  go_wp2
  go_ret
  exact ⟨rfl, rfl⟩

theorem run_catch (p : Addr) (b : Bool) (older : List PanicEntry) (w : World) (hp : p.block < w.heap.size) (hc : w.cell? p = some (.bool b)) (hz : w.frozen? p = false) :
    CallsD Try.prog 96 #[.pointer (some p)] (.panicking ({ v := offV, recovered := false } :: older)) w fun e u' w' =>
      e = .returned (.tuple #[]) ∧ u' = .panicking ({ v := offV, recovered := true } :: older) ∧ w' = (w.alloc (.cells #[] 128)).setCell p (.bool false) := by
  refine callsD_of_wpS Try.func96 rfl fun c₀ cs hu => ?_
  apply wpS_seq
  apply wpS_region
  simp [wpOpsS, go_sem, recoverD, hu, Try.ntmps96, Exit.thenS, offV]
  apply wpS_seq
  apply wpS_region
  simp [wpOpsS, go_sem, recoverD, Exit.thenS]
  refine wpS_cond (t := true) (by simp [Act.eval, Array.replicate]) ?_
  simp only [if_true]
  refine wpS_of_wp ?_
  have hc1 : (w.alloc (.cells #[] 128)).cell? p = some (.bool b) := (World.cell?_alloc_lt w _ p hp).trans hc
  have hz1 : (w.alloc (.cells #[] 128)).frozen? p = false := by rw [World.frozen?_alloc_old _ _ _ (by omega)]; exact hz
  have hta : ∀ w, (Instr.typeAssert (Value.iface 128 (.agg #[])) 20 128 true).run Try.prog w = .ok (.tuple #[.agg #[], .bool true]) w := fun _ => by kernel_rfl
  simp only [Array.replicate_succ, Array.replicate_zero, List.push_toArray, List.append_toArray, List.nil_append, List.cons_append, List.setIfInBounds_toArray, List.set_cons_zero, List.set_cons_succ]
  go_wp2
  simp [bodyPostS, results, Try.results96]

theorem run_idle (p : Addr) (w : World) :
    CallsD Try.prog 96 #[.pointer (some p)] .returning w fun e u' w' => e = .returned (.tuple #[]) ∧ u' = .returning ∧ w' = w := by
  refine callsD_of_wpS Try.func96 rfl fun c₀ cs hu => ?_
  apply wpS_seq
  apply wpS_region
  simp [wpOpsS, go_sem, recoverD, hu, Try.ntmps96, Exit.thenS]
  apply wpS_seq
  apply wpS_region
  simp [wpOpsS, go_sem, recoverD, hu, Exit.thenS]
  refine wpS_cond (t := false) (by simp [Act.eval, Array.replicate]) ?_
  simp only [Bool.false_eq_true, if_false]
  refine wpS_of_wp (wp_skip ?_)
  cases c₀
  simp_all [bodyPostS, results, Try.results96]

/-- power.Run: what is done, and whether the power stayed. -/
theorem run_any (G : FuncId) (cap : Array Value) (w : World) (A B : World → Prop) (hG : Enters Try.prog G)
    (h : Calls Try.prog G cap (w.alloc (.cells #[.bool false] 4)) fun e w1 => Blk w1 w.heap.size 4 #[.bool false] ∧ (((∃ v, e = .returned v) ∧ A w1) ∨ (e = offE ∧ B w1))) :
    Calls Try.prog 92 #[.func (.func G) #[] cap] w fun e w' =>
      (e = .returned (.bool true) ∧ ∃ w1, A w1 ∧ w.heap.size < w1.heap.size ∧ w' = w1.setCell ⟨w.heap.size, 0, none⟩ (.bool true)) ∨
      (e = .returned (.bool false) ∧ ∃ w1, B w1 ∧ w.heap.size < w1.heap.size ∧ w' = (w1.alloc (.cells #[] 128)).setCell ⟨w.heap.size, 0, none⟩ (.bool false)) := by
  have hmf : ∀ (fn : Fn) (first cap : Array Value) (w : World), (Instr.makeFunc fn first cap).run Try.prog w = .ok (.func fn first cap) w := fun _ _ _ _ => rfl
  go_enter_defers Try.func92, Try.ntmps92
  go_wp2_with fail
  rw [hG, Oper.upon_enter]
  refine h.mono ?_
  rintro e w1 ⟨hb, ⟨⟨v, rfl⟩, hA⟩ | ⟨rfl, hB⟩⟩
  · have hc := hb.cell 0
    have hz := hb.frozen 0
    have hlt := hb.lt
    simp at hc
    clear h hb
    go_wp2
    refine leaves_cons (f := 96) (args := #[.pointer (some ⟨w.heap.size, 0, none⟩)]) (by simp) (by simp [go_sem]) ?_
    refine (run_idle ⟨w.heap.size, 0, none⟩ _).mono ?_
    rintro e u' w'' ⟨rfl, rfl, rfl⟩
    refine ⟨.bool true, ?_, .inl ⟨rfl, w1, hA, hlt, rfl⟩⟩
    simp [results, Try.results92, go_sem, hc]
  · have hc := hb.cell 0
    have hz := hb.frozen 0
    have hlt := hb.lt
    simp at hc
    clear h hb
    unfold offE
    go_wp2
    refine leaves_cons (f := 96) (args := #[.pointer (some ⟨w.heap.size, 0, none⟩)]) (by simp) (by simp [go_sem]) ?_
    refine (run_catch ⟨w.heap.size, 0, none⟩ false [] _ hlt hc hz).mono ?_
    rintro e u' w'' ⟨rfl, rfl, rfl⟩
    simp [Leaves, settle]
    refine ⟨.bool false, ?_, .inr ⟨rfl, w1, hB, hlt, rfl⟩⟩
    have hc1 : (w1.alloc (.cells #[] 128)).cell? ⟨w.heap.size, 0, none⟩ = some (.bool false) := (World.cell?_alloc_lt w1 _ ⟨w.heap.size, 0, none⟩ hlt).trans hc
    simp [results, Try.results92, go_sem, hc1]
end Go.Proofs.Ytaophnicdbmojaa
