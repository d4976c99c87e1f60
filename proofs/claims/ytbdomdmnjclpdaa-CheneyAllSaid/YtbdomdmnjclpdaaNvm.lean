/-
  Words for memory, and their laws: a block that is known whole; what a call keeps.
  Contracts of package power: steps, and Run, which hears of the power's going.
  Maps whose keys are integers, with values of any kind: what they hold, and what each operation on them does, over any program.
  Small laws on single operations, over any program: slicing, arrays behind pointers, copies between rows.
  Package nvm: what a device is in memory, and the contracts of its methods.
  slices.Clone at words; Device.Words, Device.Kept; nvm.New.
  Device.Fence: what is to be kept is kept, in whatever order the map gives it.
  Device.Crash: each word is what was kept, what was to be kept, or what stood.
-/
import Derived.WalkKit
import Derived.Deep.Draws
import Derived.Below
import Derived.BigQuiet
import Derived.Deep.QuietTactic
import Derived.WalkLawsBesides
import Derived.Recover
import Derived.Shelf.Abstract
import Derived.Test.YtbdomdmnjclpdaaProg
import Derived.MapKept
import Derived.Deep.MidRow
import Derived.StillTailTactics
import Derived.Laws.CopyOwn
import Derived.WalkSpells
import Derived.Lib.Hide
import Derived.IntWalk
set_option maxRecDepth 100000
namespace Go.Proofs.Ytbdomdmnjclpdaa
open Go.RowKit

/-- Block g is just these cells, none frozen. -/
def Blk (w : World) (g : Nat) (t : TypeId) (cs : Array Value) : Prop := w.heap[g]? = some (.cells cs t (0, 0))

/-- Below block n, but for the blocks of S, all is as it was. -/
structure Keep (n : Nat) (S : List Nat) (w w' : World) : Prop where
  os : w'.os = w.os
  tape : w'.tape = w.tape
  output : w'.output = w.output
  size : w.heap.size ≤ w'.heap.size
  block : ∀ k, k < n → k ∉ S → w'.heap[k]? = w.heap[k]?

section
variable {w w' w'' : World} {g n m : Nat} {t : TypeId} {cs : Array Value} {S S' : List Nat}
theorem Blk.lt (h : Blk w g t cs) : g < w.heap.size := by
  rcases Nat.lt_or_ge g w.heap.size with hlt | hge
  · exact hlt
  · unfold Blk at h; rw [Array.getElem?_eq_none hge] at h; cases h
theorem Blk.cell (h : Blk w g t cs) (i : Nat) : w.cell? ⟨g, i, none⟩ = cs[i]? := cell_of_row w g i cs t (0, 0) h
theorem Blk.frozen (h : Blk w g t cs) (i : Nat) : w.frozen? ⟨g, i, none⟩ = false := by
  unfold Blk at h
  simp [World.frozen?, h]
theorem Blk.new (w : World) (t : TypeId) (cs : Array Value) : Blk (w.alloc (.cells cs t)) w.heap.size t cs := heap_alloc_new w _
theorem Blk.drew (h : Blk w g t cs) : Blk w.drew g t cs := h
theorem Blk.drewN (h : Blk w g t cs) (n : Nat) : Blk (w.drewN n) g t cs := h
theorem Blk.alloc (h : Blk w g t cs) (o : Obj) : Blk (w.alloc o) g t cs := (Below.heap_alloc w o g h.lt).trans h
theorem Blk.set_ (h : Blk w g t cs) (i : Nat) (u : Value) : Blk (w.setCell ⟨g, i, none⟩ u) g t (cs.setIfInBounds i u) := by
  unfold Blk at h ⊢
  simp [World.setCell, Array.getElem?_modify, h]
theorem Blk.far (h : Blk w g t cs) {p : Addr} (hp : g ≠ p.block) (u : Value) : Blk (w.setCell p u) g t cs := (Below.heap_setCell w p u g hp).trans h
theorem Blk.keep (h : Blk w g t cs) (hk : Keep n S w w') (hg : g < n) (hS : g ∉ S) : Blk w' g t cs := (hk.block g hg hS).trans h
theorem Blk.inj {cs' : Array Value} {t' : TypeId} (h : Blk w g t cs) (h' : Blk w g t' cs') : cs = cs' := by
  unfold Blk at h h'; rw [h] at h'; injection h' with h'; injection h'

theorem Keep.refl (n : Nat) (S : List Nat) (w : World) : Keep n S w w := ⟨rfl, rfl, rfl, Nat.le_refl _, fun _ _ _ => rfl⟩
theorem Keep.trans (h : Keep n S w w') (h' : Keep n S w' w'') : Keep n S w w'' :=
  ⟨h'.os.trans h.os, h'.tape.trans h.tape, h'.output.trans h.output, Nat.le_trans h.size h'.size, fun k hk hs => (h'.block k hk hs).trans (h.block k hk hs)⟩
theorem Keep.mono (h : Keep n S w w') (hm : m ≤ n) (hS : ∀ k, k < m → k ∈ S → k ∈ S') : Keep m S' w w' :=
  ⟨h.os, h.tape, h.output, h.size, fun k hk hs => h.block k (by omega) (fun c => hs (hS k hk c))⟩
theorem Keep.le (h : Keep n S w w') (hm : m ≤ n) : Keep m S w w' := h.mono hm fun _ _ h => h
theorem Keep.sub (h : Keep n S w w') (hS : ∀ k, k < n → k ∈ S → k ∈ S') : Keep n S' w w' := h.mono (Nat.le_refl _) hS
theorem Keep.drew (h : Keep n S w w') : Keep n S w w'.drew := ⟨h.os, h.tape, h.output, h.size, h.block⟩
theorem Keep.drewN (h : Keep n S w w') (k : Nat) : Keep n S w (w'.drewN k) := ⟨h.os, h.tape, h.output, h.size, h.block⟩
theorem Keep.undrew (h : Keep n S w.drew w') : Keep n S w w' := ⟨h.os, h.tape, h.output, h.size, h.block⟩
theorem Keep.undrewN {k : Nat} (h : Keep n S (w.drewN k) w') : Keep n S w w' := ⟨h.os, h.tape, h.output, h.size, h.block⟩
theorem Keep.alloc (h : Keep n S w w') (hn : n ≤ w'.heap.size) (o : Obj) : Keep n S w (w'.alloc o) :=
  h.trans ⟨rfl, rfl, rfl, by simp, fun k hk _ => Below.heap_alloc _ _ _ (by omega)⟩
theorem Keep.setCell (h : Keep n S w w') {p : Addr} (hp : p.block < n → p.block ∈ S) (u : Value) : Keep n S w (w'.setCell p u) :=
  h.trans ⟨rfl, rfl, rfl, by simp [World.setCell], fun k hk hs => Below.heap_setCell _ _ _ _ (fun e => hs (e ▸ hp (e ▸ hk)))⟩
theorem Keep.grown (h : Keep n S w w') {row : Option Nat} (hg : w'.grownBy w'' row) (hn : n ≤ w'.heap.size) (hr : ∀ k, row = some k → k < n → k ∈ S) : Keep n S w w'' :=
  h.trans ⟨hg.os, hg.tape, hg.output, hg.size, fun k hk hs => hg.block k (by omega) (fun e => hs (hr k e.symm hk))⟩
theorem Keep.below (h : Keep n [] w w') : Below n w w' := ⟨h.os, h.tape, h.output, h.size, fun k hk => h.block k hk (by simp)⟩
theorem Keep.of_below (h : Below n w w') : Keep n [] w w' := ⟨h.os, h.tape, h.output, h.size, fun k hk _ => h.block k hk⟩
/-- What any call keeps, from the size that the heap had. -/
theorem Keep.join (h : Keep n S w w') (h' : Keep w'.heap.size S' w' w'') (hn : n ≤ w'.heap.size) (hS : ∀ k, k < n → k ∈ S' → k ∈ S) : Keep n S w w'' :=
  h.trans (h'.mono hn hS)
end
end Go.Proofs.Ytbdomdmnjclpdaa
set_option maxRecDepth 100000
namespace Go.Proofs.Ytbdomdmnjclpdaa
open Go.RowKit Go.Shelf

/-- What is thrown when the power goes. -/
def offV : Value := .iface 117 (.agg #[])
def offE : Ending := .panicked [{ v := offV, recovered := false }]

def Pow (w : World) (p : Nat) (l u : Int) : Prop := Blk w p 101 #[.int .i64 l, .int .i64 u]

/-- Does the power go at the next step? -/
def goes (l u : Int) : Prop := 0 ≤ l ∧ l ≤ u

set_option maxHeartbeats 400000 in
theorem used_any (p : Nat) (l u : Int) (w : World) (h : Pow w p l u) :
    Calls Try.prog 101 #[.pointer (some ⟨p, 0, none⟩)] w fun e w' => e = .returned (.int .i64 u) ∧ w = w' := by
  have hu := h.cell 1
  simp at hu
  clear h
  go_enter Try.func101, Try.ntmps101
  go_wp2
  go_ret
  exact ⟨rfl, rfl⟩

set_option maxHeartbeats 400000 in
theorem tick_neg (p : Nat) (l u : Int) (w : World) (h : Pow w p l u) (hl : l < 0) :
    Calls Try.prog 48 #[.pointer (some ⟨p, 0, none⟩)] w fun e w' => e = .returned (.tuple #[]) ∧ ∃ n, w' = (w.drewN n).setCell ⟨p, 1, none⟩ (.int .i64 (wrap64 (u + 1))) := by
  have hc0 := h.cell 0
  have hc1 := h.cell 1
  have hf := h.frozen 1
  simp at hc0 hc1
  clear h
  have hd : decide (0 ≤ l) = false := by simpa using hl
  go_enter Try.func48, Try.ntmps48
  go_wp2
  go_quiet (fail)
  go_wp2
  go_end0
  exact ⟨rfl, _, rfl⟩

set_option maxHeartbeats 400000 in
theorem tick_less (p : Nat) (l u : Int) (w : World) (h : Pow w p l u) (hl : 0 ≤ l) (hlu : u < l) :
    Calls Try.prog 48 #[.pointer (some ⟨p, 0, none⟩)] w fun e w' => e = .returned (.tuple #[]) ∧ ∃ n, w' = (w.drewN n).setCell ⟨p, 1, none⟩ (.int .i64 (wrap64 (u + 1))) := by
  have hc0 := h.cell 0
  have hc1 := h.cell 1
  have hf := h.frozen 1
  simp at hc0 hc1
  clear h
  have hd : decide (0 ≤ l) = true := by simpa using hl
  have hd2 : decide (l ≤ u) = false := by simpa using hlu
  go_enter Try.func48, Try.ntmps48
  go_wp2
  go_quiet (fail)
  go_wp2
  go_end0
  exact ⟨rfl, _, rfl⟩

set_option maxHeartbeats 400000 in
theorem tick_goes (p : Nat) (l u : Int) (w : World) (h : Pow w p l u) (hl : 0 ≤ l) (hlu : l ≤ u) :
    Calls Try.prog 48 #[.pointer (some ⟨p, 0, none⟩)] w fun e w' => e = offE ∧ ∃ n, w' = w.drewN n := by
  have hc0 := h.cell 0
  have hc1 := h.cell 1
  have hf := h.frozen 1
  simp at hc0 hc1
  clear h
  have hd : decide (0 ≤ l) = true := by simpa using hl
  have hd2 : decide (l ≤ u) = true := by simpa using hlu
  go_enter Try.func48, Try.ntmps48
  go_wp2
  go_quiet (fail)
  go_wp2
  exact ⟨rfl, rfl, _, rfl⟩

/-- One step: it is done, or the power goes. -/
theorem tick_any (p : Nat) (l u : Int) (w : World) (h : Pow w p l u) :
    Calls Try.prog 48 #[.pointer (some ⟨p, 0, none⟩)] w fun e w' =>
      (¬ goes l u ∧ e = .returned (.tuple #[]) ∧ ∃ n, w' = (w.drewN n).setCell ⟨p, 1, none⟩ (.int .i64 (wrap64 (u + 1)))) ∨ (goes l u ∧ e = offE ∧ ∃ n, w' = w.drewN n) := by
  unfold goes
  by_cases hl : 0 ≤ l
  · by_cases hlu : l ≤ u
    · exact (tick_goes p l u w h hl hlu).mono fun e w' h => .inr ⟨⟨hl, hlu⟩, h⟩
    · exact (tick_less p l u w h hl (by omega)).mono fun e w' h => .inl ⟨by omega, h⟩
  · exact (tick_neg p l u w h (by omega)).mono fun e w' h => .inl ⟨by omega, h⟩

set_option maxHeartbeats 400000 in
theorem pnew_any (l : Int) (w : World) :
    Calls Try.prog 31 #[.int .i64 l] w fun e w' => e = .returned (.pointer (some ⟨w.heap.size, 0, none⟩)) ∧ w' = w.alloc (.cells #[.int .i64 l, .int .i64 0] 101) := by
  go_enter Try.func31, Try.ntmps31
  go_wp2
  go_ret
  exact ⟨rfl, rfl⟩

theorem run_catch (p : Addr) (b : Bool) (older : List PanicEntry) (w : World) (hp : p.block < w.heap.size) (hc : w.cell? p = some (.bool b)) (hz : w.frozen? p = false) :
    CallsD Try.prog 103 #[.pointer (some p)] (.panicking ({ v := offV, recovered := false } :: older)) w fun e u' w' =>
      e = .returned (.tuple #[]) ∧ u' = .panicking ({ v := offV, recovered := true } :: older) ∧ w' = (w.alloc (.cells #[] 117)).setCell p (.bool false) := by
  refine callsD_of_wpS Try.func103 rfl fun c₀ cs hu => ?_
  apply wpS_seq
  apply wpS_region
  simp [wpOpsS, go_sem, recoverD, hu, Try.ntmps103, Exit.thenS, offV]
  apply wpS_seq
  apply wpS_region
  simp [wpOpsS, go_sem, recoverD, Exit.thenS]
  refine wpS_cond (t := true) (by simp [Act.eval, Array.replicate]) ?_
  simp only [if_true]
  refine wpS_of_wp ?_
  have hc1 : (w.alloc (.cells #[] 117)).cell? p = some (.bool b) := (World.cell?_alloc_lt w _ p hp).trans hc
  have hz1 : (w.alloc (.cells #[] 117)).frozen? p = false := by rw [World.frozen?_alloc_old _ _ _ (by omega)]; exact hz
  have hta : ∀ w, (Instr.typeAssert (Value.iface 117 (.agg #[])) 20 117 true).run Try.prog w = .ok (.tuple #[.agg #[], .bool true]) w := fun _ => by kernel_rfl
  simp only [Array.replicate_succ, Array.replicate_zero, List.push_toArray, List.append_toArray, List.nil_append, List.cons_append, List.setIfInBounds_toArray, List.set_cons_zero, List.set_cons_succ]
  go_wp2
  simp [bodyPostS, results, Try.results103]

theorem run_idle (p : Addr) (w : World) :
    CallsD Try.prog 103 #[.pointer (some p)] .returning w fun e u' w' => e = .returned (.tuple #[]) ∧ u' = .returning ∧ w' = w := by
  refine callsD_of_wpS Try.func103 rfl fun c₀ cs hu => ?_
  apply wpS_seq
  apply wpS_region
  simp [wpOpsS, go_sem, recoverD, hu, Try.ntmps103, Exit.thenS]
  apply wpS_seq
  apply wpS_region
  simp [wpOpsS, go_sem, recoverD, hu, Exit.thenS]
  refine wpS_cond (t := false) (by simp [Act.eval, Array.replicate]) ?_
  simp only [Bool.false_eq_true, if_false]
  refine wpS_of_wp (wp_skip ?_)
  cases c₀
  simp_all [bodyPostS, results, Try.results103]

/-- power.Run: what is done, and whether the power stayed. -/
theorem run_any (G : FuncId) (cap : Array Value) (w : World) (A B : World → Prop) (hG : Enters Try.prog G)
    (h : Calls Try.prog G cap (w.alloc (.cells #[.bool false] 4)) fun e w1 => Blk w1 w.heap.size 4 #[.bool false] ∧ (((∃ v, e = .returned v) ∧ A w1) ∨ (e = offE ∧ B w1))) :
    Calls Try.prog 99 #[.func (.func G) #[] cap] w fun e w' =>
      (e = .returned (.bool true) ∧ ∃ w1, A w1 ∧ w.heap.size < w1.heap.size ∧ w' = w1.setCell ⟨w.heap.size, 0, none⟩ (.bool true)) ∨
      (e = .returned (.bool false) ∧ ∃ w1, B w1 ∧ w.heap.size < w1.heap.size ∧ w' = (w1.alloc (.cells #[] 117)).setCell ⟨w.heap.size, 0, none⟩ (.bool false)) := by
  have hmf : ∀ (fn : Fn) (first cap : Array Value) (w : World), (Instr.makeFunc fn first cap).run Try.prog w = .ok (.func fn first cap) w := fun _ _ _ _ => rfl
  go_enter_defers Try.func99, Try.ntmps99
  go_wp2_with fail
  rw [hG, Oper.upon_enter]
  refine h.mono ?_
  rintro e w1 ⟨hb, ⟨⟨v, rfl⟩, hA⟩ | ⟨rfl, hB⟩⟩
  · have hc := hb.cell 0
    have hz := hb.frozen 0
    have hlt := hb.lt
    simp at hc
    clear h hb
    go_wp2
    refine leaves_cons (f := 103) (args := #[.pointer (some ⟨w.heap.size, 0, none⟩)]) (by simp) (by simp [go_sem]) ?_
    refine (run_idle ⟨w.heap.size, 0, none⟩ _).mono ?_
    rintro e u' w'' ⟨rfl, rfl, rfl⟩
    refine ⟨.bool true, ?_, .inl ⟨rfl, w1, hA, hlt, rfl⟩⟩
    simp [results, Try.results99, go_sem, hc]
  · have hc := hb.cell 0
    have hz := hb.frozen 0
    have hlt := hb.lt
    simp at hc
    clear h hb
    unfold offE
    go_wp2
    refine leaves_cons (f := 103) (args := #[.pointer (some ⟨w.heap.size, 0, none⟩)]) (by simp) (by simp [go_sem]) ?_
    refine (run_catch ⟨w.heap.size, 0, none⟩ false [] _ hlt hc hz).mono ?_
    rintro e u' w'' ⟨rfl, rfl, rfl⟩
    simp [Leaves, settle]
    refine ⟨.bool false, ?_, .inr ⟨rfl, w1, hB, hlt, rfl⟩⟩
    have hc1 : (w1.alloc (.cells #[] 117)).cell? ⟨w.heap.size, 0, none⟩ = some (.bool false) := (World.cell?_alloc_lt w1 _ ⟨w.heap.size, 0, none⟩ hlt).trans hc
    simp [results, Try.results99, go_sem, hc1]
end Go.Proofs.Ytbdomdmnjclpdaa
set_option maxRecDepth 100000
namespace Go.Proofs.Ytbdomdmnjclpdaa
open Go.RowKit

/-- An entry. -/
def ment (kd : IntKind) (x : Int × Value × Nat) : MapEntry := { key := .int kd x.1, val := x.2.1, born := x.2.2 }

structure MOk (L : List (Int × Value × Nat)) (clk : Nat) (m : Int → Option Value) : Prop where
  keys : (L.map (·.1)).Nodup
  borns : (L.map (·.2.2)).Nodup
  old : ∀ x ∈ L, x.2.2 < clk
  has : ∀ k v, m k = some v ↔ ∃ b, (k, v, b) ∈ L

/-- Block r is a map that holds just m. -/
def IMap (w : World) (r : Nat) (kd : IntKind) (m : Int → Option Value) : Prop :=
  ∃ L clk, w.heap[r]? = some (.map (L.map (ment kd)).toArray clk) ∧ MOk L clk m

/-- A block is another one. -/
def setObjW (w : World) (r : Nat) (o : Obj) : World := { w with heap := w.heap.setIfInBounds r o }

def mset (m : Int → Option Value) (k : Int) (v : Value) : Int → Option Value := fun j => if j = k then some v else m j
def mdel (m : Int → Option Value) (k : Int) : Int → Option Value := fun j => if j = k then none else m j

section
variable {w w' : World} {r : Nat} {kd : IntKind} {m : Int → Option Value}
theorem IMap.lt (h : IMap w r kd m) : r < w.heap.size := by
  obtain ⟨L, clk, hq, _⟩ := h
  exact (Array.getElem?_eq_some_iff.1 hq).1
theorem IMap.same (h : IMap w r kd m) (he : w'.heap[r]? = w.heap[r]?) : IMap w' r kd m := by
  obtain ⟨L, clk, hq, h'⟩ := h
  exact ⟨L, clk, he.trans hq, h'⟩
theorem IMap.keep (h : IMap w r kd m) {n : Nat} {S : List Nat} (hk : Keep n S w w') (hr : r < n) (hS : r ∉ S) : IMap w' r kd m := h.same (hk.block r hr hS)
theorem IMap.new (w : World) (kd : IntKind) : IMap (w.alloc (.map #[] 0)) w.heap.size kd (fun _ => none) :=
  ⟨[], 0, heap_alloc_new w _, ⟨by simp, by simp, by simp, by simp⟩⟩
theorem IMap.ne_blk {g : Nat} {t : TypeId} {cs : Array Value} (h : IMap w r kd m) (hb : Blk w g t cs) : r ≠ g := by
  rintro rfl
  obtain ⟨L, clk, hq, _⟩ := h
  unfold Blk at hb
  rw [hq] at hb
  cases hb
theorem setObjW_at (hr : r < w.heap.size) (o : Obj) : (setObjW w r o).heap[r]? = some o := by simp [setObjW, hr]
theorem setObjW_other (o : Obj) {k : Nat} (h : k ≠ r) : (setObjW w r o).heap[k]? = w.heap[k]? := by
  simp only [setObjW]
  rw [Array.getElem?_setIfInBounds_ne (by omega)]
theorem setObjW_size (o : Obj) : (setObjW w r o).heap.size = w.heap.size := by simp [setObjW]
theorem Keep.setObj {n : Nat} {S : List Nat} {w0 : World} (h : Keep n S w0 w) (hr : r < n → r ∈ S) (o : Obj) : Keep n S w0 (setObjW w r o) :=
  h.trans ⟨rfl, rfl, rfl, by simp [setObjW], fun k hk hs => setObjW_other o (fun e => hs (e ▸ hr (e ▸ hk)))⟩
end

theorem nodup_inj {α : Type} {l : List α} (h : l.Nodup) {i j : Nat} {hi : i < l.length} {hj : j < l.length} (e : l[i] = l[j]) : i = j := by
  have hp := List.pairwise_iff_getElem.1 h
  rcases Nat.lt_trichotomy i j with hlt | rfl | hlt
  · exact absurd e (hp i j hi hj hlt)
  · rfl
  · exact absurd e.symm (hp j i hj hi hlt)

section
variable {kd : IntKind}
theorem findNow_ment (k : Int) : ∀ (L : List (Int × Value × Nat)) (i : Nat),
    Instr.findNow (.int kd) (.int kd k) (L.map (ment kd)) i = some ((L.findIdx? fun x => x.1 == k).bind fun j => (L[j]?).map fun x => (i + j, x.2.1)) := by
  intro L
  induction L with
  | nil => intro i; simp [Instr.findNow]
  | cons x L ih =>
    intro i
    by_cases hx : x.1 = k
    · subst hx
      simp [Instr.findNow, Instr.sameNow, ment, List.findIdx?_cons]
    · have hb : (k == x.1) = false := by simp; omega
      have hb' : (x.1 == k) = false := by simp [hx]
      simp only [List.map_cons, Instr.findNow, Instr.sameNow, ment, if_true, hb]
      rw [ih, List.findIdx?_cons, hb']
      cases hf : L.findIdx? fun x => x.1 == k with
      | none => simp
      | some j => simp [Nat.add_assoc, Nat.add_comm 1 j]
end

section
variable {P : Program} {w : World} {r : Nat} {kd : IntKind} {m : Int → Option Value} {K E T : TypeId}

/-- Where a key's entry lies. -/
theorem MOk.at_ {L : List (Int × Value × Nat)} {clk : Nat} (h : MOk L clk m) (k : Int) :
    (m k = none ∧ L.findIdx? (fun x => x.1 == k) = none) ∨ (∃ j v b, m k = some v ∧ L.findIdx? (fun x => x.1 == k) = some j ∧ L[j]? = some (k, v, b)) := by
  cases hf : L.findIdx? fun x => x.1 == k with
  | none =>
    left
    refine ⟨?_, rfl⟩
    cases hm : m k with
    | none => rfl
    | some v =>
      obtain ⟨b, hb⟩ := (h.has k v).1 hm
      have := List.findIdx?_eq_none_iff.1 hf _ hb
      simp at this
  | some j =>
    right
    obtain ⟨hj, hp, _⟩ := List.findIdx?_eq_some_iff_getElem.1 hf
    rcases hx : L[j] with ⟨x1, x2, x3⟩
    rw [hx] at hp
    simp at hp
    subst hp
    have hmem : (x1, x2, x3) ∈ L := hx ▸ List.getElem_mem hj
    exact ⟨j, x2, x3, (h.has _ _).2 ⟨_, hmem⟩, rfl, by rw [List.getElem?_eq_getElem hj, hx]⟩

theorem findKey_run {L : List (Int × Value × Nat)} {clk : Nat} (h : MOk L clk m) (hK : P.underlying K = some (.int kd)) (k : Int) (w : World) :
    (m k = none ∧ (Instr.findKey K (.int kd k) (L.map (ment kd))).run P w = .ok none w) ∨
    (∃ j v b, m k = some v ∧ L[j]? = some (k, v, b) ∧ (Instr.findKey K (.int kd k) (L.map (ment kd))).run P w = .ok (some (j, v)) w) := by
  rcases h.at_ k with ⟨h1, h2⟩ | ⟨j, v, b, h1, h2, h3⟩
  · refine .inl ⟨h1, ?_⟩
    simp [Instr.findKey, run_underlying hK, findNow_ment, h2]
  · refine .inr ⟨j, v, b, h1, h3, ?_⟩
    simp [Instr.findKey, run_underlying hK, findNow_ment, h2, h3]

theorem checkKey_run (hK : P.underlying K = some (.int kd)) (b : Bool) (k : Int) (w : World) : (Instr.checkKey b 10000 K (.int kd k)).run P w = .ok () w := by
  rw [show (10000 : Nat) = 9999 + 1 from rfl, Instr.checkKey]
  simp [run_underlying hK]

/-- A look-up. -/
theorem lookup_ok (h : IMap w r kd m) (hT : P.underlying T = some (.map K E)) (hK : P.underlying K = some (.int kd)) (k : Int) {z : Value} (hz : (zeroValue E).run P w = .ok z w) :
    (Instr.lookup T (.map (some r)) (.int kd k) true).run P w = .ok (.tuple #[(m k).getD z, .bool (m k).isSome]) w := by
  obtain ⟨L, clk, hb, hm⟩ := h
  have hg : (getObj r).run P w = .ok (.map (L.map (ment kd)).toArray clk) w := by simp [getObj, Sem.run, hb]
  rcases findKey_run (P := P) hm hK k w with ⟨h1, h2⟩ | ⟨j, v, b, h1, h2, h3⟩
  · simp [Instr.lookup, run_underlying hT, hg, checkKey_run hK, h2, hz, h1]
  · simp [Instr.lookup, run_underlying hT, hg, checkKey_run hK, h3, h1]
theorem lookup_any (h : IMap w r kd m) (hT : P.underlying T = some (.map K E)) (hK : P.underlying K = some (.int kd)) (k : Int) {z : Value} (hz : (zeroValue E).run P w = .ok z w) :
    (Instr.lookup T (.map (some r)) (.int kd k) false).run P w = .ok ((m k).getD z) w := by
  obtain ⟨L, clk, hb, hm⟩ := h
  have hg : (getObj r).run P w = .ok (.map (L.map (ment kd)).toArray clk) w := by simp [getObj, Sem.run, hb]
  rcases findKey_run (P := P) hm hK k w with ⟨h1, h2⟩ | ⟨j, v, b, h1, h2, h3⟩
  · simp [Instr.lookup, run_underlying hT, hg, checkKey_run hK, h2, hz, h1]
  · simp [Instr.lookup, run_underlying hT, hg, checkKey_run hK, h3, h1]

/-- A store. -/
theorem update_run (h : IMap w r kd m) (hT : P.underlying T = some (.map K E)) (hK : P.underlying K = some (.int kd)) (k : Int) (v : Value) :
    ∃ o, (Instr.mapUpdate T (.map (some r)) (.int kd k) v).run P w = .ok () (setObjW w r o) ∧ IMap (setObjW w r o) r kd (mset m k v) := by
  have hlt := h.lt
  obtain ⟨L, clk, hb, hm⟩ := h
  have hg : (getObj r).run P w = .ok (.map (L.map (ment kd)).toArray clk) w := by simp [getObj, Sem.run, hb]
  have hs : ∀ o, (setObj r o).run P w = .ok () (setObjW w r o) := fun o => by simp [setObj, Sem.run, hb, setObjW]
  rcases findKey_run (P := P) hm hK k w with ⟨h1, h2⟩ | ⟨j, u, b, h1, h2, h3⟩
  · refine ⟨.map (L.map (ment kd) ++ [({ key := .int kd k, val := v, born := clk } : MapEntry)]).toArray (clk + 1), by simp [Instr.mapUpdate, run_underlying hT, hg, checkKey_run hK, h2, hs], L ++ [(k, v, clk)], clk + 1, ?_, ?_⟩
    · rw [setObjW_at hlt]
      simp [ment]
    · have hnk : ∀ x ∈ L, x.1 ≠ k := by
        rintro ⟨a, c, e⟩ hx rfl
        rw [(hm.has a c).2 ⟨e, hx⟩] at h1
        cases h1
      refine ⟨?_, ?_, ?_, ?_⟩
      · rw [List.map_append, List.nodup_append]
        refine ⟨hm.keys, by simp, ?_⟩
        intro a ha c hc
        simp at hc
        subst hc
        obtain ⟨x, hx, rfl⟩ := List.mem_map.1 ha
        exact hnk x hx
      · rw [List.map_append, List.nodup_append]
        refine ⟨hm.borns, by simp, ?_⟩
        intro a ha c hc
        simp at hc
        subst hc
        obtain ⟨x, hx, rfl⟩ := List.mem_map.1 ha
        have := hm.old x hx
        omega
      · intro x hx
        rcases List.mem_append.1 hx with hx | hx
        · have := hm.old x hx; omega
        · simp at hx; subst hx; simp
      · intro j u
        unfold mset
        by_cases hj : j = k
        · subst hj
          simp only [if_true, Option.some.injEq, List.mem_append, List.mem_singleton, Prod.mk.injEq, true_and]
          constructor
          · rintro rfl; exact ⟨clk, .inr ⟨rfl, rfl⟩⟩
          · rintro ⟨b, hb | ⟨rfl, _⟩⟩
            · exact absurd rfl (hnk _ hb)
            · rfl
        · simp only [hj, if_false, hm.has, List.mem_append, List.mem_singleton, Prod.mk.injEq, false_and, or_false]
  · have hj : j < L.length := (List.getElem?_eq_some_iff.1 h2).1
    have hLj : L[j] = (k, u, b) := (List.getElem?_eq_some_iff.1 h2).2
    refine ⟨.map ((L.map (ment kd)).modify j fun e => { e with key := .int kd k, val := v }).toArray clk, by simp [Instr.mapUpdate, run_underlying hT, hg, checkKey_run hK, h3, hs, Instr.keyThatStays, h2, ment, Instr.sameBits], L.set j (k, v, b), clk, ?_, ?_⟩
    · rw [setObjW_at hlt]
      congr 3
      rw [List.map_set]
      apply List.ext_getElem?
      intro i
      rw [List.getElem?_modify, List.getElem?_set]
      by_cases hij : j = i
      · subst hij
        simp [ment, hj, hLj]
      · simp [hij]
    · have hk1 : (L.set j (k, v, b)).map (·.1) = L.map (·.1) := by
        rw [List.map_set]
        apply List.ext_getElem?
        intro i
        rw [List.getElem?_set]
        by_cases hij : j = i
        · subst hij; simp [hj, hLj]
        · simp [hij]
      have hk2 : (L.set j (k, v, b)).map (·.2.2) = L.map (·.2.2) := by
        rw [List.map_set]
        apply List.ext_getElem?
        intro i
        rw [List.getElem?_set]
        by_cases hij : j = i
        · subst hij; simp [hj, hLj]
        · simp [hij]
      refine ⟨hk1 ▸ hm.keys, hk2 ▸ hm.borns, ?_, ?_⟩
      · intro x hx
        rcases List.mem_or_eq_of_mem_set hx with hx | rfl
        · exact hm.old x hx
        · exact hm.old (k, u, b) (hLj ▸ List.getElem_mem hj)
      · intro i y
        unfold mset
        have hone : ∀ x ∈ L, x.1 = k → x = (k, u, b) := by
          intro x hx hxk
          obtain ⟨i, hi, rfl⟩ := List.mem_iff_getElem.1 hx
          have e : (L.map (·.1))[i]'(by simpa using hi) = (L.map (·.1))[j]'(by simpa using hj) := by simp [hxk, hLj]
          have := nodup_inj hm.keys e
          subst this
          exact hLj
        by_cases hik : i = k
        · subst hik
          simp only [if_true, Option.some.injEq]
          constructor
          · rintro rfl; exact ⟨b, List.mem_iff_getElem.2 ⟨j, by simpa using hj, by simp⟩⟩
          · rintro ⟨b', hb'⟩
            rcases List.mem_or_eq_of_mem_set hb' with hx | hx
            · obtain ⟨n, hn, e⟩ := List.mem_iff_getElem.1 hb'
              rw [List.getElem_set] at e
              by_cases hjn : j = n
              · subst hjn; simp at e; exact e.1
              · simp only [hjn, if_false] at e
                have e2 : (L.map (·.1))[n]'(by simpa using hn) = (L.map (·.1))[j]'(by simpa using hj) := by simp [e, hLj]
                exact absurd (nodup_inj hm.keys e2).symm hjn
            · injection hx with _ hx; injection hx with hx _; exact hx.symm
        · simp only [hik, if_false, hm.has]
          constructor
          · rintro ⟨c, hc⟩
            refine ⟨c, ?_⟩
            obtain ⟨n, hn, e⟩ := List.mem_iff_getElem.1 hc
            refine List.mem_iff_getElem.2 ⟨n, by simpa using hn, ?_⟩
            rw [List.getElem_set]
            by_cases hjn : j = n
            · subst hjn; rw [hLj] at e; injection e with e _; exact absurd e.symm hik
            · simp [hjn, e]
          · rintro ⟨c, hc⟩
            rcases List.mem_or_eq_of_mem_set hc with hx | hx
            · exact ⟨c, hx⟩
            · injection hx with hx _; exact absurd hx hik

theorem update_keep (h : IMap w r kd m) (hT : P.underlying T = some (.map K E)) (hK : P.underlying K = some (.int kd)) (k : Int) (v : Value) :
    ∃ w', (Instr.mapUpdate T (.map (some r)) (.int kd k) v).run P w = .ok () w' ∧ IMap w' r kd (mset m k v) ∧ Keep w.heap.size [r] w w' ∧ w'.heap.size = w.heap.size := by
  obtain ⟨o, h1, h2⟩ := update_run h hT hK k v
  exact ⟨_, h1, h2, (Keep.refl _ _ _).setObj (by simp) o, setObjW_size o⟩

/-- clear. -/
theorem clear_run (h : IMap w r kd m) (hT : P.underlying T = some (.map K E)) (ty : TypeId) :
    ∃ o, (Builtin.clear_ #[T] ty #[.map (some r)]).run P w = .ok (.tuple #[]) (setObjW w r o) ∧ IMap (setObjW w r o) r kd (fun _ => none) := by
  have hlt := h.lt
  obtain ⟨L, clk, hb, hm⟩ := h
  have hg : (getObj r).run P w = .ok (.map (L.map (ment kd)).toArray clk) w := by simp [getObj, Sem.run, hb]
  have hs : ∀ o, (setObj r o).run P w = .ok () (setObjW w r o) := fun o => by simp [setObj, Sem.run, hb, setObjW]
  refine ⟨.map #[] clk, by simp [Builtin.clear_, run_underlying hT, hg, hs], [], clk, ?_, ⟨by simp, by simp, by simp, by simp⟩⟩
  rw [setObjW_at hlt]
  rfl
theorem clear_keep (h : IMap w r kd m) (hT : P.underlying T = some (.map K E)) (ty : TypeId) :
    ∃ w', (Builtin.clear_ #[T] ty #[.map (some r)]).run P w = .ok (.tuple #[]) w' ∧ IMap w' r kd (fun _ => none) ∧ Keep w.heap.size [r] w w' ∧ w'.heap.size = w.heap.size := by
  obtain ⟨o, h1, h2⟩ := clear_run h hT ty
  exact ⟨_, h1, h2, (Keep.refl _ _ _).setObj (by simp) o, setObjW_size o⟩

/-- How many entries an iterator hasn't seen. -/
def unseen (w : World) (it r : Nat) : Nat :=
  match w.heap[it]?, w.heap[r]? with
  | some (.mapIter _ _ seen _), some (.map es _) => (es.toList.filter fun e => !seen.contains e.born).length
  | _, _ => 0

theorem range_run {es : Array MapEntry} {clk : Nat} (hb : w.heap[r]? = some (.map es clk)) (hT : P.underlying T = some (.map K E)) :
    (Instr.range T (.map (some r))).run P w = .ok (.pointer (some ⟨w.heap.size, 0, none⟩)) (w.alloc (.mapIter (some r) clk #[] clk)) := by
  have hg : (getObj r).run P w = .ok (.map es clk) w := by simp [getObj, Sem.run, hb]
  simp [Instr.range, run_underlying hT, hg, newObj, Sem.run]

theorem filter_less {α : Type} (L : List α) (p q : α → Bool) (hpq : ∀ x ∈ L, p x = true → q x = true) (x : α) (hx : x ∈ L) (hq : q x = true) (hp : p x = false) : (L.filter p).length < (L.filter q).length := by
  induction L with
  | nil => cases hx
  | cons a L ih =>
    have hle : (L.filter p).length ≤ (L.filter q).length := by
      clear ih hx
      induction L with
      | nil => simp
      | cons b L ih2 =>
        have hb := hpq b (by simp)
        have := ih2 (fun y hy => hpq y (by simp at hy ⊢; rcases hy with h | h <;> simp [h]))
        simp only [List.filter_cons]
        by_cases h1 : p b = true
        · simp [h1, hb h1]; omega
        · by_cases h2 : q b = true
          · simp [h1, h2]; omega
          · simp [h1, h2]; omega
    simp only [List.filter_cons]
    rcases List.mem_cons.1 hx with rfl | hx
    · simp [hq, hp]; omega
    · have h2 := ih (fun y hy => hpq y (by simp [hy])) hx
      have ha := hpq a (by simp)
      by_cases h1 : p a = true
      · simp [h1, ha h1]; omega
      · by_cases h2 : q a = true
        · simp [h1, h2]; omega
        · simp [h1, h2]; omega

/-- A step of an iterator over a map that nobody stores into. -/
theorem next_run {L : List (Int × Value × Nat)} {clk : Nat} (hm : MOk L clk m) {it : Nat} {seen : Array Nat} (hit : w.heap[it]? = some (.mapIter (some r) clk seen clk)) (hr : w.heap[r]? = some (.map (L.map (ment kd)).toArray clk)) (ty : TypeId) :
    ((∀ x ∈ L, x.2.2 ∈ seen) ∧ (Instr.next (.pointer (some ⟨it, 0, none⟩)) false ty).run P w = .ok (.tuple #[.bool false]) w) ∨
    (∃ x ∈ L, x.2.2 ∉ seen ∧ ∃ w', (Instr.next (.pointer (some ⟨it, 0, none⟩)) false ty).run P w = .ok (.tuple #[.bool true, .int kd x.1, x.2.1]) w' ∧
      w'.heap[it]? = some (.mapIter (some r) clk (seen.push x.2.2) clk) ∧ Keep w.heap.size [it] w w' ∧ w'.heap.size = w.heap.size ∧ unseen w' it r < unseen w it r) := by
  have hgi : ∀ w' : World, w'.heap = w.heap → (getObj it).run P w' = .ok (.mapIter (some r) clk seen clk) w' := fun w' e => by simp [getObj, Sem.run, e, hit]
  have hgr : ∀ w' : World, w'.heap = w.heap → (getObj r).run P w' = .ok (.map (L.map (ment kd)).toArray clk) w' := fun w' e => by simp [getObj, Sem.run, e, hr]
  have hlt : it < w.heap.size := (Array.getElem?_eq_some_iff.1 hit).1
  have hne : it ≠ r := by rintro rfl; rw [hit] at hr; cases hr
  have hall : (!seen.isEmpty && !(L.map (ment kd)).toArray.isEmpty && (L.map (ment kd)).toArray.all (fun e => decide (e.born ≥ clk))) = false := by
    cases L with
    | nil => simp
    | cons x L =>
      have := hm.old x (by simp)
      simp [ment]
      intro _ h
      omega
  obtain ⟨left, hleft⟩ : ∃ left, left = (L.map (ment kd)).filter fun e => !seen.contains e.born := ⟨_, rfl⟩
  have hold : left.filter (fun e => decide (e.born < clk)) = left := by
    rw [List.filter_eq_self]
    intro e he
    rw [hleft] at he
    obtain ⟨x, hx, rfl⟩ := List.mem_map.1 (List.mem_filter.1 he).1
    exact decide_eq_true (hm.old x hx)
  have hnew : left.filter (fun e => decide (e.born ≥ clk)) = [] := by
    rw [List.filter_eq_nil_iff]
    intro e he
    rw [hleft] at he
    obtain ⟨x, hx, rfl⟩ := List.mem_map.1 (List.mem_filter.1 he).1
    have := hm.old x hx
    simp [ment]; omega
  cases hl : left with
  | nil =>
    left
    have hf : (L.map (ment kd)).filter (fun e => !seen.contains e.born) = [] := by rw [← hleft, hl]
    refine ⟨?_, ?_⟩
    · intro x hx
      rw [List.filter_eq_nil_iff] at hf
      have := hf (ment kd x) (List.mem_map.2 ⟨x, hx, rfl⟩)
      simpa [ment] using this
    · have h1 : ((L.map (ment kd)).toArray.filter fun e => !seen.contains e.born) = #[] := by
        rw [List.filter_toArray, hf]
      simp only [Instr.next, Sem.run_bind, hgi w rfl, hgr w rfl, Result.andThen_ok, hall, h1]
      simp [choose, Sem.run, Question.forced]
  | cons e rest =>
    right
    have h1 : ((L.map (ment kd)).toArray.filter fun e => !seen.contains e.born) = left.toArray := by
      rw [List.filter_toArray, ← hleft]
    have h2 : (left.toArray.filter fun e => decide (e.born < clk)) = left.toArray := by rw [List.filter_toArray, hold]
    have h3 : (left.toArray.filter fun e => decide (e.born ≥ clk)) = #[] := by rw [List.filter_toArray, hnew]
    have h4 : left.toArray.isEmpty = false := by rw [hl]; rfl
    have hpos : 0 < left.length := by rw [hl]; simp
    have key : ∃ k w1, k < left.length ∧ w1.heap = w.heap ∧ w1.os = w.os ∧ w1.tape = w.tape ∧ w1.output = w.output ∧ ∀ (f : Nat → Sem Value), (choose (.mapNext left.length) >>= f).run P w = (f k).run P w1 := by
      by_cases hf : left.length ≤ 1
      · exact ⟨0, w, hpos, rfl, rfl, rfl, rfl, fun f => by simp [choose, Sem.run, Question.forced, hf, bind, Sem.bind]⟩
      · exact ⟨(Question.mapNext left.length).cut (w.tape w.drawn (.mapNext left.length)), w.drew, Nat.mod_lt _ hpos, rfl, rfl, rfl, rfl, fun f => by simp only [choose, bind, Sem.bind, Sem.run, Question.forced, decide_eq_true_eq, hf, if_false]; rfl⟩
    obtain ⟨k, w1, hk, e1, e2, e3, e4, hch⟩ := key
    have hke : left[k] ∈ left := List.getElem_mem hk
    have hke2 : left[k] ∈ (L.map (ment kd)).filter fun e => !seen.contains e.born := by rw [← hleft]; exact hke
    obtain ⟨x, hx, hxe⟩ := List.mem_map.1 (List.mem_filter.1 hke2).1
    have hns : x.2.2 ∉ seen := by
      have := (List.mem_filter.1 hke2).2
      rw [← hxe] at this
      simpa [ment] using this
    have hs1 : (setObj it (.mapIter (some r) clk (seen.push x.2.2) clk)).run P w1 = .ok () (setObjW w1 it (.mapIter (some r) clk (seen.push x.2.2) clk)) := by
      simp [setObj, Sem.run, e1, hit, setObjW]
    have hat : (setObjW w1 it (.mapIter (some r) clk (seen.push x.2.2) clk)).heap[it]? = some (.mapIter (some r) clk (seen.push x.2.2) clk) := setObjW_at (by rw [e1]; exact hlt) _
    have hat2 : (setObjW w1 it (.mapIter (some r) clk (seen.push x.2.2) clk)).heap[r]? = w.heap[r]? := by rw [setObjW_other _ (by omega), e1]
    refine ⟨x, hx, hns, setObjW w1 it (.mapIter (some r) clk (seen.push x.2.2) clk), ?_, hat, ?_, ?_, ?_⟩
    · have hsz : (((if left.toArray.isEmpty = true then #[none] else #[]) ++ Array.map some (left.toArray ++ #[]) : Array (Option MapEntry)).size) = left.length := by simp [h4]
      simp only [Instr.next, Sem.run_bind, hgi w rfl, hgr w rfl, Result.andThen_ok, hall, h1, h2, h3]
      simp only [Bool.false_eq_true, if_false, hsz]
      have := hch fun d => (match ((if left.toArray.isEmpty = true then #[none] else #[]) ++ Array.map some (left.toArray ++ #[]) : Array (Option MapEntry))[d]? with
          | some (some e) => do
            setObj it (Obj.mapIter (some r) clk (seen.push e.born) clk)
            pure (Value.tuple #[Value.bool true, e.key, e.val])
          | some none => pure (Value.tuple #[Value.bool false])
          | none => stuck "Next: no such candidate")
      refine this.trans ?_
      have hc : ((if left.toArray.isEmpty = true then #[none] else #[]) ++ Array.map some (left.toArray ++ #[]) : Array (Option MapEntry))[k]? = some (some (ment kd x)) := by
        simp [h4, hk, hxe]
      rw [hc]
      simp [ment, hs1]
    · exact ⟨e2, e3, e4, by simp [setObjW, e1], fun j hj hs => by rw [setObjW_other _ (by simpa using hs), e1]⟩
    · simp [setObjW, e1]
    · unfold unseen
      rw [hat, hat2, hit, hr]
      simp only
      refine filter_less _ _ _ (fun y hy h => ?_) (ment kd x) (by simp; exact ⟨_, _, _, hx, rfl⟩) ?_ ?_
      · simp at h ⊢; exact h.1
      · simp [ment]; exact hns
      · simp [ment]

theorem entry_run {L : List (Int × Value × Nat)} {clk : Nat} (hm : MOk L clk m) {it : Nat} {seen : Array Nat} {x : Int × Value × Nat} (hx : x ∈ L) (hit : w.heap[it]? = some (.mapIter (some r) clk (seen.push x.2.2) clk))
    (hr : w.heap[r]? = some (.map (L.map (ment kd)).toArray clk)) :
    (Instr.entry (.pointer (some ⟨it, 0, none⟩))).run P w = .ok (.tuple #[.int kd x.1, x.2.1]) w := by
  have hgi : (getObj it).run P w = .ok (.mapIter (some r) clk (seen.push x.2.2) clk) w := by simp [getObj, Sem.run, hit]
  have hgr : (getObj r).run P w = .ok (.map (L.map (ment kd)).toArray clk) w := by simp [getObj, Sem.run, hr]
  have hf : (L.map (ment kd)).find? (fun e => e.born == x.2.2) = some (ment kd x) := by
    have hb := hm.borns
    clear hm hr hgr
    induction L with
    | nil => cases hx
    | cons a L ih =>
      rw [List.map_cons, List.find?_cons]
      by_cases ha : a.2.2 = x.2.2
      · have hax : a = x := by
          rcases List.mem_cons.1 hx with rfl | hx
          · rfl
          · simp only [List.map_cons, List.nodup_cons] at hb
            exact absurd (List.mem_map.2 ⟨x, hx, ha.symm⟩) hb.1
        subst hax
        simp [ment]
      · have hne : ((ment kd a).born == x.2.2) = false := by simpa [ment] using ha
        rw [hne]
        simp only [List.map_cons, List.nodup_cons] at hb
        refine ih ?_ hb.2
        rcases List.mem_cons.1 hx with rfl | hx
        · exact absurd rfl ha
        · exact hx
  simp [Instr.entry, hgi, hgr, hf, ment]
end
end Go.Proofs.Ytbdomdmnjclpdaa
set_option maxRecDepth 100000
namespace Go.Proofs.Ytbdomdmnjclpdaa
open Go.RowKit
section
variable {P : Program} {T E A : TypeId} {n k : Nat}
theorem sizeOf_run (hE : (P.info? E).map (·.size) = some k) (w : World) : (sizeOf E).run P w = .ok k w := by
  cases hq : P.info? E with
  | none => simp [hq] at hE
  | some i =>
    have hs : i.size = k := by simpa [hq] using hE
    simp [sizeOf, typeInfo, hq, hs]
theorem slice_lh (hT : P.underlying T = some (.slice E)) (hE : (P.info? E).map (·.size) = some 1) (g off n c l h : Nat) (k k' : IntKind) (a b : Int) (ha : a = l) (hb : b = h) (h1 : l < h) (h2 : h ≤ c) (w : World) :
    (Instr.slice T (.slice (some ⟨g, off, none⟩) n c) (some (.int k a)) (some (.int k' b)) none).run P w = .ok (.slice (some ⟨g, off + l, none⟩) (h - l) (c - l)) w := by
  subst ha hb
  have e1 : (l : Int) ≤ (h : Int) := by omega
  have e2 : (h : Int) ≤ (c : Int) := by omega
  have e3 : ¬ c = l := by omega
  simp [Instr.slice, run_underlying hT, Instr.sliceBounds, run_sliceBound, e1, e2, sizeOf_run hE, e3, Addr.add_mid]
theorem slice_l (hT : P.underlying T = some (.slice E)) (hE : (P.info? E).map (·.size) = some 1) (g off n c l : Nat) (k : IntKind) (a : Int) (ha : a = l) (h1 : l ≤ n) (h2 : l < c) (w : World) :
    (Instr.slice T (.slice (some ⟨g, off, none⟩) n c) (some (.int k a)) none none).run P w = .ok (.slice (some ⟨g, off + l, none⟩) (n - l) (c - l)) w := by
  subst ha
  have e1 : (l : Int) ≤ (n : Int) := by omega
  have e3 : ¬ c = l := by omega
  simp [Instr.slice, run_underlying hT, Instr.sliceBounds, run_sliceBound, e1, sizeOf_run hE, e3, Addr.add_mid]
theorem arrayAt_run (hA : P.underlying A = some (.array n E)) (p : Option Addr) (m c : Nat) (h : n ≤ m) (w : World) :
    (Instr.arrayAt A (.slice p m c)).run P w = .ok (.pointer p) w := by
  have : ¬ m < n := by omega
  simp [Instr.arrayAt, run_underlying hA, this]
/-- A still load of a whole row in the middle of a block. -/
theorem still_load_mid {ops : Array Oper} {rest : List Oper} {op : Oper} {a : Act} {w : World} {Q : Act → Prop} (hgd : op.guard = none) (ty : TypeId) (x : Operand) (ho : op.op = .load ty x)
    (b o : Nat) (hx : a.eval x = .pointer (some ⟨b, o, none⟩)) (cs : List Value) (d : TypeDesc) (hc : w.rangeAt b o cs)
    (hu : P.underlying ty = some d) (hd : d.isRow = true) (hi : (P.info? ty).map (·.size) = some cs.length)
    (h : wpStill P ops w Q rest (a.put op.dst (.agg cs.toArray))) : wpStill P ops w Q (op :: rest) a := by
  refine wpStill_step fun K hK => ?_
  rw [if_pos (by simp [Region.wanted, hgd])]
  unfold Oper.still execOp
  simp only [ho, hx, Instr.loadAt, Instr.sureAddr, Sem.run_bind, Sem.run_pure, Result.andThen_ok, run_loadVar_mid w b o ty cs d hc hu hd hi]
  exact ⟨rfl, hK _ h⟩
/-- copy, into a row that is known whole. -/
theorem copy_blk {dT sT ty elem : TypeId} (hu : P.underlying dT = some (.slice elem)) (hsz : (P.info? elem).map (·.size) = some 1) {w : World} {g : Nat} {t : TypeId} {cur : Array Value} (hb : Blk w g t cur)
    (dp sp : Option Addr) (dLen dCap sLen sCap off : Nat) (cs : List Value) (hn : cs.length = min sLen dLen)
    (hpos : 0 < cs.length → dp = some ⟨g, off, none⟩ ∧ ∃ g2 o2, sp = some ⟨g2, o2, none⟩ ∧ ∀ j v, cs[j]? = some v → w.cell? ⟨g2, o2 + j, none⟩ = some v)
    (hfit : off + cs.length ≤ cur.size) (h1 : ∀ v ∈ cs, v.oneCell' = true) :
    ∃ w', (Builtin.copy_ #[dT, sT] ty #[.slice dp dLen dCap, .slice sp sLen sCap]).run P w = .ok (goInt cs.length) w' ∧ Blk w' g t (splice cur.toList off cs).toArray ∧ Keep w.heap.size [g] w w' ∧ w'.heap.size = w.heap.size := by
  by_cases h0 : cs.length = 0
  · refine ⟨w, ?_, ?_, Keep.refl _ _ _, rfl⟩
    · rw [h0]
      exact run_copy_none (P := P) w dT sT ty elem dp sp dLen dCap sLen sCap hu hsz (by rw [h0] at hn; exact hn.symm)
    · obtain rfl : cs = [] := List.eq_nil_of_length_eq_zero h0
      simpa [splice] using hb
  · obtain ⟨rfl, g2, o2, rfl, hsrc⟩ := hpos (by omega)
    refine ⟨_, run_copy_row (P := P) w dT sT ty elem g off dLen dCap ⟨g2, o2, none⟩ sLen sCap cur t cs hu hsz hb hn (fun j v hv => by rw [Addr.add_mid]; exact hsrc j v hv) hfit h1, ?_, ?_, ?_⟩
    · have := setRow_heap w g cur (cur.toList.take off ++ cs ++ cur.toList.drop (off + cs.length)).toArray t _ hb
      unfold Blk splice
      rw [← List.append_assoc]
      exact this
    · exact ⟨rfl, rfl, rfl, by simp [World.setRow], fun k hk hs => setRow_other w g k _ (by simpa using hs)⟩
    · simp [World.setRow]
end
end Go.Proofs.Ytbdomdmnjclpdaa
set_option maxRecDepth 100000
namespace Go.Proofs.Ytbdomdmnjclpdaa
open Go.RowKit Go.Shelf

/-- Words as values. -/
def uw (xs : List Int) : List Value := xs.map (Value.int .u64)

/-- Where a device's parts lie. -/
structure DevI where
  b : Nat
  p : Nat
  nb : Nat
  kb : Nat
  qb : Nat
  kx : List Value

def DevI.blocks (d : DevI) : List Nat := [d.b, d.p, d.nb, d.kb, d.qb]

/-- How a device stands: its power; what stands, what is kept, what is to be kept. -/
structure St where
  l : Int
  u : Int
  now : List Int
  kept : List Int
  q : Nat → Option (List Int)

/-- The queue as a map. -/
def qmap (q : Nat → Option (List Int)) : Int → Option Value := fun k => if 0 ≤ k then (q k.toNat).map fun l => .agg (uw l).toArray else none

def Queue (w : World) (qb n : Nat) (q : Nat → Option (List Int)) : Prop :=
  IMap w qb .i64 (qmap q) ∧ ∀ j l, q j = some l → l.length = 8 ∧ 8 * j + 8 ≤ n

structure Dev (w : World) (d : DevI) (s : St) : Prop where
  pow : Pow w d.p s.l s.u
  blk : Blk w d.b 74 #[.pointer (some ⟨d.p, 0, none⟩), .slice (some ⟨d.nb, 0, none⟩) s.now.length s.now.length, .slice (some ⟨d.kb, 0, none⟩) s.now.length (s.now.length + d.kx.length), .map (some d.qb)]
  now : Blk w d.nb 38 (uw s.now).toArray
  kept : Blk w d.kb 38 (uw s.kept ++ d.kx).toArray
  queue : Queue w d.qb s.now.length s.q
  lk : s.kept.length = s.now.length
  l8 : ∃ m, s.now.length = 8 * m
  small : s.now.length ≤ 1099511627776
  nodup : d.blocks.Nodup

theorem getElem?_toArray_uw (xs : List Int) (i : Nat) : (uw xs).toArray[i]? = xs[i]?.map (Value.int .u64) := by simp [uw]

section
variable {w w' : World} {d : DevI} {s : St}
theorem Dev.cells (h : Dev w d s) : w.cell? ⟨d.b, 0, none⟩ = some (.pointer (some ⟨d.p, 0, none⟩)) ∧ w.cell? ⟨d.b, 1, none⟩ = some (.slice (some ⟨d.nb, 0, none⟩) s.now.length s.now.length) ∧
    w.cell? ⟨d.b, 2, none⟩ = some (.slice (some ⟨d.kb, 0, none⟩) s.now.length (s.now.length + d.kx.length)) ∧ w.cell? ⟨d.b, 3, none⟩ = some (.map (some d.qb)) := by
  have h0 := h.blk.cell 0
  have h1 := h.blk.cell 1
  have h2 := h.blk.cell 2
  have h3 := h.blk.cell 3
  simp at h0 h1 h2 h3
  exact ⟨h0, h1, h2, h3⟩
theorem Dev.qlt (h : Dev w d s) : d.qb < w.heap.size := by
  exact h.queue.1.lt
theorem Dev.lt (h : Dev w d s) : ∀ k ∈ d.blocks, k < w.heap.size := by
  intro k hk
  simp only [DevI.blocks, List.mem_cons, List.not_mem_nil, or_false] at hk
  rcases hk with rfl | rfl | rfl | rfl | rfl
  · exact h.blk.lt
  · exact Blk.lt h.pow
  · exact h.now.lt
  · exact h.kept.lt
  · exact h.qlt
/-- A device whose blocks are as they were. -/
theorem Dev.same (h : Dev w d s) (hb : ∀ k ∈ d.blocks, w'.heap[k]? = w.heap[k]?) : Dev w' d s := by
  have e := fun k hk => hb k (by simp only [DevI.blocks, List.mem_cons, List.not_mem_nil, or_false]; exact hk)
  exact { h with
    pow := (e d.p (by simp)).trans h.pow
    blk := (e d.b (by simp)).trans h.blk
    now := (e d.nb (by simp)).trans h.now
    kept := (e d.kb (by simp)).trans h.kept
    queue := ⟨h.queue.1.same (e d.qb (by simp)), h.queue.2⟩ }
theorem Dev.keep (h : Dev w d s) {n : Nat} {S : List Nat} (hk : Keep n S w w') (hn : ∀ k ∈ d.blocks, k < n ∧ k ∉ S) : Dev w' d s :=
  h.same fun k hm => hk.block k (hn k hm).1 (hn k hm).2
/-- The heap alone counts. -/
theorem Dev.heap (h : Dev w d s) (he : w'.heap = w.heap) : Dev w' d s := h.same fun k _ => by rw [he]
theorem Dev.power (h : Dev w d s) {l u : Int} (hp : Pow w' d.p l u) (hk : Keep w.heap.size [d.p] w w') : Dev w' d { s with l, u } := by
  have hn := h.nodup
  simp only [DevI.blocks, List.nodup_cons, List.mem_cons, not_or, List.not_mem_nil, not_false_eq_true, and_true] at hn
  have e : ∀ k ∈ d.blocks, k ≠ d.p → w'.heap[k]? = w.heap[k]? := fun k hm hne => hk.block k (h.lt k hm) (by simpa using hne)
  have e := fun k hk => e k (by simp only [DevI.blocks, List.mem_cons, List.not_mem_nil, or_false]; exact hk)
  exact { h with
    pow := hp
    blk := (e d.b (by simp) (by omega)).trans h.blk
    now := (e d.nb (by simp) (by omega)).trans h.now
    kept := (e d.kb (by simp) (by omega)).trans h.kept
    queue := ⟨h.queue.1.same (e d.qb (by simp) (by omega)), h.queue.2⟩ }
end

set_option maxHeartbeats 400000 in
theorem len_any (d : DevI) (s : St) (w : World) (h : Dev w d s) :
    Calls Try.prog 69 #[.pointer (some ⟨d.b, 0, none⟩)] w fun e w' => e = .returned (.int .i64 s.now.length) ∧ w = w' := by
  obtain ⟨_, hc, _, _⟩ := h.cells
  clear h
  go_enter Try.func69, Try.ntmps69
  go_wp2
  go_ret
  exact ⟨rfl, rfl⟩

/-- Is there such a word? -/
def inN (n : Nat) (i : Int) : Bool := decide (0 ≤ i) && decide (i < n)

set_option maxHeartbeats 400000 in
theorem has_any (d : DevI) (s : St) (i : Int) (w : World) (h : Dev w d s) :
    Calls Try.prog 47 #[.pointer (some ⟨d.b, 0, none⟩), .int .i64 i] w fun e w' => e = .returned (.bool (inN s.now.length i)) ∧ w = w' := by
  obtain ⟨_, hc, _, _⟩ := h.cells
  clear h
  by_cases h0 : 0 ≤ i
  · by_cases h1 : i < s.now.length
    · have e : inN s.now.length i = true := by simp [inN, h0, h1]
      rw [e]
      go_enter Try.func47, Try.ntmps47
      go_wp2
      go_ret
      simp
    · have e : inN s.now.length i = false := by simp [inN, h0, h1]
      rw [e]
      go_enter Try.func47, Try.ntmps47
      go_wp2
      go_ret
      simp
  · have e : inN s.now.length i = false := by simp [inN, h0]
    rw [e]
    go_enter Try.func47, Try.ntmps47
    go_wp2
    go_ret
    simp

theorem len_small {w : World} {d : DevI} {s : St} (h : Dev w d s) : s.now.length ≤ 1099511627776 := h.small
theorem now_cell {w : World} {d : DevI} {s : St} (h : Dev w d s) {i : Nat} (hi : i < s.now.length) : w.cell? ⟨d.nb, i, none⟩ = some (.int .u64 (s.now[i])) := by
  rw [h.now.cell, getElem?_toArray_uw]; simp [hi]

/-- What a word is, 0 of none. -/
def wordAt (xs : List Int) (i : Int) : Int := if 0 ≤ i then xs.getD i.toNat 0 else 0

set_option maxHeartbeats 400000 in
theorem load_any (d : DevI) (s : St) (i : Int) (w : World) (h : Dev w d s) :
    Calls Try.prog 32 #[.pointer (some ⟨d.b, 0, none⟩), .int .i64 i] w fun e w' => e = .returned (.int .u64 (wordAt s.now i)) ∧ w = w' := by
  obtain ⟨_, hc, _, _⟩ := h.cells
  have hhas := has_any d s i w h
  by_cases hi : 0 ≤ i ∧ i < s.now.length
  · obtain ⟨k, rfl⟩ := Int.eq_ofNat_of_zero_le hi.1
    have hk : k < s.now.length := by omega
    have hw := now_cell h hk
    have hsm := h.small
    have e : inN s.now.length k = true := by simp [inN, hk]
    have e2 : wordAt s.now (k : Int) = s.now[k] := by simp [wordAt, hk]
    rw [e] at hhas
    rw [e2]
    have h1 : (k : Int) < s.now.length := by omega
    clear h hi e e2
    go_enter Try.func32, Try.ntmps32
    go_wp2_with fail
    refine hhas.mono ?_
    rintro e w' ⟨rfl, rfl⟩
    go_wp2
    go_ret
    simp
  · have e : inN s.now.length i = false := by simp only [inN, Bool.and_eq_false_iff, decide_eq_false_iff_not]; omega
    have e2 : wordAt s.now i = 0 := by
      unfold wordAt
      split
      · rw [List.getD, List.getElem?_eq_none (by omega)]; rfl
      · rfl
    rw [e] at hhas
    rw [e2]
    clear h hi e e2
    go_enter Try.func32, Try.ntmps32
    go_wp2_with fail
    refine hhas.mono ?_
    rintro e w' ⟨rfl, rfl⟩
    go_wp2
    go_ret
    simp

def St.tick (s : St) : St := { s with u := wrap64 (s.u + 1) }
def St.store (s : St) (k : Nat) (v : Int) : St := { s.tick with now := s.now.set k v }
abbrev St.goes (s : St) : Prop := Go.Proofs.Ytbdomdmnjclpdaa.goes s.l s.u

def Did (w : World) (d : DevI) (v : Value) (s' : St) (e : Ending) (w' : World) : Prop := e = .returned v ∧ Dev w' d s' ∧ Keep w.heap.size d.blocks w w'
def Cut (w : World) (d : DevI) (s' : St) (e : Ending) (w' : World) : Prop := e = offE ∧ Dev w' d s' ∧ Keep w.heap.size d.blocks w w'

theorem tick_dev (d : DevI) (s : St) (w : World) (h : Dev w d s) :
    Calls Try.prog 48 #[.pointer (some ⟨d.p, 0, none⟩)] w fun e w' =>
      (¬ s.goes ∧ Did w d (.tuple #[]) s.tick e w') ∨ (s.goes ∧ Cut w d s e w') := by
  refine (tick_any d.p s.l s.u w h.pow).mono ?_
  rintro e w' (⟨hg, rfl, n, rfl⟩ | ⟨hg, rfl, n, rfl⟩)
  · refine .inl ⟨hg, rfl, ?_⟩
    have hk : Keep w.heap.size [d.p] w ((w.drewN n).setCell ⟨d.p, 1, none⟩ (.int .i64 (wrap64 (s.u + 1)))) := ((Keep.refl _ _ _).drewN n).setCell (by simp) _
    refine ⟨Dev.power h ?_ hk, hk.sub (by intro k _ hm; simp at hm; simp [DevI.blocks, hm])⟩
    have := (Blk.drewN h.pow n).set_ 1 (.int .i64 (wrap64 (s.u + 1)))
    simpa [Pow] using this
  · exact .inr ⟨hg, rfl, h.heap rfl, (Keep.refl _ _ _).drewN n⟩

/-- A word of now is another one. -/
theorem Dev.setNow {w : World} {d : DevI} {s : St} (h : Dev w d s) {k : Nat} (_hk : k < s.now.length) (v : Int) :
    Dev (w.setCell ⟨d.nb, k, none⟩ (.int .u64 v)) d { s with now := s.now.set k v } := by
  have hn := h.nodup
  simp only [DevI.blocks, List.nodup_cons, List.mem_cons, not_or, List.not_mem_nil, not_false_eq_true, and_true] at hn
  exact { h with
    pow := Blk.far h.pow (by simp; omega) _
    blk := by simpa using h.blk.far (p := ⟨d.nb, k, none⟩) (by simp; omega) _
    now := by simpa [uw, List.map_set] using h.now.set_ k (.int .u64 v)
    kept := by simpa using h.kept.far (p := ⟨d.nb, k, none⟩) (by simp; omega) _
    queue := ⟨h.queue.1.same (Below.heap_setCell _ _ _ _ (by simp; omega)), by simpa using h.queue.2⟩
    lk := by simpa using h.lk
    l8 := by simpa using h.l8
    small := by simpa using h.small }

set_option maxHeartbeats 400000 in
theorem store_out (d : DevI) (s : St) (i v : Int) (w : World) (h : Dev w d s) (hi : ¬ (0 ≤ i ∧ i < s.now.length)) :
    Calls Try.prog 27 #[.pointer (some ⟨d.b, 0, none⟩), .int .i64 i, .int .u64 v] w fun e w' => e = .returned (.int .i64 1) ∧ w = w' := by
  have hhas := has_any d s i w h
  have e : inN s.now.length i = false := by simp only [inN, Bool.and_eq_false_iff, decide_eq_false_iff_not]; omega
  rw [e] at hhas
  clear h hi e
  go_enter Try.func27, Try.ntmps27
  go_wp2_with fail
  refine hhas.mono ?_
  rintro e w' ⟨rfl, rfl⟩
  go_wp2
  go_ret
  simp

set_option maxHeartbeats 400000 in
theorem store_in (d : DevI) (s : St) (k : Nat) (v : Int) (w : World) (h : Dev w d s) (hk : k < s.now.length) :
    Calls Try.prog 27 #[.pointer (some ⟨d.b, 0, none⟩), .int .i64 k, .int .u64 v] w fun e w' =>
      (¬ s.goes ∧ Did w d (.int .i64 0) (s.store k v) e w') ∨ (s.goes ∧ Cut w d s e w') := by
  have hhas := has_any d s k w h
  have e : inN s.now.length k = true := by simp [inN, hk]
  rw [e] at hhas
  obtain ⟨hc0, hc1, _, _⟩ := h.cells
  have H := Lib.hid h
  clear h e
  go_enter Try.func27, Try.ntmps27
  go_wp2_with fail
  refine hhas.mono ?_
  rintro e w' ⟨rfl, rfl⟩
  clear hhas
  go_wp2_with fail
  refine (tick_dev d s w H.out).mono ?_
  rintro e w1 (⟨hg, rfl, h1, hk1⟩ | ⟨hg, rfl, h1, hk1⟩)
  · obtain ⟨_, hd1, _, _⟩ := h1.cells
    have hw := now_cell h1 hk
    have hz := h1.now.frozen k
    have hsm := h1.small
    simp only [St.tick] at hw hd1 hsm
    have H1 := Lib.hid h1
    have HK := Lib.hid hk1
    clear h1 hk1 H hc0 hc1
    have hlt : (k : Int) < s.now.length := by omega
    go_wp2
    go_ret
    refine .inl ⟨hg, rfl, H1.out.setNow hk v, HK.out.setCell ?_ _⟩
    simp [DevI.blocks]
  · have H1 := Lib.hid h1
    have HK := Lib.hid hk1
    clear h1 hk1 H hc0 hc1
    unfold offE
    go_wp2
    exact ⟨rfl, .inr ⟨hg, rfl, H1.out, HK.out⟩⟩

def line (xs : List Int) (m : Nat) : List Int := (xs.drop (8 * m)).take 8
def St.flush (s : St) (k : Nat) : St := { s.tick with q := fun j => if j = k / 8 then some (line s.now (k / 8)) else s.q j }

theorem line_length (xs : List Int) (m : Nat) (h : 8 * m + 8 ≤ xs.length) : (line xs m).length = 8 := by simp [line]; omega

theorem qmap_set (q : Nat → Option (List Int)) (j : Nat) (l : List Int) : mset (qmap q) j (.agg (uw l).toArray) = qmap fun i => if i = j then some l else q i := by
  funext k
  unfold mset qmap
  by_cases hk : 0 ≤ k
  · obtain ⟨n, rfl⟩ := Int.eq_ofNat_of_zero_le hk
    by_cases hn : n = j
    · subst hn; simp
    · have : ¬ ((n : Int) = j) := by omega
      simp [this, hn]
  · have : ¬ k = j := by omega
    simp [hk, this]

theorem Dev.setQueue {w w' : World} {d : DevI} {s : St} (h : Dev w d s) {q : Nat → Option (List Int)} (hk : Keep w.heap.size [d.qb] w w') (hq : Queue w' d.qb s.now.length q) : Dev w' d { s with q } := by
  have hn := h.nodup
  simp only [DevI.blocks, List.nodup_cons, List.mem_cons, not_or, List.not_mem_nil, not_false_eq_true, and_true] at hn
  have e : ∀ k ∈ d.blocks, k ≠ d.qb → w'.heap[k]? = w.heap[k]? := fun k hm hne => hk.block k (h.lt k hm) (by simpa using hne)
  have e := fun k hk => e k (by simp only [DevI.blocks, List.mem_cons, List.not_mem_nil, or_false]; exact hk)
  exact { h with
    pow := (e d.p (by simp) (by omega)).trans h.pow
    blk := (e d.b (by simp) (by omega)).trans h.blk
    now := (e d.nb (by simp) (by omega)).trans h.now
    kept := (e d.kb (by simp) (by omega)).trans h.kept
    queue := hq }

theorem underlying_queue : Try.prog.underlying 72 = some (.map 3 118) := by kernel_rfl
theorem underlying_words : Try.prog.underlying 31 = some (.slice 38) := by kernel_rfl
theorem size_word : (Try.prog.info? 38).map (·.size) = some 1 := by kernel_rfl
theorem underlying_int : Try.prog.underlying 3 = some (.int .i64) := by kernel_rfl
theorem underlying_line : Try.prog.underlying 118 = some (.array 8 38) := by kernel_rfl
theorem size_line : (Try.prog.info? 118).map (·.size) = some 8 := by kernel_rfl

theorem now_range {w : World} {d : DevI} {s : St} (h : Dev w d s) {m : Nat} (_hm : 8 * m + 8 ≤ s.now.length) : w.rangeAt d.nb (8 * m) (uw (line s.now m)) := by
  intro j v hv
  rw [h.now.cell, getElem?_toArray_uw]
  simp only [uw, line, List.getElem?_map, List.getElem?_take, List.getElem?_drop] at hv
  split at hv
  · exact hv
  · cases hv

set_option maxHeartbeats 400000 in
theorem flush_in (d : DevI) (s : St) (k : Nat) (w : World) (h : Dev w d s) (hk : k < s.now.length) :
    Calls Try.prog 53 #[.pointer (some ⟨d.b, 0, none⟩), .int .i64 k] w fun e w' =>
      (¬ s.goes ∧ Did w d (.int .i64 0) (s.flush k) e w') ∨ (s.goes ∧ Cut w d s e w') := by
  have hhas := has_any d s k w h
  have e : inN s.now.length k = true := by simp [inN, hk]
  rw [e] at hhas
  obtain ⟨hc0, hc1, _, _⟩ := h.cells
  have H := Lib.hid h
  clear h e
  go_enter Try.func53, Try.ntmps53
  go_wp2_with fail
  refine hhas.mono ?_
  rintro e w' ⟨rfl, rfl⟩
  clear hhas
  go_wp2_with fail
  refine (tick_dev d s w H.out).mono ?_
  rintro e w1 (⟨hg, rfl, h1, hk1⟩ | ⟨hg, rfl, h1, hk1⟩)
  · obtain ⟨_, hd1, _, hd3⟩ := h1.cells
    have hsm := h1.small
    simp only [St.tick] at hd1 hsm
    have H1 := Lib.hid h1
    have HK := Lib.hid hk1
    clear h1 hk1 H hc0 hc1
    have hlt : (k : Int) < s.now.length := by omega
    obtain ⟨m, hm⟩ : ∃ m, m = k / 8 := ⟨_, rfl⟩
    obtain ⟨o, ho⟩ : ∃ o, o = 8 * m := ⟨_, rfl⟩
    obtain ⟨m1, hm1⟩ : ∃ m1, m1 = m + 1 := ⟨_, rfl⟩
    obtain ⟨n8, hn8⟩ := H1.out.l8
    simp only [St.tick] at hn8
    have e0 : (k : Int) / 8 = (m : Int) := by omega
    have e1 : IntKind.i64.wrap ((m : Int) * 8) = (o : Int) := by rw [IntWalk.i64_in _ (by omega)]; omega
    have e2 : IntKind.i64.wrap ((m : Int) + 1) = (m1 : Int) := by rw [IntWalk.i64_in _ (by omega)]; omega
    have e3 : IntKind.i64.wrap ((m1 : Int) * 8) = (o : Int) + 8 := by rw [IntWalk.i64_in _ (by omega)]; omega
    have hlo : (o : Int) + 8 ≤ s.now.length := by omega
    have hlo' : o + 8 ≤ s.now.length := by omega
    have Hm := Lib.hid hm
    have Ho := Lib.hid ho
    have Hn := Lib.hid hn8
    clear hm hm1 hn8
    have hsl := fun w => slice_lh (P := Try.prog) underlying_words size_word d.nb 0 s.now.length s.now.length o (o + 8) .i64 .i64 o ((o : Int) + 8) rfl (by omega) (by omega) hlo' w
    simp only [Nat.zero_add] at hsl
    have har := fun w => arrayAt_run (P := Try.prog) underlying_line (some ⟨d.nb, o, none⟩) 8 (s.now.length - o) (by omega) w
    have hrg := now_range H1.out (m := m) (by simp only [St.tick]; omega)
    rw [← ho] at hrg
    simp only [St.tick] at hrg
    clear ho
    have HR := Lib.hid hrg
    clear hrg
    go_wp2
    refine wp_region_still_tail 17 (by kernel_rfl) (by kernel_rfl) ?_
    simp only [List.take_succ_cons, List.take_zero, List.drop_succ_cons, List.drop_zero]
    repeat still_step
    refine still_load_mid rfl 118 (.tmp 32) rfl d.nb o rfl (uw (line s.now m)) _ HR.out underlying_line rfl (by rw [uw, List.length_map, line_length _ _ (by have := Ho.out; omega)]; exact size_line) ?_
    refine wpStill_nil ?_
    obtain ⟨w2, hrun, hmap, hk2, hsz⟩ := update_keep (P := Try.prog) (w := w1.drew) (H1.out.queue.1.same rfl) underlying_queue underlying_int m (.agg (uw (line s.now m)).toArray)
    have HM := Lib.hid hmap
    have HK2 := Lib.hid hk2
    clear har hsl hmap hk2 hsz
    go_wp2
    go_ret
    have hk' : Keep w1.heap.size [d.qb] w1 w2 := HK2.out.undrew
    refine .inl ⟨hg, rfl, ?_, HK.out.join (S' := [d.qb]) hk' HK.out.size (by intro k _ hm; simp at hm; simp [DevI.blocks, hm])⟩
    refine H1.out.setQueue hk' ⟨?_, ?_⟩
    · have := HM.out
      rw [qmap_set, Hm.out] at this
      exact this
    · intro j l hj
      have h8 := Ho.out
      have h9 := Hm.out
      dsimp only at hj
      split at hj
      · rename_i hjk
        injection hj with hj
        subst hj hjk
        simp only [St.tick]
        exact ⟨line_length _ _ (by omega), by omega⟩
      · exact H1.out.queue.2 j l hj
  · have H1 := Lib.hid h1
    have HK := Lib.hid hk1
    clear h1 hk1 H hc0 hc1
    unfold offE
    go_wp2
    exact ⟨rfl, .inr ⟨hg, rfl, H1.out, HK.out⟩⟩
end Go.Proofs.Ytbdomdmnjclpdaa
set_option maxRecDepth 100000
namespace Go.Proofs.Ytbdomdmnjclpdaa
open Go.RowKit Go.Shelf

theorem info_word : (Try.prog.info? 38).map (fun i => (i.zero, i.size, i.bytes)) = some (some (.int .u64 0), 1, 8) := by kernel_rfl

/-- What a new row of words is: a slice over a block of its own. -/
structure NewRow (w w' : World) (v : Value) (xs : List Value) (g : Nat) (ex : List Value) : Prop where
  val : v = .slice (some ⟨g, 0, none⟩) xs.length (xs.length + ex.length)
  blk : Blk w' g 38 (xs ++ ex).toArray
  new : w.heap.size ≤ g
  keep : Keep w.heap.size [] w w'

set_option maxHeartbeats 400000 in
theorem clone_any (g off c : Nat) (xs : List Value) (w : World) (hx : ∀ j u, xs[j]? = some u → w.cell? ⟨g, off + j, none⟩ = some u) (h1 : ∀ u ∈ xs, u.oneCell' = true) (hl : xs.length ≤ 1099511627776) :
    Calls Try.prog 8 #[.slice (some ⟨g, off, none⟩) xs.length c] w fun e w' => ∃ v g' ex, e = .returned v ∧ NewRow w w' v xs g' ex := by
  obtain ⟨i0, hi, hz0, hz1, hz2⟩ := info_parts info_word
  have HX := Lib.hid hx
  have HL := Lib.hid hl
  clear hx
  have hnil := fun (w : World) => Lib.run_eql_slice_nil (P := Try.prog) w 31 38 (some ⟨g, off, none⟩) xs.length c 0 0 underlying_words
  go_enter Try.func8, Try.ntmps8
  have hown : (w.alloc (.cells #[] 38)).ownsRow w.heap.size 38 1 (.slice (some ⟨w.heap.size, 0, none⟩) 0 0) 0 [] := World.ownsRow_made w #[] 0 (Nat.le_refl _) (by simp [maxLen]) (by simp)
  have hnews : ∀ j u, xs[j]? = some u → (w.alloc (.cells #[] 38)).cell? ((⟨g, off, none⟩ : Addr).add j) = some u := fun j u hu => by
    have h2 := HX.out j u hu
    rw [Addr.add_mid, World.cell?_alloc_lt w _ _ (World.block_lt_of_cell? w _ h2)]
    exact h2
  have HN := Lib.hid hnews
  have HO := Lib.hid hown
  clear hnews hown
  go_wp2_with (at_builtin; refine wpList_append_own _ rfl (.tmp 5) (.tmp 6) 31 rfl w.heap.size 38 i0 (.int .u64 0) 1 8 underlying_words hi hz0 hz1 hz2 rfl (by decide) _ _ _ rfl HO.out ⟨g, off, none⟩ xs.length c xs rfl (Nat.mul_one _).symm HN.out h1 ?c1 ?c2 ?c3 ?c4)
  case c1 => simp only [maxLen]; omega
  case c2 => omega
  case c3 => simp
  case c4 =>
    intro v' w' ho hgr hz
    have HZ := Lib.hid hz
    have HO2 := Lib.hid ho
    clear hz ho
    go_wp2
    go_ret
    have ho := HO2.out
    obtain ⟨hlen, ⟨rfl, hn⟩ | ⟨g', cap, cur, rfl, hb, hh, h3, h4, h5, h6⟩⟩ := ho
    · have := HZ.out
      simp at this
    · simp only [Nat.mul_one] at *
      have hcur : cur = (xs ++ cur.toList.drop xs.length).toArray := by
        have e : cur.toList = xs ++ cur.toList.drop xs.length := by
          have := List.take_append_drop xs.length cur.toList
          rw [h6] at this
          exact this.symm
        rw [← e]
      have hsz : cap = xs.length + (cur.toList.drop xs.length).length := by simp; omega
      refine ⟨_, g', cur.toList.drop xs.length, rfl, by rw [← hsz]; rfl, ?_, hb, ?_⟩
      · unfold Blk; rw [← hcur]; exact hh
      · refine ((Keep.refl w.heap.size [] w).alloc (Nat.le_refl _) _).grown hgr (by simp) ?_
        intro k hk hlt
        simp [Value.ownBlock] at hk
        omega

theorem uw_one (xs : List Int) : ∀ u ∈ uw xs, u.oneCell' = true := by
  intro u hu
  obtain ⟨x, _, rfl⟩ := List.mem_map.1 hu
  rfl

theorem Dev.of_new {w w' : World} {d : DevI} {s : St} (h : Dev w d s) (hk : Keep w.heap.size [] w w') : Dev w' d s :=
  h.keep hk fun k hm => ⟨h.lt k hm, by simp⟩

set_option maxHeartbeats 400000 in
theorem words_any (d : DevI) (s : St) (w : World) (h : Dev w d s) :
    Calls Try.prog 14 #[.pointer (some ⟨d.b, 0, none⟩)] w fun e w' => ∃ v g' ex, e = .returned v ∧ NewRow w w' v (uw s.now) g' ex := by
  obtain ⟨_, hc, _, _⟩ := h.cells
  have hl : (uw s.now).length = s.now.length := by simp [uw]
  have hcl := clone_any d.nb 0 s.now.length (uw s.now) w (fun j u hu => by rw [Nat.zero_add, h.now.cell]; simpa using hu) (uw_one _) (by rw [hl]; exact h.small)
  rw [hl] at hcl
  clear h hl
  go_enter Try.func14, Try.ntmps14
  go_wp2_with fail
  refine hcl.mono ?_
  rintro e w' ⟨v, g', ex, rfl, hn⟩
  have HN := Lib.hid hn
  clear hcl hn
  go_wp2
  go_ret
  exact ⟨v, g', ex, rfl, HN.out⟩

/-- A slice that reads as these values; nil is let in. -/
def Rd (w : World) (v : Value) (xs : List Value) : Prop :=
  ∃ A c, v = .slice A xs.length c ∧ (0 < xs.length → ∃ g off, A = some ⟨g, off, none⟩ ∧ ∀ j u, xs[j]? = some u → w.cell? ⟨g, off + j, none⟩ = some u)

theorem Rd.same {w w' : World} {v : Value} {xs : List Value} (h : Rd w v xs) (hk : ∀ a : Addr, a.block < w.heap.size → w'.cell? a = w.cell? a) : Rd w' v xs := by
  obtain ⟨A, c, rfl, h⟩ := h
  refine ⟨A, c, rfl, fun hp => ?_⟩
  obtain ⟨g, off, hA, h⟩ := h hp
  exact ⟨g, off, hA, fun j u hu => (hk _ (World.block_lt_of_cell? w _ (h j u hu))).trans (h j u hu)⟩
theorem Rd.keep {w w' : World} {v : Value} {xs : List Value} (h : Rd w v xs) (hk : Keep w.heap.size [] w w') : Rd w' v xs :=
  h.same fun a ha => World.cell?_of_block (hk.block a.block ha (by simp))
theorem Rd.of_blk {w : World} {g n : Nat} {t : TypeId} {xs ex : List Value} (h : Blk w g t (xs ++ ex).toArray) : Rd w (.slice (some ⟨g, 0, none⟩) xs.length n) xs :=
  ⟨_, _, rfl, fun _ => ⟨g, 0, rfl, fun j u hu => by
    rw [Nat.zero_add, h.cell]
    have hj : j < xs.length := (List.getElem?_eq_some_iff.1 hu).1
    simp only [List.getElem?_toArray]
    rw [List.getElem?_append_left hj]
    exact hu⟩⟩

/-- Noughts up to a whole line. -/
def pad (xs : List Int) : List Int := xs ++ List.replicate ((xs.length + 7) / 8 * 8 - xs.length) 0
theorem pad_length (xs : List Int) : (pad xs).length = (xs.length + 7) / 8 * 8 := by simp [pad]; omega

def St.fresh (l u : Int) (xs : List Int) : St := { l, u, now := pad xs, kept := pad xs, q := fun _ => none }

theorem made_words (n : Nat) : madeCells (Value.cells (.int .u64 0)) (n * 1) = (uw (List.replicate n 0)).toArray := by
  unfold madeCells uw
  apply Array.ext'
  simp only [Array.toList_map, Array.toList_range, List.map_replicate]
  apply List.ext_getElem?
  intro i
  simp only [List.getElem?_map, Value.cells]
  by_cases h : i < n
  · simp [h, Nat.mod_one]
  · simp [h]

set_option maxHeartbeats 800000 in
theorem new_any (p : Nat) (l u : Int) (v : Value) (xs : List Int) (w : World) (hp : Pow w p l u) (hv : Rd w v (uw xs)) (hl : xs.length ≤ 1000000000) :
    Calls Try.prog 30 #[.pointer (some ⟨p, 0, none⟩), v] w fun e w' => ∃ d : DevI, e = .returned (.pointer (some ⟨d.b, 0, none⟩)) ∧ d.p = p ∧ (∀ k ∈ d.blocks, k ≠ p → w.heap.size ≤ k) ∧ Dev w' d (St.fresh l u xs) ∧ Keep w.heap.size [] w w' := by
  obtain ⟨i0, hi, hz0, hz1, hz2⟩ := info_parts info_word
  obtain ⟨A, c, rfl, hrd⟩ := hv
  rw [show (uw xs).length = xs.length by simp [uw]] at hrd
  rw [show (uw xs).length = xs.length by simp [uw]]
  obtain ⟨n, hn⟩ : ∃ n, n = (xs.length + 7) / 8 * 8 := ⟨_, rfl⟩
  have hn' : ((xs.length : Int) + 8 - 1) / 8 * 8 = (n : Int) := by omega
  have HN := Lib.hid hn
  have HP := Lib.hid hp
  have HRD := Lib.hid hrd
  have hlx : (xs.length : Int) ≤ 1000000000 := by omega
  have hmk : (Instr.makeSlice 31 (.int .i64 n) (.int .i64 n)).run Try.prog w = .ok (.slice (some ⟨w.heap.size, 0, none⟩) n n) (w.alloc (.cells (uw (List.replicate n 0)).toArray 38)) := by
    have := run_make (P := Try.prog) w 31 38 i0 (.int .u64 0) underlying_words hi hz0 .i64 .i64 n n (by omega) (by omega) (by rw [hz2]; omega) (by omega)
    rw [hz1, made_words] at this
    simpa using this
  obtain ⟨W1, hW1⟩ : ∃ W1, W1 = w.alloc (.cells (uw (List.replicate n 0)).toArray 38) := ⟨_, rfl⟩
  rw [← hW1] at hmk
  have hb1 : Blk W1 w.heap.size 38 (uw (List.replicate n 0)).toArray := hW1 ▸ Blk.new w _ _
  have hk1 : Keep w.heap.size [] w W1 := hW1 ▸ (Keep.refl _ _ _).alloc (Nat.le_refl _) _
  have hs1 : W1.heap.size = w.heap.size + 1 := by rw [hW1]; simp
  obtain ⟨W2, hcp, hb2, hk2, hs2⟩ := copy_blk (P := Try.prog) (dT := 31) (sT := 31) (ty := 3) underlying_words size_word hb1 (some ⟨w.heap.size, 0, none⟩) A n n xs.length c 0 (uw xs) (by simp [uw]; omega)
    (fun h0 => ⟨rfl, by
      obtain ⟨g2, o2, hA, hc⟩ := hrd (by simpa [uw] using h0)
      exact ⟨g2, o2, hA, fun j v hv => by
        have h3 := hc j v hv
        rw [World.cell?_of_block (hk1.block g2 (World.block_lt_of_cell? w _ h3) (by simp))]
        exact h3⟩⟩) (by simp [uw]; omega) (uw_one _)
  have hsp : splice (uw (List.replicate n 0)).toArray.toList 0 (uw xs) = uw (pad xs) := by
    simp [splice, uw, pad, hn]
  rw [hsp] at hb2
  have hk2' : Keep w.heap.size [] w W2 := hk1.join hk2 (by omega) (by intro k hk hm; simp at hm; omega)
  have hpl : (uw (pad xs)).length = n := by rw [hn, ← pad_length]; simp [uw]
  have hcl := clone_any w.heap.size 0 n (uw (pad xs)) W2 (fun j u hu => by rw [Nat.zero_add, hb2.cell]; simpa using hu) (uw_one _) (by rw [hpl]; omega)
  rw [hpl] at hcl
  have hmm := @run_makeMap Try.prog
  have HB2 := Lib.hid hb2
  have HK2 := Lib.hid hk2'
  have HS2 : Hid (w.heap.size < W2.heap.size) := Lib.hid hb2.lt
  have HPL := Lib.hid hpl
  clear hn hp hrd hW1 hb1 hk1 hs1 hb2 hk2 hs2 hsp hk2' hpl
  go_enter Try.func30, Try.ntmps30
  go_wp2_with fail
  refine hcl.mono ?_
  rintro e W3 ⟨v, g', ex, rfl, hv, hb3, hg3, hk3⟩
  subst hv
  have HB3 := Lib.hid hb3
  have HK3 := Lib.hid hk3
  have HG3 := Lib.hid hg3
  clear hcl hb3 hg3 hk3 hcp hmk
  go_wp2
  go_ret
  have hb2 := HB2.out
  have hs2 := HS2.out
  have hk3 := HK3.out
  have hg3 := HG3.out
  have hs3 := hk3.size
  have hp := HP.out
  have hplt : p < w.heap.size := Blk.lt hp
  have hpl := HPL.out
  have hgl := HB3.out.lt
  rw [hpl]
  have hpl' : (pad xs).length = n := by rw [← hpl]; simp [uw]
  refine ⟨⟨W3.heap.size + 1, p, w.heap.size, g', W3.heap.size, ex⟩, rfl, rfl, ?_, ?_, ?_⟩
  · intro k hk hne
    simp only [DevI.blocks, List.mem_cons, List.not_mem_nil, or_false] at hk
    omega
  · refine ⟨?_, ?_, ?_, ?_, ⟨?_, ?_⟩, rfl, ⟨n / 8, ?_⟩, ?_, ?_⟩
    · exact (((hp.keep (HK2.out.join hk3 (by omega) (by simp)) hplt (by simp)).alloc _).alloc _)
    · have := Blk.new (W3.alloc (.map #[] 0)) 74 #[.pointer (some ⟨p, 0, none⟩), .slice (some ⟨w.heap.size, 0, none⟩) n n, .slice (some ⟨g', 0, none⟩) n (n + ex.length), .map (some W3.heap.size)]
      rw [World.size_alloc] at this
      simp only [St.fresh, hpl']
      exact this
    · exact ((hb2.keep hk3 (by omega) (by simp)).alloc _).alloc _
    · exact ((HB3.out).alloc _).alloc _
    · have := IMap.new W3 .i64
      have h2 : qmap (St.fresh l u xs).q = fun _ => none := by funext k; simp [qmap, St.fresh]
      rw [h2]
      exact this.same (Below.heap_alloc _ _ _ (by simp))
    · intro j l hj; cases hj
    · simp only [St.fresh, hpl']; have := HN.out; omega
    · simp only [St.fresh, hpl']; omega
    · simp only [DevI.blocks, List.nodup_cons, List.mem_cons, not_or, List.not_mem_nil, not_false_eq_true, and_true, List.nodup_nil]
      omega
  · exact ((HK2.out.join hk3 (by omega) (by simp)).alloc (by omega) _).alloc (by simp; omega) _
end Go.Proofs.Ytbdomdmnjclpdaa
set_option maxRecDepth 100000
namespace Go.Proofs.Ytbdomdmnjclpdaa
open Go.RowKit Go.Shelf

/-- What is kept behind a fence. -/
def fenced (kept : List Int) (q : Nat → Option (List Int)) : List Int :=
  (List.range kept.length).map fun i => match q (i / 8) with
    | some l => l.getD (i % 8) 0
    | none => kept.getD i 0
def St.fence (s : St) : St := { s.tick with kept := fenced s.kept s.q, q := fun _ => none }

theorem fenced_length (kept : List Int) (q : Nat → Option (List Int)) : (fenced kept q).length = kept.length := by simp [fenced]

/-- Of the queue, the lines of these entries. -/
def qpart (q : Nat → Option (List Int)) (pre : List (Int × Value × Nat)) : Nat → Option (List Int) := fun j => if (pre.map (·.1)).contains (j : Int) then q j else none

theorem fenced_none (kept : List Int) : fenced kept (fun _ => none) = kept := by
  apply List.ext_getElem?
  intro i
  simp only [fenced, List.getElem?_map]
  by_cases h : i < kept.length
  · simp [h]
  · simp [h]

theorem splice_get {α : Type} (L : List α) (off : Nat) (cs : List α) (h : off + cs.length ≤ L.length) (i : Nat) :
    (splice L off cs)[i]? = if i < off then L[i]? else if i < off + cs.length then cs[i - off]? else L[i]? := by
  unfold splice
  have ht : (L.take off).length = off := by rw [List.length_take]; omega
  split
  · rw [List.getElem?_append_left (by omega), List.getElem?_take, if_pos (by omega)]
  · rw [List.getElem?_append_right (by omega), ht]
    split
    · rw [List.getElem?_append_left (by omega)]
    · rw [List.getElem?_append_right (by omega), List.getElem?_drop]
      congr 1
      omega

theorem fenced_get (kept : List Int) (q : Nat → Option (List Int)) (i : Nat) : (fenced kept q)[i]? = if i < kept.length then some (match q (i / 8) with | some l => l.getD (i % 8) 0 | none => kept.getD i 0) else none := by
  simp only [fenced, List.getElem?_map]
  by_cases h : i < kept.length
  · simp [h]
  · simp [h]

theorem fenced_step (kept : List Int) (q q' : Nat → Option (List Int)) (m : Nat) (l : List Int) (hl : l.length = 8) (hm : 8 * m + 8 ≤ kept.length) (h1 : q' m = some l) (h2 : ∀ j, j ≠ m → q' j = q j) :
    splice (fenced kept q) (8 * m) l = fenced kept q' := by
  apply List.ext_getElem?
  intro i
  rw [splice_get _ _ _ (by rw [fenced_length]; omega), fenced_get, fenced_get, hl]
  by_cases hc1 : i < 8 * m
  · rw [if_pos hc1, h2 (i / 8) (by omega)]
  · rw [if_neg hc1]
    by_cases hc2 : i < 8 * m + 8
    · rw [if_pos hc2, if_pos (by omega), show i / 8 = m by omega, h1, show i % 8 = i - 8 * m by omega, List.getElem?_eq_getElem (by omega)]
      simp [List.getElem?_eq_getElem (show i - 8 * m < l.length by omega)]
    · rw [if_neg hc2, h2 (i / 8) (by omega)]

theorem list8 {α : Type} {l : List α} (h : l.length = 8) : ∃ a b c d e f g i, l = [a, b, c, d, e, f, g, i] := by
  match l, h with
  | [a, b, c, d, e, f, g, i], _ => exact ⟨a, b, c, d, e, f, g, i, rfl⟩

theorem Dev.setKept {w w' : World} {d : DevI} {s : St} (h : Dev w d s) {kept : List Int} (hk : Keep w.heap.size [d.kb] w w') (hb : Blk w' d.kb 38 (uw kept ++ d.kx).toArray) (hl : kept.length = s.now.length) : Dev w' d { s with kept } := by
  have hn := h.nodup
  simp only [DevI.blocks, List.nodup_cons, List.mem_cons, not_or, List.not_mem_nil, not_false_eq_true, and_true] at hn
  have e : ∀ k ∈ d.blocks, k ≠ d.kb → w'.heap[k]? = w.heap[k]? := fun k hm hne => hk.block k (h.lt k hm) (by simpa using hne)
  have e := fun k hk => e k (by simp only [DevI.blocks, List.mem_cons, List.not_mem_nil, or_false]; exact hk)
  exact { h with
    pow := (e d.p (by simp) (by omega)).trans h.pow
    blk := (e d.b (by simp) (by omega)).trans h.blk
    now := (e d.nb (by simp) (by omega)).trans h.now
    kept := hb
    queue := ⟨h.queue.1.same (e d.qb (by simp) (by omega)), h.queue.2⟩
    lk := hl }

theorem splice_uw (kept : List Int) (ex : List Value) (o : Nat) (l : List Int) (h : o + l.length ≤ kept.length) : splice (uw kept ++ ex) o (uw l) = uw (splice kept o l) ++ ex := by
  have h1 : o ≤ (uw kept).length := by simp [uw]; omega
  have h2 : o + (uw l).length ≤ (uw kept).length := by simp [uw]; omega
  unfold splice
  rw [List.take_append_of_le_length h1, List.drop_append_of_le_length h2]
  simp [uw, List.map_take, List.map_drop]

theorem qpart_nil (q : Nat → Option (List Int)) : qpart q [] = fun _ => none := by funext j; simp [qpart]

theorem qpart_all {q : Nat → Option (List Int)} {L pre : List (Int × Value × Nat)} {clk : Nat} (hm : MOk L clk (qmap q)) (hs : ∀ x ∈ pre, x ∈ L) (h : ∀ x ∈ L, x.2.2 ∈ (pre.map (·.2.2)).toArray) : qpart q pre = q := by
  funext j
  unfold qpart
  split
  · rfl
  · rename_i hc
    cases hq : q j with
    | none => rfl
    | some l =>
      exfalso
      apply hc
      obtain ⟨b, hb⟩ := (hm.has j (.agg (uw l).toArray)).1 (by simp [qmap, hq])
      have h1 := h _ hb
      simp only [List.mem_toArray, List.mem_map] at h1
      obtain ⟨y, hy, hyb⟩ := h1
      have : y = ((j : Int), Value.agg (uw l).toArray, b) := by
        obtain ⟨i1, h1, e1⟩ := List.mem_iff_getElem.1 (hs y hy)
        obtain ⟨i2, h2, e2⟩ := List.mem_iff_getElem.1 hb
        have e : (L.map (·.2.2))[i1]'(by simpa using h1) = (L.map (·.2.2))[i2]'(by simpa using h2) := by simp [e1, e2, hyb]
        have := nodup_inj hm.borns e
        subst this
        rw [← e1, ← e2]
      subst this
      simp only [List.contains_iff_mem, List.mem_map]
      exact ⟨_, hy, rfl⟩

theorem qpart_snoc (q : Nat → Option (List Int)) (pre : List (Int × Value × Nat)) (j : Nat) (v : Value) (b i : Nat) : qpart q (pre ++ [((j : Int), v, b)]) i = if i = j then q j else qpart q pre i := by
  unfold qpart
  by_cases h : i = j
  · subst h
    rw [if_pos (by rw [List.contains_iff_mem]; simp), if_pos rfl]
  · have e : ((pre ++ [((j : Int), v, b)]).map (·.1)).contains (i : Int) = (pre.map (·.1)).contains (i : Int) := by
      rw [Bool.eq_iff_iff, List.contains_iff_mem, List.contains_iff_mem, List.map_append, List.mem_append]
      simp only [List.map_cons, List.map_nil, List.mem_singleton]
      constructor
      · rintro (h1 | h1)
        · exact h1
        · omega
      · exact .inl
    rw [e, if_neg h]

structure FInv (w1 : World) (d : DevI) (s : St) (L : List (Int × Value × Nat)) (clk it : Nat) (pre : List (Int × Value × Nat)) (wr : World) : Prop where
  it : wr.heap[it]? = some (.mapIter (some d.qb) clk (pre.map (·.2.2)).toArray clk)
  q : wr.heap[d.qb]? = some (.map (L.map (ment .i64)).toArray clk)
  dev : Dev wr d { s.tick with kept := fenced s.kept (qpart s.q pre) }
  keep : Keep w1.heap.size d.blocks w1 wr
  sub : ∀ x ∈ pre, x ∈ L

set_option maxRecDepth 10000 in
set_option maxHeartbeats 1000000 in
theorem fence_any (d : DevI) (s : St) (w : World) (h : Dev w d s) :
    Calls Try.prog 54 #[.pointer (some ⟨d.b, 0, none⟩)] w fun e w' =>
      (¬ s.goes ∧ Did w d (.tuple #[]) s.fence e w') ∨ (s.goes ∧ Cut w d s e w') := by
  obtain ⟨hc0, hc1, hc2, hc3⟩ := h.cells
  have H := Lib.hid h
  clear h
  go_enter Try.func54, Try.ntmps54
  go_wp2_with fail
  refine (tick_dev d s w H.out).mono ?_
  rintro e w1 (⟨hg, rfl, h1, hk1⟩ | ⟨hg, rfl, h1, hk1⟩)
  · obtain ⟨hd0, hd1, hd2, hd3⟩ := h1.cells
    simp only [St.tick] at hd1 hd2
    have hsm := h1.small
    obtain ⟨⟨L, clk, hq, hm⟩, hqq⟩ := h1.queue
    have hrr := range_run (P := Try.prog) hq underlying_queue
    have H1 := Lib.hid h1
    have HK := Lib.hid hk1
    have HQ := Lib.hid hq
    have HM := Lib.hid hm
    have HQQ := Lib.hid hqq
    clear h1 hk1 H hc0 hc1 hc2 hc3 hq hm hqq
    have HR := Lib.hid hrr
    go_wp2_with fail
    clear hrr
    go_loopw [] (fun wr => ∃ pre, FInv w1 d s L clk w1.heap.size pre wr) (fun wr => unseen wr w1.heap.size d.qb)
    case atStart =>
      refine ⟨[], ?_, ?_, ?_, ?_, by simp⟩
      · exact heap_alloc_new w1 _
      · rw [Below.heap_alloc _ _ _ (H1.out.qlt)]; exact HQ.out
      · rw [qpart_nil, fenced_none]
        exact H1.out.same fun k hk => Below.heap_alloc _ _ _ (H1.out.lt k hk)
      · exact (Keep.refl _ _ _).alloc (Nat.le_refl _) _
    case round =>
      obtain ⟨pre, hI⟩ := hrel
      rcases next_run (P := Try.prog) HM.out hI.it hI.q 0 with ⟨hall, hnx⟩ | ⟨x, hx, hns, w2, hnx, hit2, hk2, hs2, hless⟩
      · obtain ⟨_, _, _, hr3⟩ := hI.dev.cells
        have hq2 := hI.dev.queue.1
        obtain ⟨w3, hcl, hm3, hk3, hs3⟩ := clear_keep (P := Try.prog) hq2 underlying_queue 0
        have hqp := qpart_all HM.out hI.sub hall
        have HI := Lib.hid hI
        have HM3 := Lib.hid hm3
        have HK3 := Lib.hid hk3
        have HQP := Lib.hid hqp
        have HALL := Lib.hid hall
        clear hI hq2 hm3 hk3 hqp hall hs3 hd0 hd1 hd2 hd3
        go_wp2
        go_end0
        refine ⟨rfl, ?_, ?_⟩
        · have hd := HI.out.dev
          have e0 : qpart s.q pre = s.q := HQP.out
          rw [e0] at hd
          have := hd.setQueue (q := fun _ => none) HK3.out ⟨?_, by intro j l hj; cases hj⟩
          · exact this
          · have h0 : qmap (fun _ => none) = fun _ => none := by funext k; simp [qmap]
            rw [h0]
            exact HM3.out
        · exact (HK.out.join HI.out.keep (by exact HK.out.size) (fun k _ hm => hm)).join HK3.out (by exact Nat.le_trans HK.out.size HI.out.keep.size) (by intro k _ hm; simp at hm; simp [DevI.blocks, hm])
      · obtain ⟨x1, x2, x3⟩ := x
        have hmx := (HM.out.has x1 x2).2 ⟨x3, hx⟩
        unfold qmap at hmx
        split at hmx
        · rename_i h0
          obtain ⟨j, rfl⟩ := Int.eq_ofNat_of_zero_le h0
          simp only [Int.toNat_natCast, Option.map_eq_some_iff] at hmx
          obtain ⟨l, hql, rfl⟩ := hmx
          obtain ⟨hl8, hj8⟩ := HQQ.out j l hql
          obtain ⟨a0, a1, a2, a3, a4, a5, a6, a7, rfl⟩ := list8 hl8
          simp only [uw, List.map_cons, List.map_nil] at hnx
          have hen := entry_run (P := Try.prog) HM.out hx hit2 (by rw [hk2.block d.qb (by exact (Array.getElem?_eq_some_iff.1 hI.q).1) (by simp; intro e; have := hI.it; rw [← e, hI.q] at this; cases this)]; exact hI.q)
          simp only [uw, List.map_cons, List.map_nil] at hen
          have hd2' : Dev w2 d { s.tick with kept := fenced s.kept (qpart s.q pre) } :=
            hI.dev.keep hk2 fun k hk => ⟨hI.dev.lt k hk, by simp; have := H1.out.lt k hk; omega⟩
          obtain ⟨hw0, hw1, hw2, hw3⟩ := hd2'.cells
          have HI := Lib.hid hI
          have HD2 := Lib.hid hd2'
          have HLESS := Lib.hid hless
          have HX := Lib.hid hx
          have HIT2 := Lib.hid hit2
          have HK2 := Lib.hid hk2
          have HQL := Lib.hid hql
          have HJ8 := Lib.hid hj8
          clear hI hd2' hless hx hit2 hk2 hql hns hl8 hd0 hd1 hd2 hd3 h0 hs2
          go_wp2
          have hb8 := Blk.new w2 118 #[Value.int .u64 a0, .int .u64 a1, .int .u64 a2, .int .u64 a3, .int .u64 a4, .int .u64 a5, .int .u64 a6, .int .u64 a7]
          have hd4 : Dev (w2.alloc (.cells #[Value.int .u64 a0, .int .u64 a1, .int .u64 a2, .int .u64 a3, .int .u64 a4, .int .u64 a5, .int .u64 a6, .int .u64 a7] 118)) d { s.tick with kept := fenced s.kept (qpart s.q pre) } :=
            HD2.out.of_new ((Keep.refl _ _ _).alloc (Nat.le_refl _) _)
          have hk4 : Keep w2.heap.size [] w2 (w2.alloc (.cells #[Value.int .u64 a0, .int .u64 a1, .int .u64 a2, .int .u64 a3, .int .u64 a4, .int .u64 a5, .int .u64 a6, .int .u64 a7] 118)) := (Keep.refl _ _ _).alloc (Nat.le_refl _) _
          generalize w2.alloc (.cells #[Value.int .u64 a0, .int .u64 a1, .int .u64 a2, .int .u64 a3, .int .u64 a4, .int .u64 a5, .int .u64 a6, .int .u64 a7] 118) = W4 at *
          obtain ⟨hv0, hv1, hv2, hv3⟩ := hd4.cells
          simp only [St.tick] at hv1 hv2
          obtain ⟨o, ho⟩ : ∃ o, o = 8 * j := ⟨_, rfl⟩
          have hj8 := HJ8.out
          simp only [St.tick] at hj8 hsm
          have e1 : IntKind.i64.wrap ((j : Int) * 8) = (o : Int) := by rw [IntWalk.i64_in _ (by omega)]; omega
          have hsl := fun w => slice_l (P := Try.prog) underlying_words size_word d.kb 0 s.now.length (s.now.length + d.kx.length) o .i64 o rfl (by omega) (by omega) w
          simp only [Nat.zero_add] at hsl
          obtain ⟨w5, hcp, hb5, hk5, hs5⟩ := copy_blk (P := Try.prog) (dT := 31) (sT := 31) (ty := 3) underlying_words size_word (w := W4.drew) (Blk.drew hd4.kept) (some ⟨d.kb, o, none⟩) (some ⟨w2.heap.size, 0, none⟩) (s.now.length - o) (s.now.length + d.kx.length - o) 8 8 o
            (uw [a0, a1, a2, a3, a4, a5, a6, a7]) (by simp [uw]; omega) (fun _ => ⟨rfl, _, _, rfl, fun j v hv => by rw [Nat.zero_add]; exact (hb8.cell j).trans (by simpa [uw] using hv)⟩)
            (by have := hd4.lk; simp [uw, St.tick] at this ⊢; omega) (uw_one _)
          have HD4 := Lib.hid hd4
          have HK4 := Lib.hid hk4
          have HB8 := Lib.hid hb8
          have HB5 := Lib.hid hb5
          have HK5 := Lib.hid hk5
          have HO := Lib.hid ho
          have HJ := Lib.hid hj8
          clear hd4 hk4 hb8 hb5 hk5 hs5 ho hj8 hw0 hw1 hw2 hw3 hnx hen
          refine wp_region_still_tail 8 (by kernel_rfl) (by kernel_rfl) ?_
          simp only [List.take_succ_cons, List.take_zero, List.drop_succ_cons, List.drop_zero]
          repeat still_step
          refine wpStill_nil ?_
          go_wp2
          have hI := HI.out
          have hd2 := HD2.out
          have hk4 := HK4.out
          have hk5 : Keep W4.heap.size [d.kb] W4 w5 := HK5.out.undrew
          have hlt := H1.out.lt
          have hkb : d.kb < w1.heap.size := hlt _ (by simp [DevI.blocks])
          have hqb : d.qb < w1.heap.size := hlt _ (by simp [DevI.blocks])
          have hnd := H1.out.nodup
          simp only [DevI.blocks, List.nodup_cons, List.mem_cons, not_or, List.not_mem_nil, not_false_eq_true, and_true] at hnd
          have hitl : w1.heap.size < w2.heap.size := (Array.getElem?_eq_some_iff.1 HIT2.out).1
          have hs4 := hk4.size
          have f1 : w5.heap[w1.heap.size]? = w2.heap[w1.heap.size]? := (hk5.block _ (by omega) (by simp; omega)).trans (hk4.block _ (by omega) (by simp))
          have f2 : w5.heap[d.qb]? = w2.heap[d.qb]? := (hk5.block _ (by omega) (by simp; omega)).trans (hk4.block _ (by omega) (by simp))
          have f3 : w2.heap[d.qb]? = wr.heap[d.qb]? := HK2.out.block _ (by have := (Array.getElem?_eq_some_iff.1 hI.q).1; omega) (by simp; omega)
          refine ⟨⟨pre ++ [((j : Int), .agg (uw [a0, a1, a2, a3, a4, a5, a6, a7]).toArray, x3)], ?_, ?_, ?_, ?_, ?_⟩, ?_⟩
          · rw [f1, HIT2.out]; simp
          · rw [f2, f3, hI.q]
          · have hlk := hd2.lk
            rw [fenced_length] at hlk
            have hjj := HJ.out
            have hn : (fenced s.kept (qpart s.q (pre ++ [((j : Int), .agg (uw [a0, a1, a2, a3, a4, a5, a6, a7]).toArray, x3)]))).length = s.tick.now.length := by rw [fenced_length]; exact hlk
            refine HD4.out.setKept hk5 ?_ hn
            have hb := HB5.out
            simp only at hb
            rw [splice_uw _ _ _ _ (by rw [fenced_length]; have := HO.out; simp only [St.tick] at hlk; simp; omega), HO.out, fenced_step s.kept _ (qpart s.q (pre ++ [((j : Int), .agg (uw [a0, a1, a2, a3, a4, a5, a6, a7]).toArray, x3)])) j _ rfl (by simp only [St.tick] at hlk; omega)] at hb
            · exact hb
            · have := HQL.out
              simp only [St.tick] at this
              rw [qpart_snoc, if_pos rfl, this]
            · intro i hi
              rw [qpart_snoc, if_neg hi]
          · have hz := hI.keep.size
            exact hI.keep.trans ((HK2.out.mono hz (by intro k hk hm; simp at hm; omega)).trans ((hk4.mono (by omega) (by simp)).trans (hk5.mono (by omega) (by intro k hk hm; simp at hm; simp [DevI.blocks, hm]))))
          · intro y hy
            rcases List.mem_append.1 hy with hy | hy
            · exact hI.sub y hy
            · simp at hy; subst hy; exact HX.out
          · have := HLESS.out
            unfold unseen at this ⊢
            rw [f1, f2]
            exact this
        · cases hmx
  · have H1 := Lib.hid h1
    have HK := Lib.hid hk1
    clear h1 hk1 H hc0 hc1 hc2 hc3
    unfold offE
    go_wp2
    exact ⟨rfl, .inr ⟨hg, rfl, H1.out, HK.out⟩⟩
end Go.Proofs.Ytbdomdmnjclpdaa
set_option maxRecDepth 100000
namespace Go.Proofs.Ytbdomdmnjclpdaa
open Go.RowKit Go.Shelf

/-- What a choice leaves of a word. -/
def left (s : St) (ch : Nat → Int) (j : Nat) : Int :=
  if ch j % 3 = 1 then (match s.q (j / 8) with | some l => l.getD (j % 8) 0 | none => s.kept.getD j 0)
  else if ch j % 3 = 2 then s.now.getD j 0 else s.kept.getD j 0
/-- What is kept when the words ahead of i are left. -/
def leftTo (s : St) (ch : Nat → Int) (i : Nat) : List Int := (List.range s.now.length).map fun j => if j < i then left s ch j else s.kept.getD j 0
def St.crash (s : St) (ch : Nat → Int) : St := { s with now := leftTo s ch s.now.length, kept := leftTo s ch s.now.length, q := fun _ => none }

theorem leftTo_length (s : St) (ch : Nat → Int) (i : Nat) : (leftTo s ch i).length = s.now.length := by simp [leftTo]
theorem leftTo_get (s : St) (ch : Nat → Int) (i j : Nat) : (leftTo s ch i)[j]? = if j < s.now.length then some (if j < i then left s ch j else s.kept.getD j 0) else none := by
  simp only [leftTo, List.getElem?_map]
  by_cases h : j < s.now.length
  · simp [h]
  · simp [h]
theorem leftTo_zero (s : St) (ch : Nat → Int) (hl : s.kept.length = s.now.length) : leftTo s ch 0 = s.kept := by
  apply List.ext_getElem?
  intro j
  rw [leftTo_get]
  by_cases h : j < s.now.length
  · simp [h, List.getElem?_eq_getElem (show j < s.kept.length by omega)]
  · rw [if_neg h, List.getElem?_eq_none (by omega)]
theorem leftTo_set (s : St) (ch : Nat → Int) (i : Nat) (v : Int) (hv : left s ch i = v) : (leftTo s ch i).set i v = leftTo s ch (i + 1) := by
  apply List.ext_getElem?
  intro j
  rw [List.getElem?_set, leftTo_get, leftTo_get, leftTo_length]
  by_cases hij : i = j
  · subst hij
    by_cases h : i < s.now.length
    · simp [h, hv]
    · simp [h]
  · simp only [hij, if_false]
    by_cases h : j < s.now.length
    · simp only [h, if_true]
      by_cases h2 : j < i
      · simp [h2, show j < i + 1 by omega]
      · simp [h2, show ¬ j < i + 1 by omega]
    · simp [h]
theorem leftTo_same (s : St) (ch : Nat → Int) (i : Nat) (hi : i < s.now.length) (hv : left s ch i = s.kept.getD i 0) : leftTo s ch (i + 1) = leftTo s ch i := by
  rw [← leftTo_set s ch i _ hv]
  apply List.ext_getElem?
  intro j
  rw [List.getElem?_set, leftTo_get, leftTo_length]
  by_cases hij : i = j
  · subst hij; simp [hi]
  · simp [hij]

/-- What a call of the choice does: its answer; what its own variables hold; what else it keeps. -/
structure Chooses (G : FuncId) (cap : Array Value) (ch : Nat → Int) (n : Nat) (J : Nat → World → Prop) (C B : List Nat) : Prop where
  enters : Enters Try.prog G
  call : ∀ k w, k < n → J k w → Calls Try.prog G (#[.int .i64 (k : Nat)] ++ cap) w fun e w' => e = .returned (.int .u8 (ch k)) ∧ J (k + 1) w' ∧ Keep w.heap.size C w w'
  small : ∀ k, 0 ≤ ch k ∧ ch k ≤ 255
  stays : ∀ k w w', J k w → Keep w.heap.size B w w' → J k w'
  apart : ∀ k ∈ C, k ∉ B

theorem kept_cell {w : World} {d : DevI} {s : St} (h : Dev w d s) {k : Nat} (hk : k < s.now.length) : ∃ v, w.cell? ⟨d.kb, k, none⟩ = some (.int .u64 v) := by
  have hl := h.lk
  refine ⟨s.kept[k], ?_⟩
  rw [h.kept.cell]
  simp only [List.getElem?_toArray]
  rw [List.getElem?_append_left (by simp [uw]; omega)]
  simp [uw]

theorem Dev.setKeptCell {w : World} {d : DevI} {s : St} (h : Dev w d s) {k : Nat} (hk : k < s.now.length) (v : Int) :
    Dev (w.setCell ⟨d.kb, k, none⟩ (.int .u64 v)) d { s with kept := s.kept.set k v } := by
  refine h.setKept ((Keep.refl _ _ _).setCell (by simp) _) ?_ (by simpa using h.lk)
  have hl := h.lk
  have := h.kept.set_ k (.int .u64 v)
  have e : (uw s.kept ++ d.kx).toArray.setIfInBounds k (.int .u64 v) = (uw (s.kept.set k v) ++ d.kx).toArray := by
    simp only [List.setIfInBounds_toArray]
    congr 1
    rw [List.set_append_left _ _ (by simp [uw]; omega)]
    simp [uw, List.map_set]
  rw [e] at this
  exact this

structure CInv (w : World) (d : DevI) (s : St) (ch : Nat → Int) (J : Nat → World → Prop) (C : List Nat) (i : Nat) (wr : World) : Prop where
  dev : Dev wr d { s with kept := leftTo s ch i }
  j : J i wr
  keep : Keep w.heap.size (d.blocks ++ C) w wr

theorem zero_line (w : World) : (zeroValue 118).run Try.prog w = .ok (.agg #[.int .u64 0, .int .u64 0, .int .u64 0, .int .u64 0, .int .u64 0, .int .u64 0, .int .u64 0, .int .u64 0]) w := by kernel_rfl

set_option maxRecDepth 100000 in
set_option maxHeartbeats 2000000 in
theorem crash_any (d : DevI) (s : St) (G : FuncId) (cap : Array Value) (ch : Nat → Int) (J : Nat → World → Prop) (C : List Nat) (w : World) (h : Dev w d s) (hC : Chooses G cap ch s.now.length J C d.blocks) (hJ : J 0 w) (hlow : ∀ k ∈ C, k < w.heap.size) :
    Calls Try.prog 97 #[.pointer (some ⟨d.b, 0, none⟩), .func (.func G) #[] cap] w fun e w' =>
      e = .returned (.tuple #[]) ∧ Dev w' d (s.crash ch) ∧ J s.now.length w' ∧ Keep w.heap.size (d.blocks ++ C) w w' := by
  obtain ⟨hc0, hc1, hc2, hc3⟩ := h.cells
  have hsm := h.small
  have H := Lib.hid h
  have HJ := Lib.hid hJ
  have HC := Lib.hid hC
  clear h hJ hC
  go_enter Try.func97, Try.ntmps97
  go_wp2_with fail
  go_loopw [12] (fun v wr => ∃ i : Nat, i ≤ s.now.length ∧ v = .int .i64 i ∧ CInv w d s ch J C i wr) (fun v _ => s.now.length - (intOf v).toNat)
  case atStart =>
    exact ⟨0, Nat.zero_le _, rfl, by rw [leftTo_zero s ch H.out.lk]; exact H.out, HJ.out, Keep.refl _ _ _⟩
  case round =>
    obtain ⟨i, hi, rfl, hI⟩ := hrel
    clear hc0 hc1 hc2 hc3
    obtain ⟨hr0, hr1, hr2, hr3⟩ := hI.dev.cells
    simp only at hr1 hr2
    by_cases hlt : i < s.now.length
    · obtain ⟨m, hm⟩ : ∃ m, m = i / 8 := ⟨_, rfl⟩
      have e0 : (i : Int) / 8 = (m : Int) := by omega
      obtain ⟨b0, b1, b2, b3, b4, b5, b6, b7, okb, hlk, hok⟩ : ∃ (b0 b1 b2 b3 b4 b5 b6 b7 : Int) (okb : Bool),
          (Instr.lookup 72 (.map (some d.qb)) (.int .i64 m) true).run Try.prog wr = .ok (.tuple #[.agg #[.int .u64 b0, .int .u64 b1, .int .u64 b2, .int .u64 b3, .int .u64 b4, .int .u64 b5, .int .u64 b6, .int .u64 b7], .bool okb]) wr ∧
          s.q m = if okb then some [b0, b1, b2, b3, b4, b5, b6, b7] else none := by
        have hl := lookup_ok (P := Try.prog) hI.dev.queue.1 underlying_queue underlying_int (m : Int) (zero_line wr)
        cases hq : s.q m with
        | none =>
          refine ⟨0, 0, 0, 0, 0, 0, 0, 0, false, ?_, rfl⟩
          rw [hl]; simp [qmap, hq]
        | some l =>
          obtain ⟨a0, a1, a2, a3, a4, a5, a6, a7, rfl⟩ := list8 (hI.dev.queue.2 m l hq).1
          refine ⟨a0, a1, a2, a3, a4, a5, a6, a7, true, ?_, rfl⟩
          rw [hl]; simp [qmap, hq, uw]
      have hlt' : (i : Int) < s.now.length := by omega
      have HI := Lib.hid hI
      have HM := Lib.hid hm
      have HOK := Lib.hid hok
      clear hI hm hok
      go_wp2_with fail
      have hb8 := Blk.new wr 118 #[Value.int .u64 b0, .int .u64 b1, .int .u64 b2, .int .u64 b3, .int .u64 b4, .int .u64 b5, .int .u64 b6, .int .u64 b7]
      have hk4 : Keep wr.heap.size [] wr (wr.alloc (.cells #[Value.int .u64 b0, .int .u64 b1, .int .u64 b2, .int .u64 b3, .int .u64 b4, .int .u64 b5, .int .u64 b6, .int .u64 b7] 118)) := (Keep.refl _ _ _).alloc (Nat.le_refl _) _
      generalize wr.alloc (.cells #[Value.int .u64 b0, .int .u64 b1, .int .u64 b2, .int .u64 b3, .int .u64 b4, .int .u64 b5, .int .u64 b6, .int .u64 b7] 118) = W4 at *
      have hj4 : J i W4 := HC.out.stays _ _ _ HI.out.j (hk4.sub (by simp))
      rw [HC.out.enters, Oper.upon_enter]
      refine (HC.out.call i W4 hlt hj4).mono ?_
      rintro e w5 ⟨rfl, hj5, hk5⟩
      have hd4 := HI.out.dev.of_new hk4
      have hd5 : Dev w5 d { s with kept := leftTo s ch i } := hd4.keep hk5 fun k hk => ⟨hd4.lt k hk, fun hc => HC.out.apart k hc hk⟩
      have h85 : Blk w5 wr.heap.size 118 #[Value.int .u64 b0, .int .u64 b1, .int .u64 b2, .int .u64 b3, .int .u64 b4, .int .u64 b5, .int .u64 b6, .int .u64 b7] :=
        hb8.keep hk5 hb8.lt (fun hc => by have := hlow _ hc; have := HI.out.keep.size; omega)
      have hkw : Keep w.heap.size (d.blocks ++ C) w w5 := HI.out.keep.trans ((hk4.mono HI.out.keep.size (by simp)).trans (hk5.mono (Nat.le_trans HI.out.keep.size hk4.size) (by intro k _ hm; simp [hm])))
      obtain ⟨hs0, hs1, hs2, hs3⟩ := hd5.cells
      simp only at hs1 hs2
      have hsmall := HC.out.small i
      have hch0 : 0 ≤ ch i := hsmall.1
      have hch1 : ch i ≤ 255 := hsmall.2
      have H85 := Lib.hid h85
      have HD5 := Lib.hid hd5
      have HJ5 := Lib.hid hj5
      have HKW := Lib.hid hkw
      clear hb8 hk4 hj4 hj5 hk5 hd4 hd5 h85 hkw hr0 hr1 hr2 hr3 hlk hsmall
      have h3 : ch i % 3 = 0 ∨ ch i % 3 = 1 ∨ ch i % 3 = 2 := by omega
      rcases h3 with h3 | h3 | h3
      · go_wp2
        go_roundw
        case rel =>
          refine ⟨i + 1, by omega, by go_num, ?_, HJ5.out, HKW.out⟩
          rw [leftTo_same s ch i hlt (by unfold left; rw [if_neg (by omega), if_neg (by omega)])]
          exact HD5.out
        case measure => simp [intOf]; omega
      · cases okb with
        | false =>
          go_wp2
          refine ⟨⟨i + 1, by omega, by go_num, ?_, HJ5.out, HKW.out⟩, by simp [intOf]; omega⟩
          rw [leftTo_same s ch i hlt (by
            have hq := HOK.out
            rw [HM.out] at hq
            simp only [Bool.false_eq_true, if_false] at hq
            unfold left
            rw [if_pos h3, hq])]
          exact HD5.out
        | true =>
          go_wp2
          obtain ⟨r, hr⟩ : ∃ r, r = i % 8 := ⟨_, rfl⟩
          have er : (i : Int).tmod 8 = (r : Int) := by rw [Int.tmod_eq_emod_of_nonneg (by omega)]; omega
          have hr8 : (r : Int) < 8 := by omega
          have hr8' : r < 8 := by omega
          obtain ⟨bv, hbv⟩ : ∃ bv, bv = [b0, b1, b2, b3, b4, b5, b6, b7].getD r 0 := ⟨_, rfl⟩
          have hcell : w5.cell? ⟨wr.heap.size, r, none⟩ = some (.int .u64 bv) := by
            rw [H85.out.cell, hbv, List.getD_eq_getElem?_getD]
            have h1 : r = 0 ∨ r = 1 ∨ r = 2 ∨ r = 3 ∨ r = 4 ∨ r = 5 ∨ r = 6 ∨ r = 7 := by omega
            rcases h1 with h1 | h1 | h1 | h1 | h1 | h1 | h1 | h1 <;> subst h1 <;> rfl
          have hlf : left s ch i = bv := by
            have hq := HOK.out
            rw [HM.out] at hq
            simp only [if_true] at hq
            unfold left
            rw [if_pos h3, hq, ← hr, hbv]
          obtain ⟨kv, hkc⟩ := kept_cell HD5.out (k := i) hlt
          have hkz := HD5.out.kept.frozen i
          have HLF := Lib.hid hlf
          clear hbv hr hlf
          refine wp_region_still_tail 10 (by kernel_rfl) (by kernel_rfl) ?_
          simp only [List.take_succ_cons, List.take_zero, List.drop_succ_cons, List.drop_zero]
          repeat still_step
          refine wpStill_nil ?_
          go_wp2
          refine ⟨⟨i + 1, by omega, by go_num, ?_, ?_, ?_⟩, by simp [intOf]; omega⟩
          · rw [← leftTo_set s ch i _ HLF.out]
            exact (HD5.out.heap (w' := w5.drew) rfl).setKeptCell (k := i) hlt bv
          · exact HC.out.stays _ _ _ HJ5.out (((Keep.refl w5.heap.size d.blocks w5).drew).setCell (by simp [DevI.blocks]) _)
          · exact HKW.out.drew.setCell (by simp [DevI.blocks]) _
      · obtain ⟨kv, hkc⟩ := kept_cell HD5.out (k := i) hlt
        have hkz := HD5.out.kept.frozen i
        have hnc := now_cell HD5.out (i := i) hlt
        simp only at hnc
        go_wp2
        refine wp_region_still_tail 13 (by kernel_rfl) (by kernel_rfl) ?_
        simp only [List.take_succ_cons, List.take_zero, List.drop_succ_cons, List.drop_zero]
        repeat still_step
        refine wpStill_nil ?_
        go_wp2
        have hlf : left s ch i = s.now[i] := by
          unfold left
          rw [if_neg (by omega), if_pos h3]
          simp [hlt]
        refine ⟨⟨i + 1, by omega, by go_num, ?_, ?_, ?_⟩, by simp [intOf]; omega⟩
        · rw [← leftTo_set s ch i _ hlf]
          exact (HD5.out.heap (w' := w5.drew) rfl).setKeptCell (k := i) hlt s.now[i]
        · exact HC.out.stays _ _ _ HJ5.out (((Keep.refl w5.heap.size d.blocks w5).drew).setCell (by simp [DevI.blocks]) _)
        · exact HKW.out.drew.setCell (by simp [DevI.blocks]) _
    · obtain rfl : i = s.now.length := by omega
      obtain ⟨w3, hcl, hm3, hk3, hs3⟩ := clear_keep (P := Try.prog) hI.dev.queue.1 underlying_queue 0
      have hnn : ((s.now.length : Int) < s.now.length) = False := by simp
      have hd3 : Dev w3 d { s with kept := leftTo s ch s.now.length, q := fun _ => none } := by
        refine hI.dev.setQueue hk3 ⟨?_, by intro j l hj; cases hj⟩
        have h0 : qmap (fun _ => none) = fun _ => none := by funext k; simp [qmap]
        rw [h0]
        exact hm3
      obtain ⟨hs0, hs1, hs2, hs3'⟩ := hd3.cells
      simp only at hs1 hs2
      have HI := Lib.hid hI
      have HD3 := Lib.hid hd3
      have HK3 := Lib.hid hk3
      clear hI hm3 hk3 hd3 hs3
      obtain ⟨w4, hcp, hb4, hk4, hs4⟩ := copy_blk (P := Try.prog) (dT := 31) (sT := 31) (ty := 3) underlying_words size_word (w := w3.drew) (Blk.drew HD3.out.now) (some ⟨d.nb, 0, none⟩) (some ⟨d.kb, 0, none⟩) s.now.length s.now.length s.now.length (s.now.length + d.kx.length) 0
        (uw (leftTo s ch s.now.length)) (by simp [uw, leftTo_length]) (fun _ => ⟨rfl, _, _, rfl, fun j v hv => by
          rw [Nat.zero_add, World.cell?_drew, HD3.out.kept.cell]
          have hj := (List.getElem?_eq_some_iff.1 hv).1
          simp only [List.getElem?_toArray]
          rw [List.getElem?_append_left hj]
          exact hv⟩) (by simp [uw, leftTo_length]) (uw_one _)
      have HB4 := Lib.hid hb4
      have HK4 := Lib.hid hk4
      clear hb4 hk4 hs4
      go_wp2_with fail
      refine wp_region_still_tail 8 (by kernel_rfl) (by kernel_rfl) ?_
      simp only [List.take_succ_cons, List.take_zero, List.drop_succ_cons, List.drop_zero]
      repeat still_step
      refine wpStill_nil ?_
      go_wp2
      go_end0
      have hk4 : Keep w3.heap.size [d.nb] w3 w4 := HK4.out.undrew
      have hk3 := HK3.out
      refine ⟨rfl, ?_, ?_, ?_⟩
      · have hb := HB4.out
        have hn := HD3.out.nodup
        simp only [DevI.blocks, List.nodup_cons, List.mem_cons, not_or, List.not_mem_nil, not_false_eq_true, and_true] at hn
        have hsp : splice (uw s.now) 0 (uw (leftTo s ch s.now.length)) = uw (leftTo s ch s.now.length) := by
          simp [splice, uw, leftTo_length]
        simp only [hsp] at hb
        have e : ∀ k ∈ d.blocks, k ≠ d.nb → w4.heap[k]? = w3.heap[k]? := fun k hm hne => hk4.block k (HD3.out.lt k hm) (by simpa using hne)
        have e := fun k hk => e k (by simp only [DevI.blocks, List.mem_cons, List.not_mem_nil, or_false]; exact hk)
        have hd := HD3.out
        exact {
          pow := (e d.p (by simp) (by omega)).trans hd.pow
          blk := by
            have := (e d.b (by simp) (by omega)).trans hd.blk
            simp only [St.crash, leftTo_length]
            exact this
          now := hb
          kept := (e d.kb (by simp) (by omega)).trans hd.kept
          queue := ⟨hd.queue.1.same (e d.qb (by simp) (by omega)), by intro j l hj; cases hj⟩
          lk := rfl
          l8 := by simp only [St.crash, leftTo_length]; exact hd.l8
          small := by simp only [St.crash, leftTo_length]; exact hd.small
          nodup := hd.nodup }
      · exact HC.out.stays _ _ _ (HC.out.stays _ _ _ HI.out.j (hk3.sub (by intro k _ hm; simp at hm; simp [DevI.blocks, hm]))) (hk4.sub (by intro k _ hm; simp at hm; simp [DevI.blocks, hm]))
      · have hz := HI.out.keep.size
        have hz3 := hk3.size
        exact HI.out.keep.trans ((hk3.mono hz (by intro k _ hm; simp at hm; simp [DevI.blocks, hm])).trans (hk4.mono (by omega) (by intro k _ hm; simp at hm; simp [DevI.blocks, hm])))
end Go.Proofs.Ytbdomdmnjclpdaa
