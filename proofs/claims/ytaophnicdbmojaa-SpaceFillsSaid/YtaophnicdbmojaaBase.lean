/-
  Words for memory, and their laws: a block that is known whole; what a call keeps.
-/
import Derived.WalkKit
import Derived.Deep.Draws
import Derived.Below
set_option maxRecDepth 100000
namespace Go.Proofs.Ytaophnicdbmojaa
open Go.RowKit

/-- Block g is just these cells, none frozen. -/
def Blk (w : World) (g : Nat) (t : TypeId) (cs : Array Value) : Prop := w.heap[g]? = some (.cells cs t (0, 0))

/-- Below block n, but for the blocks of S, all is as it was. -/
structure Keep (n : Nat) (S : List Nat) (w w' : World) : Prop where
  os : w'.os = w.os
  tape : w'.tape = w.tape
  output : w'.output = w.output
  size : w.heap.size ≤ w'.heap.size
  block : ∀ k, k < n → k ∉ S → w'.heap[k]? = w.heap[k]?

section
variable {w w' w'' : World} {g n m : Nat} {t : TypeId} {cs : Array Value} {S S' : List Nat}
theorem Blk.lt (h : Blk w g t cs) : g < w.heap.size := by
  rcases Nat.lt_or_ge g w.heap.size with hlt | hge
  · exact hlt
  · unfold Blk at h; rw [Array.getElem?_eq_none hge] at h; cases h
theorem Blk.cell (h : Blk w g t cs) (i : Nat) : w.cell? ⟨g, i, none⟩ = cs[i]? := cell_of_row w g i cs t (0, 0) h
theorem Blk.frozen (h : Blk w g t cs) (i : Nat) : w.frozen? ⟨g, i, none⟩ = false := by
  unfold Blk at h
  simp [World.frozen?, h]
theorem Blk.new (w : World) (t : TypeId) (cs : Array Value) : Blk (w.alloc (.cells cs t)) w.heap.size t cs := heap_alloc_new w _
theorem Blk.drew (h : Blk w g t cs) : Blk w.drew g t cs := h
theorem Blk.drewN (h : Blk w g t cs) (n : Nat) : Blk (w.drewN n) g t cs := h
theorem Blk.alloc (h : Blk w g t cs) (o : Obj) : Blk (w.alloc o) g t cs := (Below.heap_alloc w o g h.lt).trans h
theorem Blk.set_ (h : Blk w g t cs) (i : Nat) (u : Value) : Blk (w.setCell ⟨g, i, none⟩ u) g t (cs.setIfInBounds i u) := by
  unfold Blk at h ⊢
  simp [World.setCell, Array.getElem?_modify, h]
theorem Blk.far (h : Blk w g t cs) {p : Addr} (hp : g ≠ p.block) (u : Value) : Blk (w.setCell p u) g t cs := (Below.heap_setCell w p u g hp).trans h
theorem Blk.keep (h : Blk w g t cs) (hk : Keep n S w w') (hg : g < n) (hS : g ∉ S) : Blk w' g t cs := (hk.block g hg hS).trans h
theorem Blk.inj {cs' : Array Value} {t' : TypeId} (h : Blk w g t cs) (h' : Blk w g t' cs') : cs = cs' := by
  unfold Blk at h h'; rw [h] at h'; injection h' with h'; injection h'

theorem Keep.refl (n : Nat) (S : List Nat) (w : World) : Keep n S w w := ⟨rfl, rfl, rfl, Nat.le_refl _, fun _ _ _ => rfl⟩
theorem Keep.trans (h : Keep n S w w') (h' : Keep n S w' w'') : Keep n S w w'' :=
  ⟨h'.os.trans h.os, h'.tape.trans h.tape, h'.output.trans h.output, Nat.le_trans h.size h'.size, fun k hk hs => (h'.block k hk hs).trans (h.block k hk hs)⟩
theorem Keep.mono (h : Keep n S w w') (hm : m ≤ n) (hS : ∀ k, k < m → k ∈ S → k ∈ S') : Keep m S' w w' :=
  ⟨h.os, h.tape, h.output, h.size, fun k hk hs => h.block k (by omega) (fun c => hs (hS k hk c))⟩
theorem Keep.le (h : Keep n S w w') (hm : m ≤ n) : Keep m S w w' := h.mono hm fun _ _ h => h
theorem Keep.sub (h : Keep n S w w') (hS : ∀ k, k < n → k ∈ S → k ∈ S') : Keep n S' w w' := h.mono (Nat.le_refl _) hS
theorem Keep.drew (h : Keep n S w w') : Keep n S w w'.drew := ⟨h.os, h.tape, h.output, h.size, h.block⟩
theorem Keep.drewN (h : Keep n S w w') (k : Nat) : Keep n S w (w'.drewN k) := ⟨h.os, h.tape, h.output, h.size, h.block⟩
theorem Keep.undrew (h : Keep n S w.drew w') : Keep n S w w' := ⟨h.os, h.tape, h.output, h.size, h.block⟩
theorem Keep.undrewN {k : Nat} (h : Keep n S (w.drewN k) w') : Keep n S w w' := ⟨h.os, h.tape, h.output, h.size, h.block⟩
theorem Keep.alloc (h : Keep n S w w') (hn : n ≤ w'.heap.size) (o : Obj) : Keep n S w (w'.alloc o) :=
  h.trans ⟨rfl, rfl, rfl, by simp, fun k hk _ => Below.heap_alloc _ _ _ (by omega)⟩
theorem Keep.setCell (h : Keep n S w w') {p : Addr} (hp : p.block < n → p.block ∈ S) (u : Value) : Keep n S w (w'.setCell p u) :=
  h.trans ⟨rfl, rfl, rfl, by simp [World.setCell], fun k hk hs => Below.heap_setCell _ _ _ _ (fun e => hs (e ▸ hp (e ▸ hk)))⟩
theorem Keep.grown (h : Keep n S w w') {row : Option Nat} (hg : w'.grownBy w'' row) (hn : n ≤ w'.heap.size) (hr : ∀ k, row = some k → k < n → k ∈ S) : Keep n S w w'' :=
  h.trans ⟨hg.os, hg.tape, hg.output, hg.size, fun k hk hs => hg.block k (by omega) (fun e => hs (hr k e.symm hk))⟩
theorem Keep.below (h : Keep n [] w w') : Below n w w' := ⟨h.os, h.tape, h.output, h.size, fun k hk => h.block k hk (by simp)⟩
theorem Keep.of_below (h : Below n w w') : Keep n [] w w' := ⟨h.os, h.tape, h.output, h.size, fun k hk _ => h.block k hk⟩
/-- What any call keeps, from the size that the heap had. -/
theorem Keep.join (h : Keep n S w w') (h' : Keep w'.heap.size S' w' w'') (hn : n ≤ w'.heap.size) (hS : ∀ k, k < n → k ∈ S' → k ∈ S) : Keep n S w w'' :=
  h.trans (h'.mono hn hS)
end
end Go.Proofs.Ytaophnicdbmojaa
