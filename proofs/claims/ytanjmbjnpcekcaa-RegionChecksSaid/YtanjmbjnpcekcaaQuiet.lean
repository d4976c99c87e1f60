/-
  Regions that draw their order, whose operations read, and call what makes new memory alone.
-/
import Derived.Deep.Quiet
import Derived.Deep.QuietTactic
import Derived.BigQuiet
import Derived.Test.YtanjmbjnpcekcaaBase
namespace Go.Proofs.Ytanjmbjnpcekcaa
open Go.RowKit

/-- A world that is w, but for new blocks. -/
structure Ext (w : World) where
  now : World
  keep : Keep w.heap.size [] w now

instance (w : World) : Nonempty (Ext w) := ⟨⟨w, Keep.refl _ _ _⟩⟩

theorem Ext.cell {w : World} (x : Ext w) {a : Addr} {v : Value} (h : w.cell? a = some v) : x.now.cell? a = some v :=
  (World.cell?_of_block (x.keep.block a.block (World.block_lt_of_cell? w _ h) (by simp))).trans h

theorem Calls.ext {P : Program} {f : FuncId} {args : Array Value} {w : World} {x : Ext w} {v : Value}
    (h : Calls P f args x.now fun e w' => e = .returned v ∧ Keep x.now.heap.size [] x.now w') : Calls P f args x.now fun e w'' => e = .returned v ∧ ∃ y : Ext w, w'' = y.now :=
  h.mono fun _ w'' ⟨he, hk⟩ => ⟨he, ⟨w'', x.keep.join hk x.keep.size (by simp)⟩, rfl⟩

theorem Calls.ext_same {P : Program} {f : FuncId} {args : Array Value} {w : World} {x : Ext w} {v : Value}
    (h : Calls P f args x.now fun e w' => e = .returned v ∧ x.now = w') : Calls P f args x.now fun e w'' => e = .returned v ∧ ∃ y : Ext w, w'' = y.now :=
  h.mono fun _ _ ⟨he, hk⟩ => ⟨he, x, hk.symm⟩

theorem wp_region_ext {P : Program} {id : Nat} {Q : Exit → Act → World → Prop} {a : Act} {w : World} {l : List Oper} (hm : P.follows .mixedOrders = true) (hB : Region.lexB .any l.toArray = true)
    (h : wpQuiet P l.toArray (fun w' => ∃ x : Ext w, w' = x.now) (fun a' => ∀ w', (∃ x : Ext w, w' = x.now) → Q .normal a' w') l a) : (Code.region id l.toArray true).wp P Q a w :=
  wp_region_quiet (C := fun w' => ∃ x : Ext w, w' = x.now) hm hB ⟨⟨_, (Keep.refl _ _ _).drew⟩, rfl⟩ (by simpa using h)
end Go.Proofs.Ytanjmbjnpcekcaa
