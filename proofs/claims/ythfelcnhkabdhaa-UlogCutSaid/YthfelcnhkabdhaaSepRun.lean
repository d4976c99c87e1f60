/-
  power.Run over things that lie apart.
-/
import Derived.Test.YthfelcnhkabdhaaSep
set_option linter.unusedSimpArgs false
set_option linter.unusedVariables false
namespace Go.Proofs.Ythfelcnhkabdhaa
open Go.RowKit Go.Shelf

section
variable {W w : World} {S : List Nat} {L : List Res}
/-- Run: what is done goes over things apart, the last of which is a box of Run's own. -/
theorem Sep.run {α β : Type} {PA : α → Prop} {PB : β → Prop} {LA : α → List Res} {LB : β → List Res} (HS : Sep W S L w) (n : Nat) (hn : L.length = n) (G : FuncId) (cap : Array Value) (hG : Enters Try.prog G)
    (hA : ∀ a, (LA a)[n]? = some (blkR w.heap.size 4 #[.bool false])) (hB : ∀ b, (LB b)[n]? = some (blkR w.heap.size 4 #[.bool false]))
    (h : ∀ w0, Sep W S (L ++ [blkR w.heap.size 4 #[.bool false]]) w0 → Calls Try.prog G cap w0 fun e w1 => ((∃ v, e = .returned v) ∧ ∃ a, PA a ∧ Sep W S (LA a) w1) ∨ (e = offE ∧ ∃ b, PB b ∧ Sep W S (LB b) w1)) :
    Calls Try.prog 34 #[.func (.func G) #[] cap] w fun e w' =>
      (e = .returned (.bool true) ∧ ∃ a, PA a ∧ Sep W S ((LA a).set n noR) w') ∨ (e = .returned (.bool false) ∧ ∃ b, PB b ∧ Sep W S ((LB b).set n noR) w') := by
  have h0 := h _ (HS.new 4 #[.bool false])
  refine (run_any G cap w (fun w1 => ∃ a, PA a ∧ Sep W S (LA a) w1) (fun w1 => ∃ b, PB b ∧ Sep W S (LB b) w1) hG (h0.mono ?_)).mono ?_
  · rintro e w1 (⟨hv, a, ha, hs⟩ | ⟨hv, b, hb, hs⟩)
    · exact ⟨hs.blk n (hA a), .inl ⟨hv, a, ha, hs⟩⟩
    · exact ⟨hs.blk n (hB b), .inr ⟨hv, b, hb, hs⟩⟩
  · rintro e w' (⟨he, w1, ⟨a, ha, hs⟩, hlt, rfl⟩ | ⟨he, w1, ⟨b, hb, hs⟩, hlt, rfl⟩)
    · refine .inl ⟨he, a, ha, ?_⟩
      have := (hs.put (hA a) 0 (.bool true)).forget n
      rwa [List.set_set] at this
    · refine .inr ⟨he, b, hb, ?_⟩
      have := ((hs.alloc (.cells #[] 86)).put (hB b) 0 (.bool false)).forget n
      rwa [List.set_set] at this
end
end Go.Proofs.Ythfelcnhkabdhaa
