/-
  Run, and tumuluslaw02.M, over things that lie apart.
-/
import Derived.Test.YtanjmbjnpcekcaaMDo6
import Derived.Test.YtanjmbjnpcekcaaSteps
import Derived.Test.YtanjmbjnpcekcaaSt
import Derived.Test.YtanjmbjnpcekcaaSepRun
set_option linter.unusedSimpArgs false
set_option linter.unusedVariables false
namespace Go.Proofs.Ytanjmbjnpcekcaa
open Go.RowKit Go.Shelf

def mR (m : MI) (s : St) : Res := ⟨m.blocks, fun w => ∃ t, MOf w m s t, fun _ ⟨_, h⟩ => h.lt, fun _ _ ⟨t, h⟩ e => ⟨t, h.same e⟩⟩

theorem stepTo_l (s : St) (dO v bt i : Int) : (stepTo s dO v bt i).l = s.l := by
  unfold stepTo
  split
  · split <;> rfl
  · split
    · rfl
    · split
      · rfl
      · split <;> rfl

section
variable {W w : World} {S : List Nat} {L : List Res}
theorem Sep.do_ (HS : Sep W S L w) (i j : Nat) {d : DevI} {m : MI} {s : St} (dO at_ v bt k : Int) (hi : L[i]? = some (devR d s)) (hj : L[j]? = some (mR m s)) (hij : i ≠ j)
    (d0 : 0 ≤ dO) (d1 : dO ≤ 255) (a0 : 0 ≤ at_) (a1 : at_ ≤ 255) (b0 : 0 ≤ bt) (b1 : bt ≤ 18446744073709551615) (hA : At s.now.length at_ k) :
    Calls Try.prog 38 #[.pointer (some ⟨m.b, 0, none⟩), .pointer (some ⟨d.b, 0, none⟩), .agg #[.int .u8 dO, .int .u8 at_, .int .u64 v, .int .u64 bt]] w fun e w' =>
      (¬ (ticks s.now.length dO k ∧ s.goes) ∧ e = .returned (.bool true) ∧ Sep W S ((L.set i (devR d (stepTo s dO v bt k))).set j (mR m (stepTo s dO v bt k))) w') ∨
      ((ticks s.now.length dO k ∧ s.goes) ∧ e = offE ∧ Sep W S ((L.set i (devR d s)).set j (mR m s)) w') := by
  have hd : Dev w d s := HS.all i _ hi
  obtain ⟨t, hm⟩ : ∃ t, MOf w m s t := HS.all j _ hj
  refine (do_any d m s t dO at_ v bt k w hd hm (fun x hx => HS.apart j i _ _ (fun e => hij e.symm) hj hi x hx) d0 d1 a0 a1 b0 b1 hA).mono ?_
  rintro e w' (⟨hg, he, t', h1, h2, hk⟩ | ⟨hg, he, t', h1, h2, hk⟩)
  · exact .inl ⟨hg, he, HS.step2 hij hi hj (r' := devR d _) (q' := mR m _) hk h1 ⟨t', h2⟩ (fun _ h => h) (fun _ h => h)⟩
  · exact .inr ⟨hg, he, HS.step2 hij hi hj (r' := devR d _) (q' := mR m _) hk h1 ⟨t', h2⟩ (fun _ h => h) (fun _ h => h)⟩
theorem Sep.do_free (HS : Sep W S L w) (i j : Nat) {d : DevI} {m : MI} {s : St} (dO at_ v bt k : Int) (hi : L[i]? = some (devR d s)) (hj : L[j]? = some (mR m s)) (hij : i ≠ j)
    (d0 : 0 ≤ dO) (d1 : dO ≤ 255) (a0 : 0 ≤ at_) (a1 : at_ ≤ 255) (b0 : 0 ≤ bt) (b1 : bt ≤ 18446744073709551615) (hA : At s.now.length at_ k) (hl : s.l < 0) :
    Calls Try.prog 38 #[.pointer (some ⟨m.b, 0, none⟩), .pointer (some ⟨d.b, 0, none⟩), .agg #[.int .u8 dO, .int .u8 at_, .int .u64 v, .int .u64 bt]] w fun e w' =>
      e = .returned (.bool true) ∧ Sep W S ((L.set i (devR d (stepTo s dO v bt k))).set j (mR m (stepTo s dO v bt k))) w' :=
  (HS.do_ i j dO at_ v bt k hi hj hij d0 d1 a0 a1 b0 b1 hA).mono fun _ _ h => h.elim (fun h => h.2) (fun h => absurd h.1.2.1 (by omega))
theorem Sep.same_ (HS : Sep W S L w) (i j : Nat) {d : DevI} {m : MI} {s : St} (hi : L[i]? = some (devR d s)) (hj : L[j]? = some (mR m s)) :
    Calls Try.prog 37 #[.pointer (some ⟨m.b, 0, none⟩), .pointer (some ⟨d.b, 0, none⟩)] w fun e w' => e = .returned (.bool true) ∧ Keep w.heap.size [] w w' := by
  obtain ⟨t, hm⟩ : ∃ t, MOf w m s t := HS.all j _ hj
  exact same_any d m s t w (HS.all i _ hi) hm
end
end Go.Proofs.Ytanjmbjnpcekcaa
