/-
  tumuluslaw02.M.Do: any step.
-/
import Derived.Test.YtanjmbjnpcekcaaMDo5
set_option linter.unusedSimpArgs false
set_option linter.unusedVariables false
namespace Go.Proofs.Ytanjmbjnpcekcaa
open Go.RowKit Go.Shelf

/-- What a step leaves. -/
def stepTo (s : St) (dO v bt i : Int) : St :=
  if dO % 7 = 4 then (if 0 ≤ i ∧ i < s.now.length then s.flush i.toNat else s)
  else if dO % 7 = 5 then s.fence
  else if dO % 7 = 6 then s.crash (choiceOf bt)
  else if 0 ≤ i ∧ i < s.now.length then s.store i.toNat v else s
/-- Is it a step of the power? -/
def ticks (n : Nat) (dO i : Int) : Prop := dO % 7 = 5 ∨ (dO % 7 ≠ 6 ∧ 0 ≤ i ∧ i < n)

theorem do_any (d : DevI) (m : MI) (s : St) (t : List Int) (dO at_ v bt i : Int) (w : World) (hd : Dev w d s) (hm : MOf w m s t) (hap : ∀ j ∈ m.blocks, j ∉ d.blocks)
    (d0 : 0 ≤ dO) (d1 : dO ≤ 255) (a0 : 0 ≤ at_) (a1 : at_ ≤ 255) (b0 : 0 ≤ bt) (b1 : bt ≤ 18446744073709551615) (hA : At s.now.length at_ i) :
    Calls Try.prog 38 #[.pointer (some ⟨m.b, 0, none⟩), .pointer (some ⟨d.b, 0, none⟩), .agg #[.int .u8 dO, .int .u8 at_, .int .u64 v, .int .u64 bt]] w fun e w' =>
      (¬ (ticks s.now.length dO i ∧ s.goes) ∧ DidM w d m (stepTo s dO v bt i) e w') ∨ ((ticks s.now.length dO i ∧ s.goes) ∧ CutM w d m s e w') := by
  have hq : dO % 7 ≤ 3 ∨ dO % 7 = 4 ∨ dO % 7 = 5 ∨ dO % 7 = 6 := by omega
  have hnil : ∀ {w'}, Keep w.heap.size [] w w' → Keep w.heap.size (d.blocks ++ m.blocks) w w' := fun h => h.sub (by simp)
  by_cases hi : 0 ≤ i ∧ i < s.now.length
  · obtain ⟨k, rfl⟩ := Int.eq_ofNat_of_zero_le hi.1
    have hk : k < s.now.length := by omega
    rcases hq with hq | hq | hq | hq
    · have ht : ticks s.now.length dO (k : Int) := .inr ⟨by omega, hi.1, hi.2⟩
      have e : stepTo s dO v bt k = s.store k v := by unfold stepTo; rw [if_neg (by omega), if_neg (by omega), if_neg (by omega), if_pos hi]; rfl
      rw [e]
      exact (do_store d m s t dO at_ v bt k w hd hm hap d0 d1 a0 a1 hq hA hk).mono fun e w' h => h.imp (fun ⟨a, b⟩ => ⟨fun c => a c.2, b⟩) (fun ⟨a, b⟩ => ⟨⟨ht, a⟩, b⟩)
    · have ht : ticks s.now.length dO (k : Int) := .inr ⟨by omega, hi.1, hi.2⟩
      have e : stepTo s dO v bt k = s.flush k := by unfold stepTo; rw [if_pos hq, if_pos hi]; rfl
      rw [e]
      exact (do_flush d m s t dO at_ v bt k w hd hm hap d0 d1 a0 a1 hq hA hk).mono fun e w' h => h.imp (fun ⟨a, b⟩ => ⟨fun c => a c.2, b⟩) (fun ⟨a, b⟩ => ⟨⟨ht, a⟩, b⟩)
    · have ht : ticks s.now.length dO (k : Int) := .inl hq
      have e : stepTo s dO v bt k = s.fence := by unfold stepTo; rw [if_neg (by omega), if_pos hq]
      rw [e]
      exact (do_fence d m s t dO at_ v bt w hd hm hap d0 d1 a0 a1 hq).mono fun e w' h => h.imp (fun ⟨a, b⟩ => ⟨fun c => a c.2, b⟩) (fun ⟨a, b⟩ => ⟨⟨ht, a⟩, b⟩)
    · have ht : ¬ ticks s.now.length dO (k : Int) := by unfold ticks; omega
      have e : stepTo s dO v bt k = s.crash (choiceOf bt) := by unfold stepTo; rw [if_neg (by omega), if_neg (by omega), if_pos hq]
      rw [e]
      exact (do_crash d m s t dO at_ v bt w hd hm hap d0 d1 a0 a1 hq b0 b1).mono fun e w' h => .inl ⟨fun c => ht c.1, h⟩
  · rcases hq with hq | hq | hq | hq
    · have ht : ¬ ticks s.now.length dO i := by unfold ticks; omega
      have e : stepTo s dO v bt i = s := by unfold stepTo; rw [if_neg (by omega), if_neg (by omega), if_neg (by omega), if_neg hi]
      rw [e]
      exact (do_store_out d m s t dO at_ v bt i w hd hm hap d0 d1 a0 a1 hq hA hi).mono fun e w' ⟨h1, h2, h3, h4⟩ => .inl ⟨fun c => ht c.1, h1, t, h2, h3, hnil h4⟩
    · have ht : ¬ ticks s.now.length dO i := by unfold ticks; omega
      have e : stepTo s dO v bt i = s := by unfold stepTo; rw [if_pos hq, if_neg hi]
      rw [e]
      exact (do_flush_out d m s t dO at_ v bt i w hd hm hap d0 d1 a0 a1 hq hA hi).mono fun e w' ⟨h1, h2, h3, h4⟩ => .inl ⟨fun c => ht c.1, h1, t, h2, h3, hnil h4⟩
    · have ht : ticks s.now.length dO i := .inl hq
      have e : stepTo s dO v bt i = s.fence := by unfold stepTo; rw [if_neg (by omega), if_pos hq]
      rw [e]
      exact (do_fence d m s t dO at_ v bt w hd hm hap d0 d1 a0 a1 hq).mono fun e w' h => h.imp (fun ⟨a, b⟩ => ⟨fun c => a c.2, b⟩) (fun ⟨a, b⟩ => ⟨⟨ht, a⟩, b⟩)
    · have ht : ¬ ticks s.now.length dO i := by unfold ticks; omega
      have e : stepTo s dO v bt i = s.crash (choiceOf bt) := by unfold stepTo; rw [if_neg (by omega), if_neg (by omega), if_pos hq]
      rw [e]
      exact (do_crash d m s t dO at_ v bt w hd hm hap d0 d1 a0 a1 hq b0 b1).mono fun e w' h => .inl ⟨fun c => ht c.1, h⟩
end Go.Proofs.Ytanjmbjnpcekcaa
