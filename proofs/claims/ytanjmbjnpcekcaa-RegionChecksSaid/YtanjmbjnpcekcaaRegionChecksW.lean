/-
  The walk of tumuluslaw03.RegionChecks.
-/
import Derived.Test.YtanjmbjnpcekcaaOpen
import Derived.Test.YtanjmbjnpcekcaaReg
namespace Go.Proofs.Ytanjmbjnpcekcaa
open Go.RowKit Go.Shelf

theorem errIf_yes (l r s : Int) (h : 1 ≤ r ∧ r ≤ 16 ∧ r + 2 ≤ l ∧ l ≤ 200 ∧ 8 ≤ s ∧ s ≤ 4096) : errIf (Cfg.okB ⟨l, r, s⟩) = 0 := by
  simp only [errIf, Cfg.okB, h, and_self, decide_true, if_true]
theorem errIf_no (l r s : Int) (h : ¬ (1 ≤ r ∧ r ≤ 16 ∧ r + 2 ≤ l ∧ l ≤ 200 ∧ 8 ≤ s ∧ s ≤ 4096)) : errIf (Cfg.okB ⟨l, r, s⟩) = 1 := by
  simp only [errIf, Cfg.okB, h, decide_false, Bool.false_eq_true, if_false]

set_option maxHeartbeats 2000000 in
theorem RegionChecks.core (l r s L R S : Int) (near : Bool) (w : World) (hL : (if near then l.tmod 210 else l) = L) (hR : (if near then r.tmod 20 else r) = R) (hS : (if near then s.tmod 4110 else s) = S) :
    Calls Try.prog 4 #[.int .i64 l, .int .i64 r, .int .i64 s, .bool near] w fun e w' => e = .returned (.bool true) ∧ Keep w.heap.size [] w w' := by
  have hck := fun w => check_any ⟨L, R, S⟩ w
  by_cases hok : 1 ≤ R ∧ R ≤ 16 ∧ R + 2 ≤ L ∧ L ≤ 200 ∧ 8 ≤ S ∧ S ≤ 4096
  · rw [errIf_yes L R S hok] at hck
    obtain ⟨h1, h2, h3, h4, h5, h6⟩ := hok
    unfold Cfg.val at hck
    simp only at hck
    cases near
    all_goals
      simp only [if_true, Bool.false_eq_true, if_false] at hL hR hS
      try (subst hL hR hS)
      go_enter Try.func4, Try.ntmps4
      go_wp2_with fail
      refine (awake3_any w).mono ?_
      rintro e w1 ⟨rfl, hk1⟩
      have HK1 := Lib.hid hk1
      clear hk1
      go_wp2_with fail
      refine (hck _).mono ?_
      rintro e w2 ⟨rfl, hk2⟩
      have HK2 := Lib.hid hk2
      clear hk2
      go_wp2
      go_ret
      exact ⟨rfl, (HK1.out.alloc HK1.out.size _).join HK2.out (by have := HK1.out.size; simp; omega) (by simp)⟩
  · rw [errIf_no L R S hok] at hck
    unfold Cfg.val at hck
    simp only at hck
    have hcs : R < 1 ∨ (1 ≤ R ∧ 16 < R) ∨ (1 ≤ R ∧ R ≤ 16 ∧ 200 < L) ∨ (1 ≤ R ∧ R ≤ 16 ∧ L ≤ 200 ∧ L < 0) ∨ (1 ≤ R ∧ R ≤ 16 ∧ L ≤ 200 ∧ 0 ≤ L ∧ L < R + 2) ∨
        (1 ≤ R ∧ R ≤ 16 ∧ L ≤ 200 ∧ R + 2 ≤ L ∧ S < 8) ∨ (1 ≤ R ∧ R ≤ 16 ∧ L ≤ 200 ∧ R + 2 ≤ L ∧ 8 ≤ S ∧ 4096 < S) := by omega
    clear hok
    rcases hcs with h1 | ⟨h1, h2⟩ | ⟨h1, h2, h3⟩ | ⟨h1, h2, h3, h4⟩ | ⟨h1, h2, h3, h4, h5⟩ | ⟨h1, h2, h3, h4, h5⟩ | ⟨h1, h2, h3, h4, h5, h6⟩
    all_goals
      cases near
      all_goals
        simp only [if_true, Bool.false_eq_true, if_false] at hL hR hS
        try (subst hL hR hS)
        go_enter Try.func4, Try.ntmps4
        go_wp2_with fail
        refine (awake3_any w).mono ?_
        rintro e w1 ⟨rfl, hk1⟩
        have HK1 := Lib.hid hk1
        clear hk1
        go_wp2_with fail
        refine (hck _).mono ?_
        rintro e w2 ⟨rfl, hk2⟩
        have HK2 := Lib.hid hk2
        clear hk2
        go_wp2
        go_ret
        exact ⟨rfl, (HK1.out.alloc HK1.out.size _).join HK2.out (by have := HK1.out.size; simp; omega) (by simp)⟩

theorem RegionChecks.walk (l : Int) (_ : lowest .i64 ≤ l) (_ : l ≤ greatest .i64) (r : Int) (_ : lowest .i64 ≤ r) (_ : r ≤ greatest .i64) (s : Int) (_ : lowest .i64 ≤ s) (_ : s ≤ greatest .i64) (near : Bool) (w : World) :
    Calls Try.prog 4 #[.int .i64 l, .int .i64 r, .int .i64 s, .bool near] w fun e w' => e = .returned (.bool true) ∧ Below w.heap.size w w' :=
  (RegionChecks.core l r s _ _ _ near w rfl rfl rfl).mono fun _ _ ⟨he, hk⟩ => ⟨he, hk.below⟩
end Go.Proofs.Ytanjmbjnpcekcaa
