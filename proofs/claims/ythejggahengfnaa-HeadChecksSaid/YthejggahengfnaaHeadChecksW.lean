/-
  The walk of tumuluslaw04.HeadChecks.
-/
import Derived.Test.YthejggahengfnaaHead
import Derived.Test.YthejggahengfnaaOpen
set_option linter.unusedSimpArgs false
set_option linter.unusedVariables false
namespace Go.Proofs.Ythejggahengfnaa
open Go.RowKit Go.Shelf

set_option maxRecDepth 100000 in
set_option maxHeartbeats 2000000 in
theorem HeadChecks.core (l r L R : Int) (near : Bool) (w : World) (hL : (if near then l.tmod 70 else l) = L) (hR : (if near then r.tmod 70 else r) = R) :
    Calls Try.prog 4 #[.int .i64 l, .int .i64 r, .bool near] w fun e w' => e = .returned (.bool true) ∧ Keep w.heap.size [] w w' := by
  have HS := Lib.hid (Sep.start w [])
  by_cases hok : headOk L R
  · have HOK := Lib.hid hok
    obtain ⟨h1, h2, h3, h4⟩ := hok
    cases near
    all_goals
      simp only [if_true, Bool.false_eq_true, if_false] at hL hR
      try (subst hL hR)
      go_enter Try.func4, Try.ntmps4
      go_wp2_with fail
      refine (awake4_any _).mono ?_
      rintro e w1 ⟨rfl, hk⟩
      replace HS := Lib.hid (HS.out.grow hk)
      clear hk
      go_wp2_with fail
      refine (hcheck_yes _ _ _ HOK.out).mono ?_
      rintro e w1 ⟨rfl, hk⟩
      replace HS := Lib.hid ((HS.out.alloc _).grow hk)
      clear hk
      go_wp2
      go_ret
      exact ⟨rfl, HS.out.keep⟩
  · have hcs : L < 0 ∨ (0 ≤ L ∧ 64 < L) ∨ (0 ≤ L ∧ L ≤ 64 ∧ R < 0) ∨ (0 ≤ L ∧ L ≤ 64 ∧ 0 ≤ R ∧ L < R) := by unfold headOk at hok; omega
    have HOK := Lib.hid hok
    clear hok
    rcases hcs with h1 | ⟨h1, h2⟩ | ⟨h1, h2, h3⟩ | ⟨h1, h2, h3, h4⟩
    all_goals
      try (have hd : decide (R ≤ L) = false := by (simp; omega))
      cases near
      all_goals
        simp only [if_true, Bool.false_eq_true, if_false] at hL hR
        try (subst hL hR)
        go_enter Try.func4, Try.ntmps4
        go_wp2_with fail
        refine (awake4_any _).mono ?_
        rintro e w1 ⟨rfl, hk⟩
        replace HS := Lib.hid (HS.out.grow hk)
        clear hk
        go_wp2_with fail
        refine (hcheck_no _ _ _ HOK.out).mono ?_
        rintro e w1 ⟨rfl, hk⟩
        replace HS := Lib.hid ((HS.out.new _ _).grow hk)
        clear hk
        have c0 := (HS.out.blk 0 rfl).cell 0
        simp at c0
        have c1 := (HS.out.blk 0 rfl).cell 1
        simp at c1
        go_wp2_with fail
        try (refine (hcheck_no _ _ _ HOK.out).mono ?_; rintro e w1 ⟨rfl, hk⟩; replace HS := Lib.hid (HS.out.grow hk); clear hk; clear c0 c1; go_wp2_with fail)
        go_ret
        exact ⟨rfl, HS.out.keep⟩

theorem HeadChecks.walk {w : World} (l : Int) (_ : lowest .i64 ≤ l) (_ : l ≤ greatest .i64) (r : Int) (_ : lowest .i64 ≤ r) (_ : r ≤ greatest .i64) (near : Bool) :
    Calls Try.prog 4 #[.int .i64 l, .int .i64 r, .bool near] w fun e w' => e = .returned (.bool true) ∧ Below w.heap.size w w' :=
  (HeadChecks.core l r _ _ near w rfl rfl).mono fun e w' ⟨he, hk⟩ => ⟨he, hk.below⟩
end Go.Proofs.Ythejggahengfnaa
