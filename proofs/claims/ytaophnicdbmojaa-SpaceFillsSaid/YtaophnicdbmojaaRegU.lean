/-
  region.Config.Used.
-/
import Derived.Test.YtaophnicdbmojaaReg
set_option maxRecDepth 100000
namespace Go.Proofs.Ytaophnicdbmojaa
open Go.RowKit Go.Shelf

set_option maxHeartbeats 400000 in
theorem usedAt_any (c : Cfg) (w : World) (h : c.Small) :
    Calls Try.prog 21 #[c.val] w fun e w' => e = .returned (.int .i64 (c.active + 1)) ∧ Keep w.heap.size [] w w' := by
  have ha := fun w => active_any c w h
  obtain ⟨a0, a1⟩ := active_le c h
  generalize c.active = ac at *
  unfold Cfg.val at *
  clear h
  go_enter Try.func21, Try.ntmps21
  go_wp2_with fail
  refine (ha _).mono ?_
  rintro e w1 ⟨rfl, hk⟩
  have HK := Lib.hid hk
  clear hk
  go_wp2
  go_ret
  exact ⟨rfl, ((Keep.refl _ _ _).alloc (Nat.le_refl _) _).join HK.out (by simp) (by simp)⟩

end Go.Proofs.Ytaophnicdbmojaa
