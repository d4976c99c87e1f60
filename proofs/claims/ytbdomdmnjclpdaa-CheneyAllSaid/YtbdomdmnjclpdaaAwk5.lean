/-
  tumuluslaw05.Awake.
-/
import Derived.Test.YtbdomdmnjclpdaaFmtP
import Derived.Test.YtbdomdmnjclpdaaHead
set_option linter.unusedSimpArgs false
set_option linter.unusedVariables false
set_option maxRecDepth 100000
namespace Go.Proofs.Ytbdomdmnjclpdaa
open Go.RowKit Go.Shelf

theorem k318_ok : (Kfg.mk 3 1 8).Ok := ⟨by decide, by decide, by decide, by decide, by decide, by decide⟩
def zeros (n : Nat) : List Int := List.replicate n 0
theorem zeros_length (n : Nat) : (zeros n).length = n := List.length_replicate
theorem make_zeros (n : Nat) (w : World) (hn : n ≤ 1000000000) : (Instr.makeSlice 31 (.int .i64 n) (.int .i64 n)).run Try.prog w = .ok (.slice (some ⟨w.heap.size, 0, none⟩) n n) (w.alloc (.cells (uw (zeros n)).toArray 38)) := make_words n w hn
theorem zeros_nw (n j : Nat) : (St.fresh (-1) 0 (zeros n)).nw j = 0 := by
  show (pad (List.replicate n 0)).getD j 0 = 0
  rw [pad_getD, List.getD_eq_getElem?_getD, List.getElem?_replicate]
  split <;> rfl
theorem zeros_is (n : Nat) (h : n % 8 = 0) (l u : Int) : (St.fresh l u (zeros n)).Is n := by
  unfold zeros
  have := fresh_is l u (List.replicate n 0)
  rwa [pad_of (by simpa using h), List.length_replicate] at this

set_option maxRecDepth 100000 in
set_option maxHeartbeats 2000000 in
theorem awake5_any (w : World) : Calls Try.prog 82 #[] w fun e w' => e = .returned (.bool true) ∧ Keep w.heap.size [] w w' := by
  have HS := Lib.hid (Sep.start w [])
  have hmk : ∀ w, (Instr.makeSlice 31 (.int .i64 56) (.int .i64 56)).run Try.prog w = .ok (.slice (some ⟨w.heap.size, 0, none⟩) 56 56) (w.alloc (.cells (uw (zeros 56)).toArray 38)) := fun w => make_zeros 56 w (by decide)
  go_enter Try.func82, Try.ntmps82
  go_wp2_with fail
  refine (awake4_any _).mono ?_
  rintro e w1 ⟨rfl, hk⟩
  replace HS := Lib.hid (HS.out.grow hk)
  clear hk
  replace HS := Lib.hid (HS.out.new 38 (uw (zeros 56)).toArray)
  go_wp2_with fail
  generalize w1.alloc _ = w2 at *
  generalize w1.heap.size = gz at *
  clear hmk
  have hrd : Rd w2 (.slice (some ⟨gz, 0, none⟩) 56 56) (uw (zeros 56)) := by
    have := Rd.of_uw (w := w2) (n := 56) (ex := []) (xs := zeros 56) (by rw [List.append_nil]; exact HS.out.blk 0 rfl)
    rwa [zeros_length] at this
  have HRD := Lib.hid hrd
  clear hrd
  refine (new2_any _ (zeros 56) _ HRD.out (by rw [zeros_length]; decide)).mono ?_
  rintro e w1 ⟨d, rfl, hdb, hd, hk⟩
  replace HS := Lib.hid (HS.out.add hk (r := devR d _) hd hdb)
  clear hdb hd hk
  have hI : (St.fresh (-1) 0 (zeros 56)).Is 56 := zeros_is 56 (by decide) _ _
  have hz := zeros_nw 56
  have hm : Reads ((St.fresh (-1) 0 (zeros 56)).nw 0) ((St.fresh (-1) 0 (zeros 56)).nw 1) ((St.fresh (-1) 0 (zeros 56)).nw 2) ((St.fresh (-1) 0 (zeros 56)).nw 3) (St.fresh (-1) 0 (zeros 56)).now.length 0 0 0 7 := by
    rw [hz]
    exact ⟨fun _ => ⟨rfl, rfl, rfl, rfl⟩, fun h => absurd h (by decide), fun h => absurd h (by decide), fun h => absurd h (by decide)⟩
  have HM := Lib.hid hm
  have HZ := Lib.hid hz
  have HI := Lib.hid hI
  clear hm hz hI
  go_wp2_with fail
  refine (read_any d _ 0 0 0 7 _ (HS.out.dev 1 rfl) (by rw [HZ.out]; decide) (by rw [HZ.out]; decide) (by rw [HZ.out]; decide) HM.out).mono ?_
  rintro e w1 ⟨rfl, hk⟩
  replace HS := Lib.hid (HS.out.grow hk)
  clear hk
  go_wp2_with fail
  refine (format_any d _ (Kfg.mk 3 1 8) _ ((HS.out.alloc _).dev 1 rfl) k318_ok HI.out.now).mono ?_
  rintro e w4 hp
  obtain ⟨rfl, hd, hk⟩ := hp.free (by show (-1 : Int) < 0; decide)
  replace HS := Lib.hid ((HS.out.alloc _).did (i := 1) rfl hd hk)
  have ha := all_of k318_ok HI.out
  have hr := AllS.reads k318_ok ha.whole (HI.out.run _)
  have HR := Lib.hid hr
  have HA := Lib.hid ha
  clear hp hd hk ha hr
  go_wp2_with fail
  refine (read_any d _ 3 1 8 0 _ (HS.out.dev 1 rfl) (by rw [HA.out.w1.1]; decide) (by rw [HA.out.w2.1]; decide) (by rw [HA.out.w3.1]; decide) HR.out).mono ?_
  rintro e w1 ⟨rfl, hk⟩
  replace HS := Lib.hid (HS.out.grow hk)
  clear hk
  replace HS := Lib.hid (HS.out.new 30 #[.int .i64 3, .int .i64 1, .int .i64 8])
  go_wp2_with fail
  have hkw : ∀ w, Calls Try.prog 60 #[.agg #[.int .i64 3, .int .i64 1, .int .i64 8]] w fun e w' => e = .returned (.int .i64 56) ∧ Keep w.heap.size [] w w' := fun w => kwords (Kfg.mk 3 1 8) w k318_ok
  refine (hkw _).mono ?_
  rintro e w1 ⟨rfl, hk⟩
  replace HS := Lib.hid (HS.out.grow hk)
  clear hk
  clear hkw
  go_wp2
  go_ret
  exact ⟨rfl, HS.out.keep⟩
end Go.Proofs.Ytbdomdmnjclpdaa
