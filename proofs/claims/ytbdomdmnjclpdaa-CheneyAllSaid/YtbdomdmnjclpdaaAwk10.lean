/-
  tumuluslaw10.Awake.
-/
import Derived.Test.YtbdomdmnjclpdaaAwk9
import Derived.Test.YtbdomdmnjclpdaaFill
import Derived.Test.YtbdomdmnjclpdaaNames
set_option linter.unusedSimpArgs false
set_option linter.unusedVariables false
set_option maxRecDepth 100000
namespace Go.Proofs.Ytbdomdmnjclpdaa
open Go.RowKit Go.Shelf

/-- A new row of one small head. -/
theorem rdH_one {w : World} {g : Nat} {rf wd : Int} (h : Blk w g 61 #[.int .u8 rf, .int .u8 wd]) : RdH w (.slice (some ⟨g, 0, none⟩) 1 1) [⟨rf, wd⟩] := by
  refine ⟨some ⟨g, 0, none⟩, 1, rfl, fun j x hx => ?_⟩
  have hj : j = 0 := by have := (List.getElem?_eq_some_iff.1 hx).1; simp at this; omega
  subst hj
  simp at hx
  subst hx
  exact ⟨g, 0, rfl, by rw [h.cell]; rfl, by rw [h.cell]; rfl⟩

theorem k40 : kOf 0 0 40 = ⟨3, 1, 48⟩ := rfl
theorem k40_from : (kOf 0 0 40).from_ 0 = 40 := by decide
theorem k40_act : (kOf 0 0 40).act = 32 := by decide

set_option maxRecDepth 100000 in
set_option maxHeartbeats 4000000 in
theorem awake10_any (w : World) : Calls Try.prog 63 #[] w fun e w' => e = .returned (.bool true) ∧ Keep w.heap.size [] w w' := by
  have HS := Lib.hid (Sep.start w [])
  go_enter Try.func63, Try.ntmps63
  go_wp2_with fail
  refine (awake9_any _).mono ?_
  rintro e w1 ⟨rfl, hk⟩
  replace HS := Lib.hid (HS.out.grow hk)
  clear hk
  go_wp2_with fail
  replace HS := Lib.hid (HS.out.new 61 #[.int .u8 1, .int .u8 2])
  generalize w1.alloc _ = w2 at *
  generalize w1.heap.size = gh at *
  refine (filled_any 0 0 40 _ [⟨1, 2⟩] _ (by decide) (by decide) (by decide) (by decide) (by decide) (by decide) (rdH_one (HS.out.blk 0 rfl)) (by intro x hx; simp at hx; subst hx; exact ⟨by decide, by decide, by decide, by decide⟩) (by decide)).mono ?_
  have hpl : placed ((kOf 0 0 40).from_ 0) (kOf 0 0 40).S [⟨1, 2⟩] 0 = [⟨40, 2, 1⟩] := by rw [k40_from]; decide
  have hus : usedOf (kOf 0 0 40).S [⟨1, 2⟩] 0 = 3 := by decide
  have hk : (kOf 0 0 40).Ok := (kOf_ok (by decide) (by decide) (by decide)).1
  rw [hpl, hus]
  have hf0 := k40_from
  have hkS : (kOf 0 0 40).S = 48 := rfl
  generalize kOf 0 0 40 = k at *
  rintro e w3 ⟨d, t, rv, ov, rfl, hf, hb, hS⟩
  obtain ⟨RA, RC, hrv⟩ := rowR_val (hS.row 2 rfl)
  obtain ⟨RL, hRL⟩ : ∃ RL, (uw (rootsOf t k k.R)).length = RL := ⟨_, rfl⟩
  rw [hRL] at hrv
  subst hrv
  clear hRL
  obtain ⟨gv, C0, ex, rfl, hS2⟩ := (HS.out.adds hS).rowBlk (i := 2) rfl (by simp [atsOf])
  replace HS := Lib.hid hS2
  rw [show (atsOf [⟨40, 2, 1⟩]).length = 1 from rfl]
  simp only [Kfg.cells, rbC]
  have HF := Lib.hid hf
  have HB := Lib.hid hb
  have HK := Lib.hid hk
  have HF0 := Lib.hid hf0
  have HKS := Lib.hid hkS
  clear hkS hS hS2 hf hb hpl hus hk hf0
  go_upto_region 4 with fail
  replace HS := Lib.hid ((HS.out.new 30 #[.int .i64 (k.L : Int), .int .i64 (k.R : Int), .int .i64 (k.S : Int)]).new 33 #[.int .i64 0, .int .i64 3, .slice RA RL RC])
  rw [show (w3.alloc (.cells #[.int .i64 (k.L : Int), .int .i64 (k.R : Int), .int .i64 (k.S : Int)] 30)).heap.size = w3.heap.size + 1 by simp] at HS
  generalize (w3.alloc _).alloc _ = w4 at *
  generalize w3.heap.size = gk at *
  generalize gk + 1 = gb at *
  go_upto_region 6 with fail
  have hhd : t.nw 40 = hw (2 : Nat) (1 : Nat) := HF.out.heads ⟨40, 2, 1⟩ (by simp)
  have hof : ∀ w, Dev w d t → Calls Try.prog 19 #[.pointer (some ⟨d.b, 0, none⟩), .agg #[.int .i64 (k.L : Int), .int .i64 (k.R : Int), .int .i64 (k.S : Int)], .agg #[.int .i64 0, .int .i64 3, .slice RA RL RC], .int .i64 40] w (fun e w' => e = .returned (.tuple #[.agg #[.int .i64 2, .int .i64 1, .int .i64 40], .int .i64 0]) ∧ Keep w.heap.size [] w w') := fun w (hd : Dev w d t) => of_yes d t k 0 3 40 43 (hw (2 : Nat) (1 : Nat)) 2 1 (.slice RA RL RC) w hd HK.out (by decide) (by rw [HKS.out]; decide) (by rw [HF0.out]; decide) (by rw [HF0.out]) hhd (by decide) (by decide) (headOf_hw (a := 2) (b := 1) ⟨by decide, by decide, by decide, by decide⟩) (by decide)
  have HOF := Lib.hid hof
  clear hof hhd
  replace HS : Hid (Sep w [] [blkR gh 61 #[.int .u8 1, .int .u8 2], devR d t, blkR gv 3 (atsOf [⟨40, 2, 1⟩] ++ ex).toArray, rowR 38 (.slice RA RL RC) (uw (rootsOf t k k.R)), blkR gk 30 #[.int .i64 (k.L : Int), .int .i64 (k.R : Int), .int .i64 (k.S : Int)], blkR gb 33 #[.int .i64 0, .int .i64 3, .slice RA RL RC]] w4) := HS
  replace HS : Hid (Sep w [] [blkR gh 61 #[.int .u8 1, .int .u8 2], devR d t, blkR gv 3 (atsOf [⟨40, 2, 1⟩] ++ ex).toArray, rowR 38 (.slice RA RL RC) (uw (rootsOf t k k.R)), blkR gk 30 #[.int .i64 (k.L : Int), .int .i64 (k.R : Int), .int .i64 (k.S : Int)], blkR gb 33 #[.int .i64 0, .int .i64 3, .slice RA RL RC], noR] w4) := Lib.hid (HS.out.add (Keep.refl _ _ _) (r := noR) trivial (by simp [noR]))
  refine wp_region_st3 (W := w) (S := []) (by kernel_rfl) (by kernel_rfl) (by kernel_rfl) (fun D uu => [blkR gh 61 #[.int .u8 1, .int .u8 2], devR d t, blkR gv 3 (atsOf [⟨40, 2, 1⟩] ++ ex).toArray, rowR 38 (.slice RA RL RC) (uw (rootsOf t k k.R)), blkR gk 30 #[.int .i64 (k.L : Int), .int .i64 (k.R : Int), .int .i64 (k.S : Int)], blkR gb 33 #[.int .i64 0, .int .i64 3, .slice RA RL RC], bif D 10 then ptrR (uu 10) 53 (bif D 11 then #[.int .i64 2, .int .i64 1, .int .i64 40] else #[.int .i64 0, .int .i64 0, .int .i64 0]) else noR])
    (fun j v => match j with
      | 0 => v = .pointer (some ⟨d.b, 0, none⟩)
      | 1 => v = .agg #[.int .i64 (k.L : Int), .int .i64 (k.R : Int), .int .i64 (k.S : Int)]
      | 2 => v = .agg #[.int .i64 0, .int .i64 3, .slice RA RL RC]
      | 3 => v = .slice (some ⟨gv, 0, none⟩) 1 C0
      | 4 => v = .pointer (some ⟨gv, 0, none⟩)
      | 5 => v = .int .i64 40
      | 6 => v = .tuple #[.agg #[.int .i64 2, .int .i64 1, .int .i64 40], .int .i64 0]
      | 7 => v = .tuple #[.agg #[.int .i64 2, .int .i64 1, .int .i64 40], .int .i64 0]
      | 8 => v = .agg #[.int .i64 2, .int .i64 1, .int .i64 40]
      | 9 => v = .int .i64 0
      | 10 => ∃ g, v = .pointer (some ⟨g, 0, none⟩)
      | 12 => v = .int .i64 0
      | _ => True) ?start ?step ?fin
  case start => exact fun u => HS.out
  case step =>
    clear HS
    refine ⟨?_, ?_, ?_, ?_, ?_, ?_, ?_, ?_, ?_, ?_, ?_, ?_, ?_, trivial⟩
    · intro D uu w' K hD hF hl hS hK
      simp only [puts, Act.put, List.setIfInBounds_toArray, List.set_cons_succ, List.set_cons_zero, Nat.zero_add, Nat.reduceAdd]
      go_simp
      simp only [yUpon]
      exact hK _ _ rfl hS
    · intro D uu w' K hD hF hl hS hK
      simp only [puts, Act.put, List.setIfInBounds_toArray, List.set_cons_succ, List.set_cons_zero, Nat.zero_add, Nat.reduceAdd]
      have x0 := (hS.blk 4 rfl).cell 0
      have x1 := (hS.blk 4 rfl).cell 1
      have x2 := (hS.blk 4 rfl).cell 2
      simp at x0 x1 x2
      go_simp
      simp only [yUpon]
      exact hK _ _ rfl hS
    · intro D uu w' K hD hF hl hS hK
      simp only [puts, Act.put, List.setIfInBounds_toArray, List.set_cons_succ, List.set_cons_zero, Nat.zero_add, Nat.reduceAdd]
      have x0 := (hS.blk 5 rfl).cell 0
      have x1 := (hS.blk 5 rfl).cell 1
      have x2 := (hS.blk 5 rfl).cell 2
      simp at x0 x1 x2
      go_simp
      simp only [yUpon]
      exact hK _ _ rfl hS
    · intro D uu w' K hD hF hl hS hK
      simp only [puts, Act.put, List.setIfInBounds_toArray, List.set_cons_succ, List.set_cons_zero, Nat.zero_add, Nat.reduceAdd]
      go_simp
      simp only [yUpon]
      exact hK _ _ rfl hS
    · intro D uu w' K hD hF hl hS hK
      have f3 := (hF 3 (by kernel_rfl)).2
      simp only at f3
      simp only [puts, Act.put, List.setIfInBounds_toArray, List.set_cons_succ, List.set_cons_zero, Nat.zero_add, Nat.reduceAdd]
      simp only [f3]
      go_simp
      simp only [yUpon]
      exact hK _ _ rfl hS
    · intro D uu w' K hD hF hl hS hK
      have f4 := (hF 4 (by kernel_rfl)).2
      simp only at f4
      simp only [puts, Act.put, List.setIfInBounds_toArray, List.set_cons_succ, List.set_cons_zero, Nat.zero_add, Nat.reduceAdd]
      simp only [f4]
      have x0 : w'.cell? ⟨gv, 0, none⟩ = some (.int .i64 40) := by have := (hS.blk 2 rfl).cell 0; simpa [atsOf] using this
      go_simp
      simp only [yUpon]
      exact hK _ _ rfl hS
    · intro D uu w' K hD hF hl hS hK
      have f0 := (hF 0 (by kernel_rfl)).2
      simp only at f0
      have f1 := (hF 1 (by kernel_rfl)).2
      simp only at f1
      have f2 := (hF 2 (by kernel_rfl)).2
      simp only at f2
      have f5 := (hF 5 (by kernel_rfl)).2
      simp only at f5
      simp only [puts, Act.put, List.setIfInBounds_toArray, List.set_cons_succ, List.set_cons_zero, Nat.zero_add, Nat.reduceAdd]
      simp only [f0, f1, f2, f5]
      go_simp
      simp only [yUpon]
      refine (HOF.out _ (hS.dev 1 rfl)).mono ?_
      rintro e w1 ⟨rfl, hkk⟩
      exact hK _ _ rfl (hS.grow hkk)
    · intro D uu w' K hD hF hl hS hK
      have f6 := (hF 6 (by kernel_rfl)).2
      simp only at f6
      simp only [puts, Act.put, List.setIfInBounds_toArray, List.set_cons_succ, List.set_cons_zero, Nat.zero_add, Nat.reduceAdd]
      simp only [f6]
      go_simp
      simp only [yUpon]
      exact hK _ _ rfl hS
    · intro D uu w' K hD hF hl hS hK
      have f7 := (hF 7 (by kernel_rfl)).2
      simp only at f7
      simp only [puts, Act.put, List.setIfInBounds_toArray, List.set_cons_succ, List.set_cons_zero, Nat.zero_add, Nat.reduceAdd]
      simp only [f7]
      go_simp
      simp only [yUpon]
      exact hK _ _ rfl hS
    · intro D uu w' K hD hF hl hS hK
      have f7 := (hF 7 (by kernel_rfl)).2
      simp only at f7
      simp only [puts, Act.put, List.setIfInBounds_toArray, List.set_cons_succ, List.set_cons_zero, Nat.zero_add, Nat.reduceAdd]
      simp only [f7]
      go_simp
      simp only [yUpon]
      exact hK _ _ rfl hS
    · intro D uu w' K hD hF hl hS hK
      simp only [puts, Act.put, List.setIfInBounds_toArray, List.set_cons_succ, List.set_cons_zero, Nat.zero_add, Nat.reduceAdd]
      have hlate := hl 11 (by kernel_rfl)
      simp only [hD, cond_false] at hS
      have hs2 := hS.step (i := 6) (r := noR) rfl (w' := w'.alloc (.cells #[.int .i64 0, .int .i64 0, .int .i64 0] 53)) ((Keep.refl _ _ _).alloc (Nat.le_refl _) _) (r' := blkR w'.heap.size 53 #[.int .i64 0, .int .i64 0, .int .i64 0]) (Blk.new _ _ _) (by simp [blkR])
      have e1 : (fset D 10 true) 10 = true := rfl
      have e2 : (fset D 10 true) 11 = false := hlate
      go_simp
      simp only [yUpon]
      refine hK _ _ ⟨_, rfl⟩ ?_
      simp only [e1, e2, cond_true, cond_false]
      exact hs2
    · intro D uu w' K hD hF hl hS hK
      have f8 := (hF 8 (by kernel_rfl)).2
      simp only at f8
      simp only [puts, Act.put, List.setIfInBounds_toArray, List.set_cons_succ, List.set_cons_zero, Nat.zero_add, Nat.reduceAdd]
      simp only [f8]
      obtain ⟨d10, g, hg⟩ := hF 10 (by kernel_rfl)
      simp only [hD, d10, hg, ptrR, cond_false, cond_true] at hS
      have x0 := (hS.blk 6 rfl).cell 0
      have x1 := (hS.blk 6 rfl).cell 1
      have x2 := (hS.blk 6 rfl).cell 2
      simp at x0 x1 x2
      have z0 := (hS.blk 6 rfl).frozen 0
      have z1 := (hS.blk 6 rfl).frozen 1
      have z2 := (hS.blk 6 rfl).frozen 2
      have hput := (((hS.put (i := 6) rfl 0 (.int .i64 2)).put (i := 6) rfl 1 (.int .i64 1)).put (i := 6) rfl 2 (.int .i64 40))
      have e1 : (fset D 11 true) 11 = true := rfl
      have e2 : (fset D 11 true) 10 = true := d10
      simp only [hg]
      go_simp
      simp only [yUpon]
      refine hK _ _ trivial ?_
      simp only [e1, e2, cond_true]
      have e4 : ∀ v, (fset uu 11 v) 10 = .pointer (some ⟨g, 0, none⟩) := fun v => hg
      simp only [e4, ptrR]
      exact hput
    · intro D uu w' K hD hF hl hS hK
      have f9 := (hF 9 (by kernel_rfl)).2
      simp only at f9
      simp only [puts, Act.put, List.setIfInBounds_toArray, List.set_cons_succ, List.set_cons_zero, Nat.zero_add, Nat.reduceAdd]
      simp only [f9]
      go_simp
      simp only [yUpon]
      exact hK _ _ rfl hS
  case fin =>
    intro D uu w5 hall hS
    have f10 := (hall 10 (by simp)).1
    have f11 := (hall 11 (by simp)).1
    obtain ⟨go, v10⟩ := (hall 10 (by simp)).2
    have v0 := (hall 0 (by simp)).2
    have v1 := (hall 1 (by simp)).2
    have v2 := (hall 2 (by simp)).2
    have v3 := (hall 3 (by simp)).2
    have v4 := (hall 4 (by simp)).2
    have v5 := (hall 5 (by simp)).2
    have v6 := (hall 6 (by simp)).2
    have v7 := (hall 7 (by simp)).2
    have v8 := (hall 8 (by simp)).2
    have v9 := (hall 9 (by simp)).2
    have v12 := (hall 12 (by simp)).2
    simp only at v0 v1 v2 v3 v4 v5 v6 v7 v8 v9 v12
    simp only [f10, f11, v10, ptrR, cond_true] at hS
    have HS := Lib.hid hS
    clear hall hS
    simp only [puts, Act.put, List.setIfInBounds_toArray, List.set_cons_succ, List.set_cons_zero, Nat.zero_add, Nat.reduceAdd]
    simp only [v0, v1, v2, v3, v4, v5, v6, v7, v8, v9, v10, v12]
    clear v0 v1 v2 v3 v4 v5 v6 v7 v8 v9 v10 v12
    have o0 := (HS.out.blk 6 rfl).cell 0
    simp at o0
    have o1 := (HS.out.blk 6 rfl).cell 1
    simp at o1
    have o2 := (HS.out.blk 6 rfl).cell 2
    simp at o2
    go_wp2_with fail
    refine (oread_no 2 1 40 0 5 _ _ (by decide) (by decide)).mono ?_
    rintro e w6 ⟨rfl, hkk⟩
    replace HS := Lib.hid (HS.out.grow hkk)
    clear hkk o0 o1 o2
    have o0 := (HS.out.blk 6 rfl).cell 0
    simp at o0
    have o1 := (HS.out.blk 6 rfl).cell 1
    simp at o1
    have o2 := (HS.out.blk 6 rfl).cell 2
    simp at o2
    go_wp2_with fail
    refine (owrite_dev d t 2 1 40 1 9 42 _ (HS.out.dev 1 rfl) HF.out.use.lim (by rw [HF.out.use.is.now]; have := HF.out.in_ HK.out (by decide) (o := ⟨40, 2, 1⟩) (by simp); simp only at this; omega) (by decide) (by decide) (by decide) (by decide)).mono ?_
    rintro e w7 ⟨rfl, hd, hkk⟩
    replace HS := Lib.hid (HS.out.did (i := 1) rfl hd hkk)
    clear hd hkk o0 o1 o2
    have o0 := (HS.out.blk 6 rfl).cell 0
    simp at o0
    have o1 := (HS.out.blk 6 rfl).cell 1
    simp at o1
    have o2 := (HS.out.blk 6 rfl).cell 2
    simp at o2
    go_wp2_with fail
    have hnw : (t.store 42 9).nw 42 = 9 := by
      rw [St.nw_store HF.out.use.is (by have := HF.out.in_ HK.out (by decide) (o := ⟨40, 2, 1⟩) (by simp); simp only at this; omega), if_pos rfl]
    refine (oread_ok d (t.store 42 9) 2 1 40 1 9 42 _ (HS.out.dev 1 rfl) (by decide) (by decide) (by decide) (by decide) hnw).mono ?_
    rintro e w8 ⟨rfl, hkk⟩
    replace HS := Lib.hid (HS.out.grow hkk)
    clear hkk o0 o1 o2 hnw
    have o0 := (HS.out.blk 6 rfl).cell 0
    simp at o0
    have o1 := (HS.out.blk 6 rfl).cell 1
    simp at o1
    have o2 := (HS.out.blk 6 rfl).cell 2
    simp at o2
    go_wp2_with fail
    refine (names_any 2 1 40 _ _ ⟨_, rfl⟩).mono ?_
    rintro e w9 ⟨rfl, rfl⟩
    replace HS := Lib.hid (((HS.out.alloc (.cells #[.int .i64 2, .int .i64 1, .int .i64 40] 53)).alloc (.cells #[.pointer (some ⟨d.b, 0, none⟩)] 28)))
    have hcmp : ∀ b1 b2 w, (Go.binOp .neq 115 (.func (.func 67) #[] #[.pointer (some ⟨b1, 0, none⟩), .pointer (some ⟨b2, 0, none⟩)]) .nilFunc).run Try.prog w = .ok (.bool true) w := fun _ _ _ => rfl
    go_wp2
    go_ret
    exact ⟨rfl, HS.out.keep⟩
end Go.Proofs.Ytbdomdmnjclpdaa
