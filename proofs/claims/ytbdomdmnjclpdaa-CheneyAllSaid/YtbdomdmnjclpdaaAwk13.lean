/-
  tumuluslaw13.Awake.
-/
import Derived.Test.YtbdomdmnjclpdaaCheck
import Derived.Test.YtbdomdmnjclpdaaReachP
import Derived.Test.YtbdomdmnjclpdaaRchF
set_option linter.unusedSimpArgs false
set_option linter.unusedVariables false
set_option maxRecDepth 100000
namespace Go.Proofs.Ytbdomdmnjclpdaa
open Go.RowKit Go.Shelf

theorem rdH_two {w : World} {g : Nat} {r1 d1 r2 d2 : Int} (h : Blk w g 61 #[.int .u8 r1, .int .u8 d1, .int .u8 r2, .int .u8 d2]) : RdH w (.slice (some ⟨g, 0, none⟩) 2 2) [⟨r1, d1⟩, ⟨r2, d2⟩] := by
  refine ⟨some ⟨g, 0, none⟩, 2, rfl, fun j x hx => ?_⟩
  have hj : j = 0 ∨ j = 1 := by have := (List.getElem?_eq_some_iff.1 hx).1; simp at this; omega
  rcases hj with rfl | rfl
  · simp at hx
    subst hx
    exact ⟨g, 0, rfl, by rw [h.cell]; rfl, by rw [h.cell]; rfl⟩
  · simp at hx
    subst hx
    exact ⟨g, 0, rfl, by rw [h.cell]; rfl, by rw [h.cell]; rfl⟩
theorem reach_nil (G : Int → Bool) (nm : Int → List Int) : ∀ n, foF G nm [] n = []
  | 0 => rfl
  | n + 1 => by simp only [foF]; rw [reach_nil G nm n]; rfl
theorem reach_one {G : Int → Bool} {nm : Int → List Int} {x : Int} (hg : G x = true) (hn : nm x = []) (n : Nat) : foF G nm [x] (1 + n) = [x] := by
  have h0 : foF G nm [x] 0 = [x] := by
    show seeF G [] x = [x]
    rw [seeF_new (by simp) hg]; rfl
  have h1 : foF G nm [x] 1 = [x] := by
    have h2 : seeF G [] x = [x] := h0
    simp [foF, h2, hn]
  rw [foF_stop (by rw [h1]; simp), h1]
/-- A slice's own block. -/
def sliceR (v : Value) (t : TypeId) (cs : Array Value) : Res := match v with | .slice (some ⟨g, 0, none⟩) _ _ => blkR g t cs | _ => noR

set_option maxRecDepth 100000 in
set_option maxHeartbeats 4000000 in
theorem awake13_any (w : World) : Calls Try.prog 23 #[] w fun e w' => e = .returned (.bool true) ∧ Keep w.heap.size [] w w' := by
  have HS := Lib.hid (Sep.start w [])
  go_enter Try.func23, Try.ntmps23
  go_wp2_with fail
  refine (awake12_any _).mono ?_
  rintro e w1 ⟨rfl, hk⟩
  replace HS := Lib.hid (HS.out.grow hk)
  clear hk
  go_wp2_with fail
  replace HS := Lib.hid (HS.out.new 61 #[.int .u8 0, .int .u8 1, .int .u8 0, .int .u8 2])
  generalize w1.alloc _ = w2 at *
  generalize w1.heap.size = gh at *
  refine (linked_any 0 0 40 0 _ _ [⟨0, 1⟩, ⟨0, 2⟩] [] _ (by decide) (by decide) (by decide) (by decide) (by decide) (by decide) (rdH_two (HS.out.blk 0 rfl)) (by intro x hx; simp at hx; rcases hx with rfl | rfl <;> exact ⟨by decide, by decide, by decide, by decide⟩) (by decide) ⟨none, 0, rfl, fun h => absurd h (by simp)⟩ (by simp) (by decide) (by decide) (by decide)).mono ?_
  have hpl : placed ((kOf 0 0 40).from_ 0) (kOf 0 0 40).S [⟨0, 1⟩, ⟨0, 2⟩] 0 = [⟨40, 1, 0⟩, ⟨42, 2, 0⟩] := by rw [k40_from]; decide
  have hus : usedOf (kOf 0 0 40).S [⟨0, 1⟩, ⟨0, 2⟩] 0 = 5 := by decide
  have hk : (kOf 0 0 40).Ok := (kOf_ok (by decide) (by decide) (by decide)).1
  rw [hpl, hus]
  have hkS : (kOf 0 0 40).S = 48 := rfl
  generalize kOf 0 0 40 = k at *
  rintro e w3 ⟨d, t, rv, ov, rfl, hl, hS⟩
  obtain ⟨RA, RC, hrv⟩ := rowR_val (hS.row 2 rfl)
  obtain ⟨RL, hRL⟩ : ∃ RL, (uw (rootsOf t k k.R)).length = RL := ⟨_, rfl⟩
  obtain ⟨rs, hrs⟩ : ∃ rs, rootsOf t k k.R = rs := ⟨_, rfl⟩
  rw [hrs] at hrv hRL hS
  rw [hRL] at hrv
  subst hrv
  clear hRL hrs
  obtain ⟨gv, C0, ex, rfl, hS2⟩ := (HS.out.adds hS).rowBlk (i := 2) rfl (by simp [atsOf])
  replace HS := Lib.hid hS2
  rw [show (atsOf [⟨40, 1, 0⟩, ⟨42, 2, 0⟩]).length = 2 from rfl]
  simp only [Kfg.cells, rbC]
  have hs0 := fun w hd => size_any d t k 0 5 RA RL RC (.slice none 0 0) [] w hd hk (by decide) (by rw [hkS]; decide) hl.rng (by simp) (by decide) ⟨none, 0, rfl, fun h => absurd h (by simp [uw])⟩ (hl.small hk)
  have hs1 := fun wv w hd hr => size_any d t k 0 5 RA RL RC wv [42] w hd hk (by decide) (by rw [hkS]; decide) hl.rng (by simp) (by decide) hr (hl.small hk)
  have hz0 : sizeF t (reachF (isOb t k 0 5) (nmsOf t) [] 5) = 0 := by unfold reachF; rw [reach_nil]; rfl
  have hhd := hl.head (o := ⟨42, 2, 0⟩) (by simp)
  simp only at hhd
  have hz1 : sizeF t (reachF (isOb t k 0 5) (nmsOf t) [42] 5) = 3 := by
    have hr1 : foF (isOb t k 0 5) (nmsOf t) [42] (1 + 4) = [42] := reach_one (G := isOb t k 0 5) (nm := nmsOf t) (x := 42) (hl.isOb_at (o := ⟨42, 2, 0⟩) (by simp)) (by
      unfold nmsOf refsOf
      show (namesTo t 42 (headOf (t.nw 42)).2.1.toNat).map _ = []
      rw [hhd]; rfl) 4
    unfold reachF
    rw [show (5 : Nat) = 1 + 4 from rfl]
    rw [hr1]
    unfold sizeF wordsOf
    show ([(headOf (t.nw 42)).1.toNat + 1]).sum = 3
    rw [hhd]; rfl
  rw [hz0] at hs0
  rw [hz1] at hs1
  simp only [Kfg.cells, rbC] at hs0 hs1
  have HS0 := Lib.hid hs0
  have HS1 := Lib.hid hs1
  have HK := Lib.hid hk
  clear hkS hS hS2 hl hpl hus hk hs0 hs1 hz0 hz1 hhd
  go_upto_region 4 with fail
  replace HS := Lib.hid ((HS.out.new 30 #[.int .i64 (k.L : Int), .int .i64 (k.R : Int), .int .i64 (k.S : Int)]).new 33 #[.int .i64 0, .int .i64 5, .slice RA RL RC])
  simp only [World.size_alloc] at HS
  generalize (w3.alloc _).alloc _ = w4 at *
  generalize w3.heap.size = gk at *
  generalize gk + 1 = gb at *
  have c0 := (HS.out.blk 4 rfl).cell 0
  simp at c0
  have c1 := (HS.out.blk 4 rfl).cell 1
  simp at c1
  have c2 := (HS.out.blk 4 rfl).cell 2
  simp at c2
  have b0 := (HS.out.blk 5 rfl).cell 0
  simp at b0
  have b1 := (HS.out.blk 5 rfl).cell 1
  simp at b1
  have b2 := (HS.out.blk 5 rfl).cell 2
  simp at b2
  go_wp2_with fail
  refine (rfrom_any _ _ _ _ _ _ _ _ _ ⟨_, rfl⟩ ⟨_, _, _, rfl, rfl, rfl⟩ ⟨_, _, _, _, _, rfl, rfl, rfl⟩ ⟨_, _, _, rfl⟩).mono ?_
  rintro e1 w5 ⟨rfl, rfl⟩
  replace HS := Lib.hid ((((HS.out.alloc (.cells #[.pointer (some ⟨d.b, 0, none⟩)] 28)).alloc (.cells #[.int .i64 (k.L : Int), .int .i64 (k.R : Int), .int .i64 (k.S : Int)] 30)).alloc (.cells #[.int .i64 0, .int .i64 5, .slice RA RL RC] 33)).alloc (.cells #[.slice none 0 0] 31))
  have hcmp : ∀ b1 b2 b3 b4 w, (Go.binOp .eql 88 (.func (.func 57) #[] #[.pointer (some ⟨b1, 0, none⟩), .pointer (some ⟨b2, 0, none⟩), .pointer (some ⟨b3, 0, none⟩), .pointer (some ⟨b4, 0, none⟩)]) .nilFunc).run Try.prog w = .ok (.bool false) w := fun _ _ _ _ _ => rfl
  generalize (((w4.alloc _).alloc _).alloc _).alloc _ = w5 at *
  generalize w4.heap.size = gq at *
  clear c0 c1 c2 b0 b1 b2
  go_upto_region 6 with fail
  clear hcmp
  replace HS := Lib.hid (HS.out.add (Keep.refl _ _ _) (r := noR) trivial (by simp [noR]))
  refine wp_region_st3 (W := w) (S := []) (by kernel_rfl) (by kernel_rfl) (by kernel_rfl) (fun D uu => [blkR gh 61 #[.int .u8 0, .int .u8 1, .int .u8 0, .int .u8 2], devR d t, blkR gv 3 (atsOf [⟨40, 1, 0⟩, ⟨42, 2, 0⟩] ++ ex).toArray, rowR 38 (.slice RA RL RC) (uw rs), blkR gk 30 #[.int .i64 (k.L : Int), .int .i64 (k.R : Int), .int .i64 (k.S : Int)], blkR gb 33 #[.int .i64 0, .int .i64 5, .slice RA RL RC], (bif D 13 then sliceR (uu 13) 38 #[.int .u64 42] else noR)])
    (fun j v => match j with
      | 0 => v = .pointer (some ⟨d.b, 0, none⟩)
      | 1 => v = .agg #[.int .i64 (k.L : Int), .int .i64 (k.R : Int), .int .i64 (k.S : Int)]
      | 2 => v = .agg #[.int .i64 0, .int .i64 5, .slice RA RL RC]
      | 3 => v = .int .i64 0
      | 4 => v = .bool true
      | 5 => v = .bool true
      | 6 => v = .pointer (some ⟨d.b, 0, none⟩)
      | 7 => v = .agg #[.int .i64 (k.L : Int), .int .i64 (k.R : Int), .int .i64 (k.S : Int)]
      | 8 => v = .agg #[.int .i64 0, .int .i64 5, .slice RA RL RC]
      | 9 => v = .slice (some ⟨gv, 0, none⟩) 2 C0
      | 10 => v = .pointer (some ⟨gv, 1, none⟩)
      | 11 => v = .int .i64 42
      | 12 => v = .int .u64 42
      | 13 => ∃ h, v = .slice (some ⟨h, 0, none⟩) 1 1
      | 14 => v = .int .i64 3
      | 15 => v = .bool true
      | 16 => v = .bool true
      | 17 => v = .bool true
      | _ => True) ?start ?step ?fin
  case start => exact fun u => HS.out
  case step =>
    clear HS
    refine ⟨?_, ?_, ?_, ?_, ?_, ?_, ?_, ?_, ?_, ?_, ?_, ?_, ?_, ?_, ?_, ?_, ?_, ?_, trivial⟩
    · intro D uu w' K hD hF hl hS hK
      simp only [puts, Act.put, List.setIfInBounds_toArray, List.set_cons_succ, List.set_cons_zero, Nat.zero_add, Nat.reduceAdd]
      go_simp
      simp only [yUpon]
      exact hK _ _ rfl hS
    · intro D uu w' K hD hF hl hS hK
      simp only [puts, Act.put, List.setIfInBounds_toArray, List.set_cons_succ, List.set_cons_zero, Nat.zero_add, Nat.reduceAdd]
      have x0 := (hS.blk 4 rfl).cell 0
      have x1 := (hS.blk 4 rfl).cell 1
      have x2 := (hS.blk 4 rfl).cell 2
      simp at x0 x1 x2
      go_simp
      simp only [yUpon]
      exact hK _ _ rfl hS
    · intro D uu w' K hD hF hl hS hK
      simp only [puts, Act.put, List.setIfInBounds_toArray, List.set_cons_succ, List.set_cons_zero, Nat.zero_add, Nat.reduceAdd]
      have x0 := (hS.blk 5 rfl).cell 0
      have x1 := (hS.blk 5 rfl).cell 1
      have x2 := (hS.blk 5 rfl).cell 2
      simp at x0 x1 x2
      go_simp
      simp only [yUpon]
      exact hK _ _ rfl hS
    · intro D uu w' K hD hF hl hS hK
      have f0 := (hF 0 (by kernel_rfl)).2
      simp only at f0
      have f1 := (hF 1 (by kernel_rfl)).2
      simp only at f1
      have f2 := (hF 2 (by kernel_rfl)).2
      simp only at f2
      simp only [puts, Act.put, List.setIfInBounds_toArray, List.set_cons_succ, List.set_cons_zero, Nat.zero_add, Nat.reduceAdd]
      simp only [f0, f1, f2]
      go_simp
      simp only [yUpon]
      refine (HS0.out _ (hS.dev 1 rfl)).mono ?_
      rintro e w1 ⟨rfl, hkk⟩
      exact hK _ _ rfl (hS.grow hkk)
    · intro D uu w' K hD hF hl hS hK
      have f3 := (hF 3 (by kernel_rfl)).2
      simp only at f3
      simp only [puts, Act.put, List.setIfInBounds_toArray, List.set_cons_succ, List.set_cons_zero, Nat.zero_add, Nat.reduceAdd]
      simp only [f3]
      go_simp
      simp only [yUpon]
      exact hK _ _ rfl hS
    · intro D uu w' K hD hF hl hS hK
      have f4 := (hF 4 (by kernel_rfl)).2
      simp only at f4
      simp only [puts, Act.put, List.setIfInBounds_toArray, List.set_cons_succ, List.set_cons_zero, Nat.zero_add, Nat.reduceAdd]
      simp only [f4]
      go_simp
      simp only [yUpon]
      exact hK _ _ rfl hS
    · intro D uu w' K hD hF hl hS hK
      have f5 := (hF 5 (by kernel_rfl)).2
      simp only at f5
      simp only [puts, Act.put, List.setIfInBounds_toArray, List.set_cons_succ, List.set_cons_zero, Nat.zero_add, Nat.reduceAdd]
      simp only [f5]
      go_simp
      simp only [yUpon]
      exact hK _ _ rfl hS
    · intro D uu w' K hD hF hl hS hK
      have f5 := (hF 5 (by kernel_rfl)).2
      simp only at f5
      simp only [puts, Act.put, List.setIfInBounds_toArray, List.set_cons_succ, List.set_cons_zero, Nat.zero_add, Nat.reduceAdd]
      simp only [f5]
      have x0 := (hS.blk 4 rfl).cell 0
      have x1 := (hS.blk 4 rfl).cell 1
      have x2 := (hS.blk 4 rfl).cell 2
      simp at x0 x1 x2
      go_simp
      simp only [yUpon]
      exact hK _ _ rfl hS
    · intro D uu w' K hD hF hl hS hK
      have f5 := (hF 5 (by kernel_rfl)).2
      simp only at f5
      simp only [puts, Act.put, List.setIfInBounds_toArray, List.set_cons_succ, List.set_cons_zero, Nat.zero_add, Nat.reduceAdd]
      simp only [f5]
      have x0 := (hS.blk 5 rfl).cell 0
      have x1 := (hS.blk 5 rfl).cell 1
      have x2 := (hS.blk 5 rfl).cell 2
      simp at x0 x1 x2
      go_simp
      simp only [yUpon]
      exact hK _ _ rfl hS
    · intro D uu w' K hD hF hl hS hK
      have f5 := (hF 5 (by kernel_rfl)).2
      simp only at f5
      simp only [puts, Act.put, List.setIfInBounds_toArray, List.set_cons_succ, List.set_cons_zero, Nat.zero_add, Nat.reduceAdd]
      simp only [f5]
      go_simp
      simp only [yUpon]
      exact hK _ _ rfl hS
    · intro D uu w' K hD hF hl hS hK
      have f5 := (hF 5 (by kernel_rfl)).2
      simp only at f5
      have f9 := (hF 9 (by kernel_rfl)).2
      simp only at f9
      simp only [puts, Act.put, List.setIfInBounds_toArray, List.set_cons_succ, List.set_cons_zero, Nat.zero_add, Nat.reduceAdd]
      simp only [f5, f9]
      go_simp
      simp only [yUpon]
      exact hK _ _ rfl hS
    · intro D uu w' K hD hF hl hS hK
      have f5 := (hF 5 (by kernel_rfl)).2
      simp only at f5
      have f10 := (hF 10 (by kernel_rfl)).2
      simp only at f10
      simp only [puts, Act.put, List.setIfInBounds_toArray, List.set_cons_succ, List.set_cons_zero, Nat.zero_add, Nat.reduceAdd]
      simp only [f5, f10]
      have x0 := (hS.blk 2 rfl).cell 1
      simp [atsOf] at x0
      go_simp
      simp only [yUpon]
      exact hK _ _ rfl hS
    · intro D uu w' K hD hF hl hS hK
      have f5 := (hF 5 (by kernel_rfl)).2
      simp only at f5
      have f11 := (hF 11 (by kernel_rfl)).2
      simp only at f11
      simp only [puts, Act.put, List.setIfInBounds_toArray, List.set_cons_succ, List.set_cons_zero, Nat.zero_add, Nat.reduceAdd]
      simp only [f5, f11]
      go_simp
      simp only [yUpon]
      exact hK _ _ rfl hS
    · intro D uu w' K hD hF hl hS hK
      have f5 := (hF 5 (by kernel_rfl)).2
      simp only at f5
      have f12 := (hF 12 (by kernel_rfl)).2
      simp only at f12
      simp only [puts, Act.put, List.setIfInBounds_toArray, List.set_cons_succ, List.set_cons_zero, Nat.zero_add, Nat.reduceAdd]
      simp only [f5, f12]
      simp only [hD, cond_false] at hS
      have hs2 := hS.step (i := 6) (r := noR) rfl (w' := w'.alloc (.cells #[.int .u64 42] 38)) ((Keep.refl _ _ _).alloc (Nat.le_refl _) _) (r' := blkR w'.heap.size 38 #[.int .u64 42]) (Blk.new _ _ _) (by simp [blkR])
      have e1 : (fset D 13 true) 13 = true := rfl
      go_simp
      simp only [yUpon]
      refine hK _ _ ⟨_, rfl⟩ ?_
      simp only [e1, cond_true]
      exact hs2
    · intro D uu w' K hD hF hl hS hK
      have f5 := (hF 5 (by kernel_rfl)).2
      simp only at f5
      have f6 := (hF 6 (by kernel_rfl)).2
      simp only at f6
      have f7 := (hF 7 (by kernel_rfl)).2
      simp only at f7
      have f8 := (hF 8 (by kernel_rfl)).2
      simp only at f8
      simp only [puts, Act.put, List.setIfInBounds_toArray, List.set_cons_succ, List.set_cons_zero, Nat.zero_add, Nat.reduceAdd]
      simp only [f5, f6, f7, f8]
      obtain ⟨d13, g, hg⟩ := hF 13 (by kernel_rfl)
      have hS1 := hS
      simp only [d13, hg, sliceR, cond_true] at hS1
      have hrd : Rd w' (.slice (some ⟨g, 0, none⟩) 1 1) (uw [42]) := by
        have := Rd.of_uw (n := 1) (xs := [42]) (ex := []) (by simpa [uw] using hS1.blk 6 rfl)
        simpa using this
      simp only [hg]
      go_simp
      simp only [yUpon]
      refine (HS1.out _ _ (hS.dev 1 rfl) hrd).mono ?_
      rintro e w1 ⟨rfl, hkk⟩
      exact hK _ _ rfl (hS.grow hkk)
    · intro D uu w' K hD hF hl hS hK
      have f5 := (hF 5 (by kernel_rfl)).2
      simp only at f5
      have f14 := (hF 14 (by kernel_rfl)).2
      simp only at f14
      simp only [puts, Act.put, List.setIfInBounds_toArray, List.set_cons_succ, List.set_cons_zero, Nat.zero_add, Nat.reduceAdd]
      simp only [f5, f14]
      go_simp
      simp only [yUpon]
      exact hK _ _ rfl hS
    · intro D uu w' K hD hF hl hS hK
      have f5 := (hF 5 (by kernel_rfl)).2
      simp only at f5
      have f15 := (hF 15 (by kernel_rfl)).2
      simp only at f15
      simp only [puts, Act.put, List.setIfInBounds_toArray, List.set_cons_succ, List.set_cons_zero, Nat.zero_add, Nat.reduceAdd]
      simp only [f5, f15]
      go_simp
      simp only [yUpon]
      exact hK _ _ rfl hS
    · intro D uu w' K hD hF hl hS hK
      have f16 := (hF 16 (by kernel_rfl)).2
      simp only at f16
      simp only [puts, Act.put, List.setIfInBounds_toArray, List.set_cons_succ, List.set_cons_zero, Nat.zero_add, Nat.reduceAdd]
      simp only [f16]
      go_simp
      simp only [yUpon]
      exact hK _ _ rfl hS
  case fin =>
    intro D uu w6 hall hS
    have v17 := (hall 17 (by simp)).2
    simp only at v17
    have HS := Lib.hid (hS.take 6)
    clear hall hS
    simp only [puts, Act.put, List.setIfInBounds_toArray, List.set_cons_succ, List.set_cons_zero, Nat.zero_add, Nat.reduceAdd]
    simp only [v17]
    go_wp2
    go_ret
    exact ⟨rfl, HS.out.keep⟩
end Go.Proofs.Ytbdomdmnjclpdaa
