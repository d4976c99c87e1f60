/-
  The walk of tumuluslaw05.SuperFormats.
-/
import Derived.Test.YthejggahengfnaaAwk5
set_option linter.unusedSimpArgs false
set_option linter.unusedVariables false
namespace Go.Proofs.Ythejggahengfnaa
open Go.RowKit Go.Shelf

theorem formats_bits (k : Nat) (b : Int) (g : Nat) (w : World) (b0 : 0 ≤ b) (b1 : b ≤ 18446744073709551615) (hk : k ≤ 1099511627776) (hc : w.cell? ⟨g, 0, none⟩ = some (.int .u64 b)) :
    Calls Try.prog 24 #[.int .i64 k, .pointer (some ⟨g, 0, none⟩)] w fun e w' => e = .returned (.int .u8 (choiceOf b k)) ∧ w = w' := by
  have hch := choice_any b k w b0 b1 hk
  go_enter Try.func24, Try.ntmps24
  go_wp2_with fail
  refine (choice_any b k w b0 b1 hk).mono ?_
  rintro e w' ⟨rfl, rfl⟩
  go_wp2
  go_ret
  exact ⟨rfl, rfl⟩

set_option maxRecDepth 100000 in
set_option maxHeartbeats 2000000 in
theorem SuperFormats.core (l r s : Int) (v1 : Value) (old : List Int) (bt : Int) (w : World) (l0 : 0 ≤ l) (l1 : l ≤ 65535) (r0 : 0 ≤ r) (r1 : r ≤ 65535) (s0 : 0 ≤ s) (s1 : s ≤ 65535) (hv : Rd w v1 (uw old)) (hm : old.length ≤ maxLen) (t0 : 0 ≤ bt) (t1 : bt ≤ 18446744073709551615) :
    Calls Try.prog 8 #[.agg #[.int .u16 l, .int .u16 r, .int .u16 s], v1, .int .u64 bt] w fun e w' => e = .returned (.bool true) ∧ Keep w.heap.size [] w w' := by
  have hmf : ∀ (fn : Fn) (first cap : Array Value) (w : World), (Instr.makeFunc fn first cap).run Try.prog w = .ok (.func fn first cap) w := fun _ _ _ _ => rfl
  simp only [maxLen] at hm
  obtain ⟨A, c, rfl, hrd⟩ := hv.cellAt
  have hs0 := ((Sep.start w []).new 40 #[.int .u16 l, .int .u16 r, .int .u16 s]).new 27 #[.int .u64 bt]
  simp only [World.size_alloc] at hs0
  have HS := Lib.hid hs0
  have HV := Lib.hid hv
  clear hv hrd hs0
  by_cases hb1 : 30 < old.length
  · have hbI : (30 : Int) < old.length := by omega
    go_enter Try.func8, Try.ntmps8
    go_wp2_with fail
    generalize (w.alloc _).alloc _ = w2 at *
    refine (awake5_any _).mono ?_
    rintro e w1 ⟨rfl, hk⟩
    replace HS := Lib.hid (HS.out.grow hk)
    clear hk
    go_wp2
    go_ret
    exact ⟨rfl, HS.out.keep⟩
  have hx2 : ((30 : Int) < old.length) = False := by rw [eq_iff_iff, iff_false]; omega
  have hx3 : (30 < old.length) = False := by rw [eq_iff_iff, iff_false]; omega
  go_enter Try.func8, Try.ntmps8
  go_wp2_with fail
  generalize (w.alloc _).alloc _ = w2 at *
  generalize hgx : w.heap.size = gx at *
  have HGX := Lib.hid hgx
  clear hgx
  refine (awake5_any _).mono ?_
  rintro e w1 ⟨rfl, hk⟩
  replace HS := Lib.hid (HS.out.grow hk)
  clear hk
  have c0 := (HS.out.blk 0 rfl).cell 0
  simp at c0
  have c1 := (HS.out.blk 0 rfl).cell 1
  simp at c1
  have c2 := (HS.out.blk 0 rfl).cell 2
  simp at c2
  go_wp2_with fail
  refine (kmake l r s _ l0 l1 r0 r1 s0 s1).mono ?_
  rintro e w3 ⟨k, hk, hL, hR, hS, rfl, hkk⟩
  simp only [Kfg.cells]
  replace HS := Lib.hid ((HS.out.grow hkk).new 43 #[.int .i64 (k.L : Int), .int .i64 (k.R : Int), .int .i64 (k.S : Int)])
  have HK := Lib.hid hk
  clear hkk hk c0 c1 c2
  go_wp2_with fail
  generalize w3.alloc _ = w4 at *
  generalize w3.heap.size = gk at *
  refine (formatted_any k _ old _ HK.out ((HV.out.keep HS.out.keep)) (by omega)).mono ?_
  rintro e w5 ⟨d, rfl, hdb, hd, hkk⟩
  obtain ⟨s5, hs5⟩ : ∃ s5, s5 = (St.fresh (-1) 0 (fill old k.words)).run (fmtOps k) := ⟨_, rfl⟩
  rw [← hs5] at hd
  have hI : s5.Is k.words := by rw [hs5]; exact (fresh_fill old k).run _
  have hA : AllS s5 k := by rw [hs5]; exact all_of HK.out (fresh_fill old k)
  have hl5 : s5.l < 0 := by rw [hs5, St.run_l]; show (-1 : Int) < 0; decide
  replace HS := Lib.hid (HS.out.add hkk (r := devR d s5) hd hdb)
  have HI := Lib.hid hI
  have HA := Lib.hid hA
  have HW := Lib.hid hA.whole
  have HL := Lib.hid hl5
  have HE := Lib.hid hs5
  clear hdb hd hkk hs5 hI hA hl5
  have c0 := (HS.out.blk 2 rfl).cell 0
  simp at c0
  have c1 := (HS.out.blk 2 rfl).cell 1
  simp at c1
  have c2 := (HS.out.blk 2 rfl).cell 2
  simp at c2
  go_wp2_with fail
  refine (whole_any d _ k _ (HS.out.dev 3 rfl) HK.out HW.out).mono ?_
  rintro e w1 ⟨rfl, hk⟩
  replace HS := Lib.hid (HS.out.grow hk)
  clear hk
  clear c0 c1 c2
  go_wp2_with fail
  refine (crash_bits d _ _ _ bt _ (HS.out.dev 3 rfl) (enters_of Try.func24 (by kernel_rfl) rfl) (HS.out.blk 1 rfl) (HS.out.gd 1 3 rfl rfl (by decide)) (fun k w h => formats_bits k bt _ w t0 t1 h)).mono ?_
  rintro e w1 ⟨rfl, hd, hk⟩
  replace HS := Lib.hid (HS.out.did (i := 3) rfl hd hk)
  clear hd hk
  have ha2 := AllS.crash HK.out HI.out HA.out (choiceOf bt)
  have HW2 := Lib.hid ha2.whole
  have HI2 := Lib.hid (HI.out.crash (choiceOf bt))
  clear ha2
  go_wp2_with fail
  refine (read_any d _ k.L k.R k.S 0 _ (HS.out.dev 3 rfl) (by rw [HW2.out.w1]; omega) (by rw [HW2.out.w2]; omega) (by rw [HW2.out.w3]; omega) (AllS.reads HK.out HW2.out HI2.out)).mono ?_
  rintro e w1 ⟨rfl, hk⟩
  replace HS := Lib.hid (HS.out.grow hk)
  clear hk
  replace HS := Lib.hid (HS.out.new 43 #[.int .i64 (k.L : Int), .int .i64 (k.R : Int), .int .i64 (k.S : Int)])
  have c0 := (HS.out.blk 2 rfl).cell 0
  simp at c0
  have c1 := (HS.out.blk 2 rfl).cell 1
  simp at c1
  have c2 := (HS.out.blk 2 rfl).cell 2
  simp at c2
  go_wp2_with fail
  refine (whole_any d _ k _ (HS.out.dev 3 rfl) HK.out HW2.out).mono ?_
  rintro e w1 ⟨rfl, hk⟩
  replace HS := Lib.hid (HS.out.grow hk)
  clear hk
  clear c0 c1 c2
  have c0 := (HS.out.blk 2 rfl).cell 0
  simp at c0
  have c1 := (HS.out.blk 2 rfl).cell 1
  simp at c1
  have c2 := (HS.out.blk 2 rfl).cell 2
  simp at c2
  have y0 := (HS.out.blk 4 rfl).cell 0
  simp at y0
  have y1 := (HS.out.blk 4 rfl).cell 1
  simp at y1
  have y2 := (HS.out.blk 4 rfl).cell 2
  simp at y2
  go_wp2
  go_ret
  exact ⟨rfl, HS.out.keep⟩

theorem SuperFormats.walk {w : World} (l r s : Int) (h : (lowest .u16 ≤ l ∧ l ≤ greatest .u16) ∧ (lowest .u16 ≤ r ∧ r ≤ greatest .u16) ∧ (lowest .u16 ≤ s ∧ s ≤ greatest .u16)) {v1 : Value} (old : List Int) (hv : Rd w v1 (uw old)) (_ : ∀ x ∈ old, lowest .u64 ≤ x ∧ x ≤ greatest .u64) (hm : old.length ≤ maxLen) (bt : Int) (t0 : lowest .u64 ≤ bt) (t1 : bt ≤ greatest .u64) :
    Calls Try.prog 8 #[.agg #[.int .u16 l, .int .u16 r, .int .u16 s], v1, .int .u64 bt] w fun e w' => e = .returned (.bool true) ∧ Below w.heap.size w w' := by
  obtain ⟨⟨l0, l1⟩, ⟨r0, r1⟩, s0, s1⟩ := h
  simp [lowest, greatest] at l0 l1 r0 r1 s0 s1 t0 t1
  exact (SuperFormats.core l r s v1 old bt w l0 l1 r0 r1 s0 s1 hv hm t0 t1).mono fun e w' ⟨he, hk⟩ => ⟨he, hk.below⟩
end Go.Proofs.Ythejggahengfnaa
