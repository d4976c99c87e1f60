/-
  tumuluslaw09.Awake.
-/
import Derived.Test.YtbdomdmnjclpdaaSpaceD
set_option linter.unusedSimpArgs false
set_option linter.unusedVariables false
set_option maxRecDepth 100000
namespace Go.Proofs.Ytbdomdmnjclpdaa
open Go.RowKit Go.Shelf

set_option maxHeartbeats 4000000 in
theorem awake9_any (w : World) : Calls Try.prog 70 #[] w fun e w' => e = .returned (.bool true) ∧ Keep w.heap.size [] w w' := by
  have HS := Lib.hid (Sep.start w [])
  obtain ⟨k, hkd⟩ : ∃ k, k = Kfg.mk 3 1 8 := ⟨_, rfl⟩
  have hk : k.Ok := by rw [hkd]; exact k318_ok
  have HK := Lib.hid hk
  have hcf : Value.agg #[.int .i64 3, .int .i64 1, .int .i64 8] = .agg k.cells := by rw [hkd]; rfl
  have hw56 : k.words = 56 := by rw [hkd]; rfl
  have hact : k.act = 32 := by rw [hkd]; rfl
  have hkL : k.L = 3 := by rw [hkd]
  have hkR : k.R = 1 := by rw [hkd]
  have HCF := Lib.hid hcf
  have HW56 := Lib.hid hw56
  have HACT := Lib.hid hact
  have HKL := Lib.hid hkL
  have HKR := Lib.hid hkR
  clear hcf hw56 hkL hkd hk hact hkR
  go_enter Try.func70, Try.ntmps70
  go_wp2_with fail
  refine (awake8_any _).mono ?_
  rintro e w1 ⟨rfl, hk⟩
  replace HS := Lib.hid (HS.out.grow hk)
  clear hk
  go_wp2_with fail
  replace HS := Lib.hid (HS.out.new 30 #[.int .i64 3, .int .i64 1, .int .i64 8])
  generalize w1.alloc _ = w4 at *
  generalize w1.heap.size = gk at *
  have c0 := (HS.out.blk 0 rfl).cell 0
  simp at c0
  have c1 := (HS.out.blk 0 rfl).cell 1
  simp at c1
  have c2 := (HS.out.blk 0 rfl).cell 2
  simp at c2
  go_wp2_with fail
  rw [HCF.out]
  refine (formatted_any k _ [] _ HK.out (rd_nil6 _ 0) (by decide)).mono ?_
  rintro e w5 ⟨d, rfl, hdb, hd, hkk⟩
  obtain ⟨s5, hs5⟩ : ∃ s5, s5 = (St.fresh (-1) 0 (fill [] k.words)).run (fmtOps k) := ⟨_, rfl⟩
  rw [← hs5] at hd
  have hI : s5.Is k.words := by rw [hs5]; exact (fresh_fill [] k).run _
  have hA : AllS s5 k := by rw [hs5]; exact all_of HK.out (fresh_fill [] k)
  have hz0 : s5.nw k.act = ((0 : Nat) : Int) := (hA.zer 0 (by omega)).1
  have hz1 : s5.nw (k.act + 1) = ((0 : Nat) : Int) := (hA.zer 1 (by omega)).1
  have hf0 : k.from_ 0 = 40 := by
    have h1 := k.from_le
    have h2 := k.from_mod 0
    rw [HACT.out, HKR.out] at h1
    omega
  have hS8 : k.S = 8 := by rw [← Int.natCast_inj]; have := HCF.out; simp [Kfg.cells] at this; omega
  have hl5 : s5.l < 0 := by rw [hs5, St.run_l]; show (-1 : Int) < 0; decide
  replace HS := Lib.hid (HS.out.add hkk (r := devR d s5) hd hdb)
  have HI := Lib.hid hI
  have HZ0 := Lib.hid hz0
  have HZ1 := Lib.hid hz1
  have HF0 := Lib.hid hf0
  have HS8 := Lib.hid hS8
  have HL := Lib.hid hl5
  clear hdb hd hkk hs5 hI hA hz0 hz1 hf0 hS8 hl5 c0 c1 c2
  have c0 := (HS.out.blk 0 rfl).cell 0
  simp at c0
  have c1 := (HS.out.blk 0 rfl).cell 1
  simp at c1
  have c2 := (HS.out.blk 0 rfl).cell 2
  simp at c2
  go_wp2_with fail
  rw [HCF.out]
  refine (alloc_dev d s5 k 2 0 0 40 0 _ HK.out HI.out HL.out (by decide) HZ0.out HZ1.out (by decide) (by rw [HS8.out]; decide) (by rw [HF0.out]) (HS.out.dev 1 rfl)).mono ?_
  rintro e w6 ⟨rfl, hS⟩
  replace HS := Lib.hid (HS.out.app hS (i := 1) rfl (fun k h => h) (j := 0) rfl)
  have hnw := allocS_nw (hv := hw (2 : Nat) 0) HI.out k 0 2 40 (by rw [HACT.out, HW56.out]; decide) (by rw [HW56.out]; decide) (by rw [HACT.out]; decide)
  have ha0 : (allocS s5 k 0 2 40 (hw (2 : Nat) 0)).nw k.act = ((0 : Nat) : Int) := by
    rw [hnw, if_neg (by omega), if_neg (by rw [HACT.out]; omega)]
    exact HZ0.out
  have hu3 : (allocS s5 k 0 2 40 (hw (2 : Nat) 0)).nw (k.act + 1) = ((3 : Nat) : Int) := by rw [hnw, if_pos rfl]
  have hI6 := allocS_is HI.out k 0 2 40 (hw (2 : Nat) 0)
  generalize allocS s5 k 0 2 40 (hw (2 : Nat) 0) = s6 at *
  have HA0 := Lib.hid ha0
  have HU3 := Lib.hid hu3
  have HI6 := Lib.hid hI6
  clear hS hnw ha0 hu3 hI6 c0 c1 c2
  have c0 := (HS.out.blk 0 rfl).cell 0
  simp at c0
  have c1 := (HS.out.blk 0 rfl).cell 1
  simp at c1
  have c2 := (HS.out.blk 0 rfl).cell 2
  simp at c2
  go_wp2_with fail
  rw [HCF.out]
  refine (alloc_space d s6 k 5 0 3 0 _ _ (HS.out.dev 1 rfl) HK.out HI6.out.now (by decide) HA0.out HU3.out (by decide) (by rw [HS8.out]; decide) (by rw [HS8.out]; decide)).mono ?_
  rintro e w7 ⟨rfl, hkk⟩
  replace HS := Lib.hid (HS.out.grow hkk)
  clear hkk c0 c1 c2
  have c0 := (HS.out.blk 0 rfl).cell 0
  simp at c0
  have c1 := (HS.out.blk 0 rfl).cell 1
  simp at c1
  have c2 := (HS.out.blk 0 rfl).cell 2
  simp at c2
  have hfr := fun w => kfrom k w HK.out 0 (by decide)
  rw [HF0.out] at hfr
  have HFR := Lib.hid hfr
  clear hfr
  go_wp2_with fail
  rw [HCF.out]
  refine (HFR.out _).mono ?_
  rintro e w8 ⟨rfl, hkk⟩
  replace HS := Lib.hid (HS.out.grow hkk)
  clear hkk c0 c1 c2
  go_wp2
  go_ret
  exact ⟨rfl, HS.out.keep⟩
end Go.Proofs.Ytbdomdmnjclpdaa
