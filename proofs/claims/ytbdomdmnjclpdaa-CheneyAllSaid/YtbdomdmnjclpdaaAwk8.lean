/-
  tumuluslaw08.Awake.
-/
import Derived.Test.YtbdomdmnjclpdaaRoots
set_option linter.unusedSimpArgs false
set_option linter.unusedVariables false
set_option maxRecDepth 100000
namespace Go.Proofs.Ytbdomdmnjclpdaa
open Go.RowKit Go.Shelf

set_option maxHeartbeats 4000000 in
theorem awake8_any (w : World) : Calls Try.prog 74 #[] w fun e w' => e = .returned (.bool true) ∧ Keep w.heap.size [] w w' := by
  have HS := Lib.hid (Sep.start w [])
  obtain ⟨k, hkd⟩ : ∃ k, k = Kfg.mk 3 1 8 := ⟨_, rfl⟩
  have hk : k.Ok := by rw [hkd]; exact k318_ok
  have HK := Lib.hid hk
  have hcf : Value.agg #[.int .i64 3, .int .i64 1, .int .i64 8] = .agg k.cells := by rw [hkd]; rfl
  have hw56 : k.words = 56 := by rw [hkd]; rfl
  have hact : k.act = 32 := by rw [hkd]; rfl
  have hkL : k.L = 3 := by rw [hkd]
  have hkR : k.R = 1 := by rw [hkd]
  have HCF := Lib.hid hcf
  have HW56 := Lib.hid hw56
  have HACT := Lib.hid hact
  have HKL := Lib.hid hkL
  have HKR := Lib.hid hkR
  clear hcf hw56 hkL hkd hk hact hkR
  go_enter Try.func74, Try.ntmps74
  go_wp2_with fail
  refine (awake7_any _).mono ?_
  rintro e w1 ⟨rfl, hk⟩
  replace HS := Lib.hid (HS.out.grow hk)
  clear hk
  go_wp2_with fail
  replace HS := Lib.hid (HS.out.new 30 #[.int .i64 3, .int .i64 1, .int .i64 8])
  generalize w1.alloc _ = w4 at *
  generalize w1.heap.size = gk at *
  have c0 := (HS.out.blk 0 rfl).cell 0
  simp at c0
  have c1 := (HS.out.blk 0 rfl).cell 1
  simp at c1
  have c2 := (HS.out.blk 0 rfl).cell 2
  simp at c2
  go_wp2_with fail
  rw [HCF.out]
  refine (formatted_any k _ [] _ HK.out (rd_nil6 _ 0) (by decide)).mono ?_
  rintro e w5 ⟨d, rfl, hdb, hd, hkk⟩
  obtain ⟨s5, hs5⟩ : ∃ s5, s5 = (St.fresh (-1) 0 (fill [] k.words)).run (fmtOps k) := ⟨_, rfl⟩
  rw [← hs5] at hd
  have hI : s5.Is k.words := by rw [hs5]; exact (fresh_fill [] k).run _
  have hA : AllS s5 k := by rw [hs5]; exact all_of HK.out (fresh_fill [] k)
  have hz0 : s5.nw k.act = ((0 : Nat) : Int) := (hA.zer 0 (by omega)).1
  have hz1 : s5.nw (k.act + 1) = ((0 : Nat) : Int) := (hA.zer 1 (by omega)).1
  have hf0 : k.from_ 0 + 3 = 43 := by
    have h1 := k.from_le
    have h2 := k.from_mod 0
    rw [HACT.out, HKR.out] at h1
    omega
  replace HS := Lib.hid (HS.out.add hkk (r := devR d s5) hd hdb)
  have HI := Lib.hid hI
  have HZ0 := Lib.hid hz0
  have HZ1 := Lib.hid hz1
  have HF0 := Lib.hid hf0
  clear hdb hd hkk hs5 hI hA hz0 hz1 hf0 c0 c1 c2
  have c0 := (HS.out.blk 0 rfl).cell 0
  simp at c0
  have c1 := (HS.out.blk 0 rfl).cell 1
  simp at c1
  have c2 := (HS.out.blk 0 rfl).cell 2
  simp at c2
  go_wp2_with fail
  rw [HCF.out]
  refine (rread_any d s5 k 0 0 _ (HS.out.dev 1 rfl) HK.out HI.out.now HZ0.out HZ1.out (by decide) (by omega)).mono ?_
  rintro e w6 ⟨v, rfl, hkk, hrow, hnew⟩
  obtain ⟨A0, C0, hv⟩ := rowR_val hrow
  subst hv
  have hl1 : (uw (rootsOf s5 k k.R)).length = 1 := by rw [HKR.out]; simp [uw, rootsOf]
  rw [hl1]
  replace HS := Lib.hid (HS.out.grow hkk)
  clear hkk hrow hnew hl1 c0 c1 c2
  simp only [rbC]
  have c0 := (HS.out.blk 0 rfl).cell 0
  simp at c0
  have c1 := (HS.out.blk 0 rfl).cell 1
  simp at c1
  have c2 := (HS.out.blk 0 rfl).cell 2
  simp at c2
  have hgl := (HS.out.blk 0 rfl).lt
  go_wp2_with fail
  replace HS := Lib.hid (HS.out.alloc (.cells #[.int .i64 0, .int .i64 0, .slice A0 1 C0] 33))
  generalize w6.alloc _ = w7 at *
  generalize w6.heap.size = gz at *
  rw [HCF.out]
  refine (place_is k 0 0 3 43 (.slice A0 1 C0) _ HK.out (by decide) HF0.out (by decide)).mono ?_
  rintro e w8 ⟨rfl, hkk⟩
  replace HS := Lib.hid (HS.out.grow hkk)
  clear hkk c0 c1 c2 hgl
  go_wp2
  go_ret
  exact ⟨rfl, HS.out.keep⟩
end Go.Proofs.Ytbdomdmnjclpdaa
