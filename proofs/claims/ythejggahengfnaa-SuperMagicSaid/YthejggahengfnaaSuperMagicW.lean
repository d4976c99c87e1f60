/-
  The walk of tumuluslaw05.SuperMagic.
-/
import Derived.Test.YthejggahengfnaaAwk5
set_option linter.unusedSimpArgs false
set_option linter.unusedVariables false
namespace Go.Proofs.Ythejggahengfnaa
open Go.RowKit Go.Shelf

theorem rd_nil (w : World) (n : Nat) : Rd w (.slice none 0 n) (uw []) := ⟨none, n, rfl, fun h => by simp [uw] at h⟩

/-- Another first word: no heap; put back: the same heap. -/
theorem magic_reads {s : St} {k : Kfg} (hk : k.Ok) (hI : s.Is k.words) (h : WholeS s k) (v : Int) : ∃ a b c e, Reads ((s.store 0 v).nw 0) ((s.store 0 v).nw 1) ((s.store 0 v).nw 2) ((s.store 0 v).nw 3) (s.store 0 v).now.length a b c e ∧ (e = 7 ↔ v ≠ MAGIC) ∧ (v = MAGIC → e = 0) := by
  obtain ⟨hw1, hw2⟩ := Kfg.words_le hk
  have n0 : (s.store 0 v).nw 0 = v := by rw [St.nw_store hI (by omega)]; rfl
  by_cases hv : v = MAGIC
  · have hW : WholeS (s.store 0 v) k := by
      have e : ∀ j, (s.store 0 v).nw j = if j = 0 then v else s.nw j := fun j => St.nw_store hI (by omega) _ _
      obtain ⟨ha1, ha2⟩ := k.act_le
      refine ⟨n0.trans hv, ?_, ?_, ?_, ?_, ?_, ?_⟩
      · rw [e]; exact h.w1
      · rw [e]; exact h.w2
      · rw [e]; exact h.w3
      · rw [e]; exact h.w8
      · intro i hi; rw [e, if_neg (by omega)]; exact h.recs i hi
      · intro i hi; rw [e, if_neg (by omega)]; exact h.zer i hi
    exact ⟨_, _, _, _, AllS.reads hk hW (hI.store _ _), by simp [hv], fun _ => rfl⟩
  · refine ⟨0, 0, 0, 7, ⟨fun _ => ⟨rfl, rfl, rfl, rfl⟩, fun h => absurd (n0.symm.trans h) hv, fun h => absurd (n0.symm.trans h) hv, fun h => absurd (n0.symm.trans h) hv⟩, by simp [hv], fun h => absurd h hv⟩
theorem store_same {s : St} {k : Kfg} (hk : k.Ok) (hI : s.Is k.words) (h : WholeS s k) (v : Int) : WholeS ((s.store 0 v).store 0 MAGIC) k := by
  obtain ⟨hw1, hw2⟩ := Kfg.words_le hk
  obtain ⟨ha1, ha2⟩ := k.act_le
  have e : ∀ j, ((s.store 0 v).store 0 MAGIC).nw j = if j = 0 then MAGIC else s.nw j := fun j => by
    rw [St.nw_store (hI.store 0 v) (by omega), St.nw_store hI (by omega)]
    by_cases hj : j = 0 <;> simp [hj]
  refine ⟨by rw [e]; rfl, ?_, ?_, ?_, ?_, ?_, ?_⟩
  · rw [e]; exact h.w1
  · rw [e]; exact h.w2
  · rw [e]; exact h.w3
  · rw [e]; exact h.w8
  · intro i hi; rw [e, if_neg (by omega)]; exact h.recs i hi
  · intro i hi; rw [e, if_neg (by omega)]; exact h.zer i hi

set_option maxRecDepth 100000 in
set_option maxHeartbeats 2000000 in
theorem SuperMagic.core (l r s v : Int) (w : World) (l0 : 0 ≤ l) (l1 : l ≤ 65535) (r0 : 0 ≤ r) (r1 : r ≤ 65535) (s0 : 0 ≤ s) (s1 : s ≤ 65535) (v0 : 0 ≤ v) (v1 : v ≤ 18446744073709551615) :
    Calls Try.prog 10 #[.agg #[.int .u16 l, .int .u16 r, .int .u16 s], .int .u64 v] w fun e w' => e = .returned (.bool true) ∧ Keep w.heap.size [] w w' := by
  have HS := Lib.hid ((Sep.start w []).new 40 #[.int .u16 l, .int .u16 r, .int .u16 s])
  go_enter Try.func10, Try.ntmps10
  go_wp2_with fail
  generalize w.alloc _ = w2 at *
  generalize w.heap.size = gx at *
  refine (awake5_any _).mono ?_
  rintro e w1 ⟨rfl, hk⟩
  replace HS := Lib.hid (HS.out.grow hk)
  clear hk
  have c0 := (HS.out.blk 0 rfl).cell 0
  simp at c0
  have c1 := (HS.out.blk 0 rfl).cell 1
  simp at c1
  have c2 := (HS.out.blk 0 rfl).cell 2
  simp at c2
  go_wp2_with fail
  refine (kmake l r s _ l0 l1 r0 r1 s0 s1).mono ?_
  rintro e w3 ⟨k, hk, hL, hR, hS, rfl, hkk⟩
  simp only [Kfg.cells]
  replace HS := Lib.hid ((HS.out.grow hkk).new 43 #[.int .i64 (k.L : Int), .int .i64 (k.R : Int), .int .i64 (k.S : Int)])
  have HK := Lib.hid hk
  clear hkk hk c0 c1 c2
  go_wp2_with fail
  generalize w3.alloc _ = w4 at *
  generalize w3.heap.size = gk at *
  refine (formatted_any k _ [] _ HK.out (rd_nil _ 0) (by decide)).mono ?_
  rintro e w5 ⟨d, rfl, hdb, hd, hkk⟩
  obtain ⟨s5, hs5⟩ : ∃ s5, s5 = (St.fresh (-1) 0 (fill [] k.words)).run (fmtOps k) := ⟨_, rfl⟩
  rw [← hs5] at hd
  have hI : s5.Is k.words := by rw [hs5]; exact (fresh_fill [] k).run _
  have hA : AllS s5 k := by rw [hs5]; exact all_of HK.out (fresh_fill [] k)
  have hl5 : s5.l < 0 := by rw [hs5, St.run_l]; show (-1 : Int) < 0; decide
  replace HS := Lib.hid (HS.out.add hkk (r := devR d s5) hd hdb)
  have HI := Lib.hid hI
  have HA := Lib.hid hA
  have HW := Lib.hid hA.whole
  have HL := Lib.hid hl5
  have HE := Lib.hid hs5
  clear hdb hd hkk hs5 hI hA hl5
  obtain ⟨hwl, _⟩ := Kfg.words_le HK.out
  have HWL := Lib.hid hwl
  clear hwl
  go_wp2_with fail
  refine (store_free d s5 0 v _ (HS.out.dev 2 rfl) HL.out (by rw [HI.out.now]; have := HWL.out; omega)).mono ?_
  rintro e w1 ⟨rfl, hd, hk⟩
  replace HS := Lib.hid (HS.out.did (i := 2) rfl hd hk)
  clear hd hk
  obtain ⟨a, b, c, er, hrd, he7, he0⟩ := magic_reads HK.out HI.out HW.out v
  have e1 : ∀ j, 0 < j → (s5.store 0 v).nw j = s5.nw j := fun j hj => by rw [St.nw_store HI.out (by have := HWL.out; omega), if_neg (by omega)]
  have HE1 := Lib.hid e1
  have HRD := Lib.hid hrd
  have HE7 := Lib.hid he7
  have HE0 := Lib.hid he0
  clear e1 hrd he7 he0
  go_wp2_with fail
  refine (read_any d _ a b c er _ (HS.out.dev 2 rfl) (by rw [HE1.out 1 (by decide), HW.out.w1]; omega) (by rw [HE1.out 2 (by decide), HW.out.w2]; omega) (by rw [HE1.out 3 (by decide), HW.out.w3]; omega) HRD.out).mono ?_
  rintro e w1 ⟨rfl, hk⟩
  replace HS := Lib.hid (HS.out.grow hk)
  clear hk
  replace HS := Lib.hid (HS.out.new 43 #[.int .i64 a, .int .i64 b, .int .i64 c])
  go_wp2_with fail
  generalize w1.alloc _ = w6 at *
  generalize w1.heap.size = g6 at *
  refine (store_free d _ 0 MAGIC _ (HS.out.dev 2 rfl) HL.out (by show (s5.now.set 0 v).length > 0; rw [List.length_set, HI.out.now]; have := HWL.out; omega)).mono ?_
  rintro e w1 ⟨rfl, hd, hk⟩
  replace HS := Lib.hid (HS.out.did (i := 2) rfl hd hk)
  clear hd hk
  have hw2 := store_same HK.out HI.out HW.out v
  have hI2 : ((s5.store 0 v).store 0 MAGIC).Is k.words := (HI.out.store 0 v).store 0 MAGIC
  have HW2 := Lib.hid hw2
  have HI2 := Lib.hid hI2
  clear hw2 hI2
  go_wp2_with fail
  refine (read_any d _ k.L k.R k.S 0 _ (HS.out.dev 2 rfl) (by rw [HW2.out.w1]; omega) (by rw [HW2.out.w2]; omega) (by rw [HW2.out.w3]; omega) (AllS.reads HK.out HW2.out HI2.out)).mono ?_
  rintro e w1 ⟨rfl, hk⟩
  replace HS := Lib.hid (HS.out.grow hk)
  clear hk
  replace HS := Lib.hid (HS.out.new 43 #[.int .i64 (k.L : Int), .int .i64 (k.R : Int), .int .i64 (k.S : Int)])
  have hg := HS.out.blk 4 rfl
  have hk1 := HS.out.blk 1 rfl
  have x0 := hg.cell 0
  have x1 := hg.cell 1
  have x2 := hg.cell 2
  have y0 := hk1.cell 0
  have y1 := hk1.cell 1
  have y2 := hk1.cell 2
  simp at x0 x1 x2 y0 y1 y2
  clear hg hk1
  by_cases hv : v = MAGIC
  · obtain rfl := HE0.out hv
    subst hv
    unfold MAGIC
    go_wp2
    go_ret
    exact ⟨rfl, HS.out.keep⟩
  · obtain rfl := HE7.out.2 hv
    have hv1 : (v == 6076848300954571569) = false := by rw [beq_eq_false_iff_ne]; exact hv
    have hv2 : (v != 6076848300954571569) = true := by simp [bne, hv1]
    clear hv
    go_wp2
    go_ret
    exact ⟨rfl, HS.out.keep⟩

theorem SuperMagic.walk {w : World} (l r s : Int) (h : (lowest .u16 ≤ l ∧ l ≤ greatest .u16) ∧ (lowest .u16 ≤ r ∧ r ≤ greatest .u16) ∧ (lowest .u16 ≤ s ∧ s ≤ greatest .u16)) (v : Int) (v0 : lowest .u64 ≤ v) (v1 : v ≤ greatest .u64) :
    Calls Try.prog 10 #[.agg #[.int .u16 l, .int .u16 r, .int .u16 s], .int .u64 v] w fun e w' => e = .returned (.bool true) ∧ Below w.heap.size w w' := by
  obtain ⟨⟨l0, l1⟩, ⟨r0, r1⟩, s0, s1⟩ := h
  simp [lowest, greatest] at l0 l1 r0 r1 s0 s1 v0 v1
  exact (SuperMagic.core l r s v w l0 l1 r0 r1 s0 s1 v0 v1).mono fun e w' ⟨he, hk⟩ => ⟨he, hk.below⟩
end Go.Proofs.Ythejggahengfnaa
