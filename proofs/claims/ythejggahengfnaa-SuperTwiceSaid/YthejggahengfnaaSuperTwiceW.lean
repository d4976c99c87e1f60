/-
  The walk of tumuluslaw05.SuperTwice.
-/
import Derived.Test.YthejggahengfnaaAwk5
set_option linter.unusedSimpArgs false
set_option linter.unusedVariables false
namespace Go.Proofs.Ythejggahengfnaa
open Go.RowKit Go.Shelf

set_option maxRecDepth 100000 in
set_option maxHeartbeats 2000000 in
theorem SuperTwice.core (l r s : Int) (v1 v2 : Value) (old ms : List Int) (v : Int) (w : World) (l0 : 0 ≤ l) (l1 : l ≤ 65535) (r0 : 0 ≤ r) (r1 : r ≤ 65535) (s0 : 0 ≤ s) (s1 : s ≤ 65535) (hv : Rd w v1 (uw old)) (hm : old.length ≤ maxLen) (hq : Rd w v2 (ms.map (Value.int .u16))) (hok : ∀ x ∈ ms, 0 ≤ x ∧ x ≤ 65535) (hml : ms.length ≤ maxLen) :
    Calls Try.prog 12 #[.agg #[.int .u16 l, .int .u16 r, .int .u16 s], v1, v2, .int .u64 v] w fun e w' => e = .returned (.bool true) ∧ Keep w.heap.size [] w w' := by
  simp only [maxLen] at hm hml
  obtain ⟨A, c, rfl, hrd⟩ := hv.cellAt
  obtain ⟨A1, c1, rfl, hrs⟩ := hq.cells
  have HS := Lib.hid ((Sep.start w []).new 40 #[.int .u16 l, .int .u16 r, .int .u16 s])
  have HV := Lib.hid hv
  have HQ := Lib.hid hq
  have HOK := Lib.hid hok
  clear hv hrd hq hrs hok
  by_cases hb1 : 20 < old.length
  · have hbI : (20 : Int) < old.length := by omega
    go_enter Try.func12, Try.ntmps12
    go_wp2_with fail
    generalize w.alloc _ = w2 at *
    refine (awake5_any _).mono ?_
    rintro e w1 ⟨rfl, hk⟩
    replace HS := Lib.hid (HS.out.grow hk)
    clear hk
    go_wp2
    go_ret
    exact ⟨rfl, HS.out.keep⟩
  have hx2 : ((20 : Int) < old.length) = False := by rw [eq_iff_iff, iff_false]; omega
  have hx3 : (20 < old.length) = False := by rw [eq_iff_iff, iff_false]; omega
  by_cases hb2 : 20 < ms.length
  · have hbI : (20 : Int) < ms.length := by omega
    go_enter Try.func12, Try.ntmps12
    go_wp2_with fail
    generalize w.alloc _ = w2 at *
    refine (awake5_any _).mono ?_
    rintro e w1 ⟨rfl, hk⟩
    replace HS := Lib.hid (HS.out.grow hk)
    clear hk
    go_wp2
    go_ret
    exact ⟨rfl, HS.out.keep⟩
  have hx4 : ((20 : Int) < ms.length) = False := by rw [eq_iff_iff, iff_false]; omega
  have hx5 : (20 < ms.length) = False := by rw [eq_iff_iff, iff_false]; omega
  go_enter Try.func12, Try.ntmps12
  go_wp2_with fail
  generalize w.alloc _ = w2 at *
  generalize w.heap.size = gx at *
  refine (awake5_any _).mono ?_
  rintro e w1 ⟨rfl, hk⟩
  replace HS := Lib.hid (HS.out.grow hk)
  clear hk
  have c0 := (HS.out.blk 0 rfl).cell 0
  simp at c0
  have c1 := (HS.out.blk 0 rfl).cell 1
  simp at c1
  have c2 := (HS.out.blk 0 rfl).cell 2
  simp at c2
  go_wp2_with fail
  refine (kmake l r s _ l0 l1 r0 r1 s0 s1).mono ?_
  rintro e w3 ⟨k, hk, hL, hR, hS, rfl, hkk⟩
  simp only [Kfg.cells]
  replace HS := Lib.hid ((HS.out.grow hkk).new 43 #[.int .i64 (k.L : Int), .int .i64 (k.R : Int), .int .i64 (k.S : Int)])
  have HK := Lib.hid hk
  clear hkk hk c0 c1 c2
  go_wp2_with fail
  generalize w3.alloc _ = w4 at *
  generalize w3.heap.size = gk at *
  refine (formatted_any k _ old _ HK.out ((HV.out.keep HS.out.keep)) (by omega)).mono ?_
  rintro e w5 ⟨d, rfl, hdb, hd, hkk⟩
  obtain ⟨s5, hs5⟩ : ∃ s5, s5 = (St.fresh (-1) 0 (fill old k.words)).run (fmtOps k) := ⟨_, rfl⟩
  rw [← hs5] at hd
  have hI : s5.Is k.words := by rw [hs5]; exact (fresh_fill old k).run _
  have hA : AllS s5 k := by rw [hs5]; exact all_of HK.out (fresh_fill old k)
  have hl5 : s5.l < 0 := by rw [hs5, St.run_l]; show (-1 : Int) < 0; decide
  replace HS := Lib.hid (HS.out.add hkk (r := devR d s5) hd hdb)
  have HI := Lib.hid hI
  have HA := Lib.hid hA
  have HW := Lib.hid hA.whole
  have HL := Lib.hid hl5
  have HE := Lib.hid hs5
  clear hdb hd hkk hs5 hI hA hl5
  obtain ⟨n, hn⟩ : ∃ n, k.words = n := ⟨_, rfl⟩
  obtain ⟨hwl, hwu⟩ := Kfg.words_le HK.out
  have hn1 : 0 < n := by omega
  have hn2 : n ≤ 10000 := by omega
  have hnI : (0 : Int) < n := by omega
  have HN := Lib.hid hn
  clear hwl hwu hn
  go_wp2_with fail
  go_loopw [40] (fun v' wr => ∃ (j : Nat) (t : St), j ≤ ms.length ∧ v' = .int .i64 (j : Int) ∧ t.Is n ∧ t.l < 0 ∧ Sep w [] [blkR gx 40 #[.int .u16 l, .int .u16 r, .int .u16 s], blkR gk 43 #[.int .i64 (k.L : Int), .int .i64 (k.R : Int), .int .i64 (k.S : Int)], devR d t] wr) (fun v' _ => ms.length - (intOf v').toNat)
  case atStart => exact ⟨0, s5, by omega, rfl, HN.out ▸ HI.out, HL.out, HS.out⟩
  case round =>
    clear HS HE HL HI HW HA
    obtain ⟨j, t, hj, rfl, ht, htl, hs⟩ := hrel
    have HS := Lib.hid hs
    have HT := Lib.hid ht
    have HTL := Lib.hid htl
    clear hs ht htl
    by_cases hlt : j < ms.length
    · have hjI : (j : Int) < ms.length := by omega
      obtain ⟨x, hx⟩ : ∃ x, ms[j]? = some x := ⟨_, List.getElem?_eq_getElem hlt⟩
      obtain ⟨x0, x1⟩ := HOK.out x (List.mem_of_getElem? hx)
      obtain ⟨A', c', hA, hr⟩ := (HQ.out.keep HS.out.keep).cells
      injection hA with e1 e2 e3
      subst e1
      obtain ⟨g, off, rfl, k0⟩ := hr j hlt
      rw [show ms.getD j 0 = x by simp [List.getD_eq_getElem?_getD, hx]] at k0
      obtain ⟨m, hm', hmn, hme⟩ := tmod_some x n x0 hn1
      clear hx hr e2 e3 hme
      go_wp2_with fail
      refine (len_any d _ _ (HS.out.dev 2 rfl)).mono ?_
      rintro e w' ⟨rfl, rfl⟩
      rw [HT.out.now]
      go_wp2_with fail
      refine (store_free d t m _ _ (HS.out.dev 2 rfl) HTL.out (by rw [HT.out.now]; exact hmn)).mono ?_
      rintro e w1 ⟨rfl, hd, hk⟩
      replace HS := Lib.hid (HS.out.did (i := 2) rfl hd hk)
      clear hd hk
      go_wp2
      exact ⟨⟨j + 1, _, by omega, by go_num, HT.out.store m _, HTL.out, HS.out⟩, by simp [intOf]; omega⟩
    · have hje : (ms.length : Int) ≤ j := by omega
      have c0 := (HS.out.blk 1 rfl).cell 0
      simp at c0
      have c1 := (HS.out.blk 1 rfl).cell 1
      simp at c1
      have c2 := (HS.out.blk 1 rfl).cell 2
      simp at c2
      go_wp2_with fail
      refine (format_any d t k _ (HS.out.dev 2 rfl) HK.out (by rw [HT.out.now, HN.out])).mono ?_
      rintro e w6 hp
      obtain ⟨rfl, hd, hkk⟩ := hp.free HTL.out
      replace HS := Lib.hid (HS.out.did (i := 2) rfl hd hkk)
      have hIt : t.Is k.words := by rw [HN.out]; exact HT.out
      have ha2 := all_of HK.out hIt
      have HA2 := Lib.hid ha2
      have HW2 := Lib.hid ha2.whole
      have HI2 := Lib.hid (hIt.run (fmtOps k))
      clear hp hd hkk hIt ha2 c0 c1 c2
      go_wp2_with fail
      refine (read_any d _ k.L k.R k.S 0 _ (HS.out.dev 2 rfl) (by rw [HW2.out.w1]; omega) (by rw [HW2.out.w2]; omega) (by rw [HW2.out.w3]; omega) (AllS.reads HK.out HW2.out HI2.out)).mono ?_
      rintro e w1 ⟨rfl, hk⟩
      replace HS := Lib.hid (HS.out.grow hk)
      clear hk
      replace HS := Lib.hid (HS.out.new 43 #[.int .i64 (k.L : Int), .int .i64 (k.R : Int), .int .i64 (k.S : Int)])
      go_wp2_with fail
      generalize w1.alloc _ = w7 at *
      generalize w1.heap.size = g7 at *
      refine (kept_any d _ _ (HS.out.dev 2 rfl)).mono ?_
      rintro e w1 ⟨vk, gq, xq, rfl, hn⟩
      have vk_v := hn.val
      replace HS := Lib.hid (HS.out.add hn.keep (r := blkR gq _ _) hn.blk (by intro k hk; simp [blkR] at hk; subst hk; exact hn.new))
      clear hn
      obtain ⟨sq, hsq⟩ : ∃ sq, t.run (fmtOps k) = sq := ⟨_, rfl⟩
      rw [hsq] at vk_v HS HA2 HW2 HI2
      rw [uw_length, HI2.out.kept, HN.out] at vk_v
      subst vk_v
      clear hsq
      have hk0 := (HS.out.blk 4 rfl).cell 0
      have hkz : (uw sq.kept ++ xq).toArray[0]? = some (.int .u64 MAGIC) := by
        have h0 := HA2.out.w0.2.2
        have hl := HI2.out.kept
        have hnn := HN.out
        simp only [List.getElem?_toArray]
        rw [List.getElem?_append_left (by rw [uw_length]; omega), uw, List.getElem?_map]
        unfold St.kp at h0
        rw [List.getD_eq_getElem?_getD] at h0
        rw [List.getElem?_eq_getElem (by omega)] at h0 ⊢
        simp only [Option.getD_some] at h0
        rw [h0]; rfl
      have HK0 := Lib.hid hkz
      clear hk0 hkz
      have c0 := (HS.out.blk 1 rfl).cell 0
      simp at c0
      have c1 := (HS.out.blk 1 rfl).cell 1
      simp at c1
      have c2 := (HS.out.blk 1 rfl).cell 2
      simp at c2
      have y0 := (HS.out.blk 3 rfl).cell 0
      simp at y0
      have y1 := (HS.out.blk 3 rfl).cell 1
      simp at y1
      have y2 := (HS.out.blk 3 rfl).cell 2
      simp at y2
      go_wp2_with fail
      refine (whole_any d _ k _ (HS.out.dev 2 rfl) HK.out HW2.out).mono ?_
      rintro e w1 ⟨rfl, hk⟩
      replace HS := Lib.hid (HS.out.grow hk)
      clear hk
      clear c0 c1 c2 y0 y1 y2
      have hk0 : w1.cell? ⟨gq, 0, none⟩ = some (.int .u64 6076848300954571569) := by
        rw [(HS.out.blk 4 rfl).cell]
        exact HK0.out
      go_wp2
      go_ret
      exact ⟨rfl, HS.out.keep⟩

theorem SuperTwice.walk {w : World} (l r s : Int) (h : (lowest .u16 ≤ l ∧ l ≤ greatest .u16) ∧ (lowest .u16 ≤ r ∧ r ≤ greatest .u16) ∧ (lowest .u16 ≤ s ∧ s ≤ greatest .u16)) {v1 : Value} (old : List Int) (hv : Rd w v1 (uw old)) (_ : ∀ x ∈ old, lowest .u64 ≤ x ∧ x ≤ greatest .u64) (hm : old.length ≤ maxLen) {v2 : Value} (ms : List Int) (hq : Rd w v2 (ms.map (Value.int .u16))) (hok : ∀ x ∈ ms, lowest .u16 ≤ x ∧ x ≤ greatest .u16) (hml : ms.length ≤ maxLen) (v : Int) (_ : lowest .u64 ≤ v) (_ : v ≤ greatest .u64) :
    Calls Try.prog 12 #[.agg #[.int .u16 l, .int .u16 r, .int .u16 s], v1, v2, .int .u64 v] w fun e w' => e = .returned (.bool true) ∧ Below w.heap.size w w' := by
  obtain ⟨⟨l0, l1⟩, ⟨r0, r1⟩, s0, s1⟩ := h
  simp [lowest, greatest] at l0 l1 r0 r1 s0 s1
  exact (SuperTwice.core l r s v1 v2 old ms v w l0 l1 r0 r1 s0 s1 hv hm hq (fun x hx => by have := hok x hx; simpa [lowest, greatest] using this) hml).mono fun e w' ⟨he, hk⟩ => ⟨he, hk.below⟩
end Go.Proofs.Ythejggahengfnaa
