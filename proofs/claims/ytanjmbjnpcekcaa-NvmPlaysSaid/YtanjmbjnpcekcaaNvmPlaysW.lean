/-
  The walk of tumuluslaw02.NvmPlays.
-/
import Derived.Test.YtanjmbjnpcekcaaSepM
set_option linter.unusedSimpArgs false
set_option linter.unusedVariables false
namespace Go.Proofs.Ytanjmbjnpcekcaa
open Go.RowKit Go.Shelf

set_option maxRecDepth 100000 in
set_option maxHeartbeats 2000000 in
theorem NvmPlays.core (v0 v1 : Value) (xs : List Int) (l : List Stp) (w : World) (hv : Rd w v0 (uw xs)) (hm : xs.length ≤ maxLen) (hs : RdS w v1 l) (hok : ∀ x ∈ l, x.Ok) (hml : l.length ≤ maxLen) :
    Calls Try.prog 8 #[v0, v1] w fun e w' => e = .returned (.bool true) ∧ Keep w.heap.size [] w w' := by
  simp only [maxLen] at hm hml
  obtain ⟨A, c, rfl, hrd⟩ := hv.cellAt
  obtain ⟨A1, c1, rfl, hrs⟩ := id hs
  have HV := Lib.hid hv
  have HS := Lib.hid hs
  have HOK := Lib.hid hok
  clear hv hrd hs hok hrs
  by_cases hbig : 40 < xs.length
  · have hbI : (40 : Int) < xs.length := by omega
    go_enter Try.func8, Try.ntmps8
    go_wp2_with fail
    refine (awake2_any w).mono ?_
    rintro e w1 ⟨rfl, hk1⟩
    have HK1 := Lib.hid hk1
    clear hk1
    go_wp2
    go_ret
    exact ⟨rfl, HK1.out⟩
  have hd1 : ((40 : Int) < xs.length) = False := by rw [eq_iff_iff, iff_false]; omega
  have hd1' : (40 < xs.length) = False := by rw [eq_iff_iff, iff_false]; omega
  by_cases hbl : 80 < l.length
  · have hbI : (80 : Int) < l.length := by omega
    go_enter Try.func8, Try.ntmps8
    go_wp2_with fail
    refine (awake2_any w).mono ?_
    rintro e w1 ⟨rfl, hk1⟩
    have HK1 := Lib.hid hk1
    clear hk1
    go_wp2
    go_ret
    exact ⟨rfl, HK1.out⟩
  have hd2 : ((80 : Int) < l.length) = False := by rw [eq_iff_iff, iff_false]; omega
  have hd2' : (80 < l.length) = False := by rw [eq_iff_iff, iff_false]; omega
  go_enter Try.func8, Try.ntmps8
  go_wp2_with fail
  refine (awake2_any w).mono ?_
  rintro e w1 ⟨rfl, hk1⟩
  have HK1 := Lib.hid hk1
  clear hk1
  go_wp2_with fail
  refine (new2_any _ xs w1 (HV.out.keep HK1.out) (by omega)).mono ?_
  rintro e w2 ⟨d, rfl, hdb, hd, hk2⟩
  have HK2 : Hid (Keep w.heap.size [] w w2) := HK1.out.join hk2 HK1.out.size (by simp)
  have HDB : Hid (∀ k ∈ d.blocks, w.heap.size ≤ k) := fun k hk => Nat.le_trans HK1.out.size (hdb k hk)
  have HD2 := Lib.hid hd
  clear hdb hd hk2 HK1
  go_wp2_with fail
  refine (makeM_any _ xs w2 (HV.out.keep HK2.out) (by omega)).mono ?_
  rintro e w3 ⟨m, rfl, hmb, hmo, hk3⟩
  have HK3 : Hid (Keep w.heap.size [] w w3) := HK2.out.join hk3 HK2.out.size (by simp)
  have HMB : Hid (∀ k ∈ m.blocks, w.heap.size ≤ k) := fun k hk => Nat.le_trans HK2.out.size (hmb k hk)
  have HAP : Hid (∀ k ∈ m.blocks, k ∉ d.blocks) := fun k hk h => by have := hmb k hk; have := HD2.out.lt k h; omega
  have HD3 := Lib.hid (HD2.out.of_new hk3)
  have HM3 := Lib.hid (hmo (-1) 0)
  clear hmb hmo hk3 HK2 HD2
  go_wp2_with fail
  refine (same_any d m _ _ w3 HD3.out HM3.out).mono ?_
  rintro e w4 ⟨rfl, hk4⟩
  have HK4 : Hid (Keep w.heap.size [] w w4) := HK3.out.join hk4 HK3.out.size (by simp)
  have HD4 := Lib.hid (HD3.out.of_new hk4)
  have HM4 := Lib.hid (HM3.out.of_new hk4)
  clear hk4 HK3 HD3 HM3
  go_wp2_with fail
  go_loopw [35] (fun v' wr => ∃ (j : Nat) (s : St) (t : List Int), j ≤ l.length ∧ v' = .int .i64 (j : Int) ∧ s.l = -1 ∧ Dev wr d s ∧ MOf wr m s t ∧ Keep w.heap.size [] w wr) (fun v' _ => l.length - (intOf v').toNat)
  case atStart => exact ⟨0, _, _, by omega, rfl, rfl, HD4.out, HM4.out, HK4.out⟩
  case round =>
    obtain ⟨j, s, t, hj, rfl, hsl, hdr, hmr, hkr⟩ := hrel
    by_cases hlt : j < l.length
    · have hjI : (j : Int) < l.length := by omega
      obtain ⟨x, hx⟩ : ∃ x, l[j]? = some x := ⟨_, List.getElem?_eq_getElem hlt⟩
      have hxo : x.Ok := HOK.out x (List.mem_of_getElem? hx)
      obtain ⟨A', c', hA, hr⟩ := HS.out.keep hkr
      injection hA with e1 e2 e3
      subst e1
      obtain ⟨g, off, rfl, k0, k1, k2, k3⟩ := hr j x hx
      obtain ⟨dO, at_, v, bt⟩ := x
      obtain ⟨u0, u1, u2, u3, u4, u5, u6, u7⟩ := hxo
      simp only at k0 k1 k2 k3 u0 u1 u2 u3 u4 u5 u6 u7
      have HKR := Lib.hid hkr
      have HDR := Lib.hid hdr
      have HMR := Lib.hid hmr
      have HX := Lib.hid hx
      clear hkr hdr hmr hx hr e2 e3
      rw [show off + 4 * j = off + j * 4 by omega] at k0
      rw [show off + (4 * j + 1) = off + j * 4 + 1 by omega] at k1
      rw [show off + (4 * j + 2) = off + j * 4 + 2 by omega] at k2
      rw [show off + (4 * j + 3) = off + j * 4 + 3 by omega] at k3
      obtain ⟨i, hi⟩ := at_some s.now.length at_
      have hka : Keep wr.heap.size [] wr (wr.alloc (.cells #[.int .u8 dO, .int .u8 at_, .int .u64 v, .int .u64 bt] 58)) := (Keep.refl _ _ _).alloc (Nat.le_refl _) _
      have HKA := Lib.hid hka
      have HI := Lib.hid hi
      have HSL := Lib.hid hsl
      clear hka hi hsl
      go_wp2_with fail
      generalize wr.alloc (.cells #[.int .u8 dO, .int .u8 at_, .int .u64 v, .int .u64 bt] 58) = wa at *
      refine (do_any d m s t dO at_ v bt i _ (HDR.out.of_new HKA.out) (HMR.out.of_new HKA.out) HAP.out u0 u1 u2 u3 u6 u7 HI.out).mono ?_
      rintro e w5 (⟨_, rfl, t', hd5, hm5, hk5⟩ | ⟨⟨_, hg⟩, _⟩)
      rotate_left
      · exact absurd hg.1 (by have := HSL.out; omega)
      have HK5 : Hid (Keep w.heap.size [] w w5) := (HKR.out.join HKA.out HKR.out.size (by simp)).join hk5 (Nat.le_trans HKR.out.size HKA.out.size) (by
        intro k hk h
        simp only [List.mem_append] at h
        rcases h with h | h
        · have := HDB.out k h; omega
        · have := HMB.out k h; omega)
      have HD5 := Lib.hid hd5
      have HM5 := Lib.hid hm5
      clear hd5 hm5 hk5 k0 k1 k2 k3
      go_wp2_with fail
      refine (same_any d m _ _ w5 HD5.out HM5.out).mono ?_
      rintro e w6 ⟨rfl, hk6⟩
      have HK6 := Lib.hid hk6
      clear hk6
      go_wp2
      exact ⟨⟨j + 1, _, _, by omega, by go_num, by rw [stepTo_l]; exact HSL.out, HD5.out.of_new HK6.out, HM5.out.of_new HK6.out, HK5.out.join HK6.out HK5.out.size (by simp)⟩, by simp [intOf]; omega⟩
    · have hje : (l.length : Int) ≤ j := by omega
      obtain ⟨c0, _, _, _⟩ := hmr.cells
      have hsm := hmr.small
      have HKR := Lib.hid hkr
      have HDR := Lib.hid hdr
      have HMR := Lib.hid hmr
      clear hkr hdr hmr
      have hnI : (s.now.length : Int) ≤ 1099511627776 := by omega
      go_wp2_with fail
      go_loopw [9] (fun v' wr2 => ∃ I : Int, -2 ≤ I ∧ I ≤ s.now.length + 2 ∧ v' = .int .i64 I ∧ wr2 = wr) (fun v' _ => ((s.now.length : Int) + 2 - intOf v').toNat)
      case atStart => exact ⟨-2, by omega, by omega, rfl, rfl⟩
      case round =>
        obtain ⟨I, hI0, hI1, rfl, rfl⟩ := hrel
        have h4 : I < 0 ∨ (0 ≤ I ∧ I < s.now.length) ∨ ((s.now.length : Int) ≤ I ∧ I < s.now.length + 2) ∨ (s.now.length : Int) + 2 ≤ I := by omega
        rcases h4 with h4 | ⟨h4, h5⟩ | ⟨h4, h5⟩ | h4
        · have hlt : I < (s.now.length : Int) + 2 := by omega
          have hwd : wordAt s.now I = 0 := by unfold wordAt; rw [if_neg (by omega)]
          go_wp2_with fail
          refine (load_any d s I wr HDR.out).mono ?_
          rintro e w' ⟨rfl, rfl⟩
          rw [hwd]
          go_wp2
          exact ⟨⟨I + 1, by omega, by omega, by go_num, by first | trivial | rfl⟩, by simp [intOf]; omega⟩
        · have hlt : I < (s.now.length : Int) + 2 := by omega
          obtain ⟨k, rfl⟩ := Int.eq_ofNat_of_zero_le h4
          have hk : k < s.now.length := by omega
          obtain ⟨x, hx⟩ : ∃ x, s.now[k] = x := ⟨_, rfl⟩
          have hwd : wordAt s.now (k : Int) = x := by simp [wordAt, hk, hx]
          have hw : wr.cell? ⟨m.nb, k, none⟩ = some (.int .u64 x) := by
            rw [HMR.out.now.cell, getElem?_toArray_uw]; simp [hk, hx]
          go_wp2_with fail
          refine (load_any d s k wr HDR.out).mono ?_
          rintro e w' ⟨rfl, rfl⟩
          rw [hwd]
          go_wp2
          exact ⟨⟨k + 1, by omega, by omega, by go_num, by first | trivial | rfl⟩, by simp [intOf]; omega⟩
        · have hlt : I < (s.now.length : Int) + 2 := by omega
          have h0 : 0 ≤ I := by omega
          have hwd : wordAt s.now I = 0 := by
            unfold wordAt
            rw [if_pos (by omega), List.getD_eq_getElem?_getD, List.getElem?_eq_none (by omega)]; rfl
          have hx1 : (I < (s.now.length : Int)) = False := by rw [eq_iff_iff, iff_false]; omega
          go_wp2_with fail
          refine (load_any d s I wr HDR.out).mono ?_
          rintro e w' ⟨rfl, rfl⟩
          rw [hwd]
          go_wp2
          exact ⟨⟨I + 1, by omega, by omega, by go_num, by first | trivial | rfl⟩, by simp [intOf]; omega⟩
        · have hx1 : (I < (s.now.length : Int) + 2) = False := by rw [eq_iff_iff, iff_false]; omega
          go_wp2
          go_ret
          exact ⟨rfl, HKR.out⟩

theorem NvmPlays.walk {v0 v1 : Value} {w : World} (xs : List Int) (hv : Rd w v0 (uw xs)) (_ : ∀ x ∈ xs, lowest .u64 ≤ x ∧ x ≤ greatest .u64) (hm : xs.length ≤ maxLen) (l : List Stp) (hs : RdS w v1 l) (hok : ∀ x ∈ l, x.Ok) (hml : l.length ≤ maxLen) :
    Calls Try.prog 8 #[v0, v1] w fun e w' => e = .returned (.bool true) ∧ Below w.heap.size w w' :=
  (NvmPlays.core v0 v1 xs l w hv hm hs hok hml).mono fun e w' ⟨he, hk⟩ => ⟨he, hk.below⟩
end Go.Proofs.Ytanjmbjnpcekcaa
