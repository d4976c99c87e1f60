/-
  The walk of tumuluslaw02.NvmChoices.
-/
import Derived.Test.YtanjmbjnpcekcaaSepM
set_option linter.unusedSimpArgs false
set_option linter.unusedVariables false
namespace Go.Proofs.Ytanjmbjnpcekcaa
open Go.RowKit Go.Shelf

theorem choices0 (k : Int) (w : World) : Calls Try.prog 46 #[.int .i64 k] w fun e w' => e = .returned (.int .u8 0) ∧ w = w' := by
  go_enter Try.func46, Try.ntmps46
  go_wp2
  go_ret
  exact ⟨rfl, rfl⟩
theorem choices2 (k : Int) (w : World) : Calls Try.prog 47 #[.int .i64 k] w fun e w' => e = .returned (.int .u8 2) ∧ w = w' := by
  go_enter Try.func47, Try.ntmps47
  go_wp2
  go_ret
  exact ⟨rfl, rfl⟩
theorem choices_bits (k : Nat) (b : Int) (g : Nat) (w : World) (b0 : 0 ≤ b) (b1 : b ≤ 18446744073709551615) (hk : k ≤ 1099511627776) (hc : w.cell? ⟨g, 0, none⟩ = some (.int .u64 b)) :
    Calls Try.prog 48 #[.int .i64 k, .pointer (some ⟨g, 0, none⟩)] w fun e w' => e = .returned (.int .u8 (choiceOf b k)) ∧ w = w' := by
  have hch := choice_any b k w b0 b1 hk
  go_enter Try.func48, Try.ntmps48
  go_wp2_with fail
  refine (choice_any b k w b0 b1 hk).mono ?_
  rintro e w' ⟨rfl, rfl⟩
  go_wp2
  go_ret
  exact ⟨rfl, rfl⟩

theorem list_eq_at {xs ys : List Int} (hl : xs.length = ys.length) (h : ∀ j, j < xs.length → xs.getD j 0 = ys.getD j 0) : xs = ys := eq_of_getD hl h
/-- By 0 alone all is as it was kept; by 2 alone as it stood. -/
theorem crash_zero (s : St) (hl : s.kept.length = s.now.length) : (s.crash fun _ => 0).now = s.kept ∧ (s.crash fun _ => 0).kept = s.kept := by
  have h : (s.crash fun _ => 0).now = s.kept := by
    refine eq_of_getD (by simp [St.crash, leftTo_length, hl]) fun j hj => ?_
    rw [crash_at _ _ _ (by simpa [St.crash, leftTo_length] using hj)]
    simp [left]
  exact ⟨h, h⟩
theorem crash_two (s : St) : (s.crash fun _ => 2).now = s.now := by
  refine eq_of_getD (by simp [St.crash, leftTo_length]) fun j hj => ?_
  rw [crash_at _ _ _ (by simpa [St.crash, leftTo_length] using hj)]
  simp [left]
/-- A crash where nothing is to be kept, and all is kept: nothing turns. -/
theorem crash_again (s : St) (ch : Nat → Int) (hq : s.q = fun _ => none) (hk : s.kept = s.now) : (s.crash ch).now = s.now ∧ (s.crash ch).kept = s.now := by
  have h : (s.crash ch).now = s.now := by
    refine eq_of_getD (by simp [St.crash, leftTo_length]) fun j hj => ?_
    rw [crash_at _ _ _ (by simpa [St.crash, leftTo_length] using hj)]
    unfold left
    rw [hq, hk]
    split
    · rfl
    · split <;> rfl
  exact ⟨h, h⟩

set_option maxRecDepth 100000 in
set_option maxHeartbeats 2000000 in
theorem NvmChoices.core (v0 v1 : Value) (xs : List Int) (l : List Stp) (bt : Int) (w : World) (hv : Rd w v0 (uw xs)) (hm : xs.length ≤ maxLen) (hs : RdS w v1 l) (hok : ∀ x ∈ l, x.Ok) (hml : l.length ≤ maxLen) (t0 : 0 ≤ bt) (t1 : bt ≤ 18446744073709551615) :
    Calls Try.prog 11 #[v0, v1, .int .u64 bt] w fun e w' => e = .returned (.bool true) ∧ Keep w.heap.size [] w w' := by
  have hmf : ∀ (fn : Fn) (first cap : Array Value) (w : World), (Instr.makeFunc fn first cap).run Try.prog w = .ok (.func fn first cap) w := fun _ _ _ _ => rfl
  simp only [maxLen] at hm hml
  obtain ⟨A, c, rfl, hrd⟩ := hv.cellAt
  obtain ⟨A1, c1, rfl, hrs⟩ := id hs
  have HS := Lib.hid ((Sep.start w []).new 25 #[.int .u64 bt])
  have HV := Lib.hid hv
  have HM := Lib.hid hs
  have HOK := Lib.hid hok
  clear hv hrd hs hok hrs
  by_cases hb : 40 < xs.length
  · have hbI : (40 : Int) < xs.length := by omega
    go_enter Try.func11, Try.ntmps11
    go_wp2_with fail
    refine (awake2_any _).mono ?_
    rintro e w1 ⟨rfl, hk⟩
    replace HS := Lib.hid (HS.out.grow hk)
    clear hk
    go_wp2
    go_ret
    exact ⟨rfl, HS.out.keep⟩
  have hx2 : ((40 : Int) < xs.length) = False := by rw [eq_iff_iff, iff_false]; omega
  have hx3 : (40 < xs.length) = False := by rw [eq_iff_iff, iff_false]; omega
  by_cases hb3 : 60 < l.length
  · have hbI : (60 : Int) < l.length := by omega
    go_enter Try.func11, Try.ntmps11
    go_wp2_with fail
    refine (awake2_any _).mono ?_
    rintro e w1 ⟨rfl, hk⟩
    replace HS := Lib.hid (HS.out.grow hk)
    clear hk
    go_wp2
    go_ret
    exact ⟨rfl, HS.out.keep⟩
  have hx4 : ((60 : Int) < l.length) = False := by rw [eq_iff_iff, iff_false]; omega
  have hx5 : (60 < l.length) = False := by rw [eq_iff_iff, iff_false]; omega
  go_enter Try.func11, Try.ntmps11
  go_wp2_with fail
  refine (awake2_any _).mono ?_
  rintro e w1 ⟨rfl, hk⟩
  replace HS := Lib.hid (HS.out.grow hk)
  clear hk
  go_wp2_with fail
  refine (new2_any _ xs _ (HV.out.keep HS.out.keep) (by omega)).mono ?_
  rintro e w1 ⟨a, rfl, hdb, hd, hk⟩
  replace HS := Lib.hid (HS.out.add hk (r := devR a _) hd hdb)
  clear hdb hd hk
  go_wp2_with fail
  refine (new2_any _ xs _ (HV.out.keep HS.out.keep) (by omega)).mono ?_
  rintro e w1 ⟨b, rfl, hdb, hd, hk⟩
  replace HS := Lib.hid (HS.out.add hk (r := devR b _) hd hdb)
  clear hdb hd hk
  go_wp2_with fail
  refine (makeM_any _ xs _ (HV.out.keep HS.out.keep) (by omega)).mono ?_
  rintro e w1 ⟨m, rfl, hdb, hd, hk⟩
  replace HS := Lib.hid (HS.out.add hk (r := mR m _) ⟨_, hd (-1) 0⟩ hdb)
  clear hdb hd hk
  go_wp2_with fail
  refine (makeM_any _ xs _ (HV.out.keep HS.out.keep) (by omega)).mono ?_
  rintro e w1 ⟨n, rfl, hdb, hd, hk⟩
  replace HS := Lib.hid (HS.out.add hk (r := mR n _) ⟨_, hd (-1) 0⟩ hdb)
  clear hdb hd hk
  go_wp2_with fail
  go_loopw [41] (fun v' wr => ∃ (j : Nat) (s : St), j ≤ l.length ∧ v' = .int .i64 (j : Int) ∧ s.l = -1 ∧ Sep w [] [blkR w.heap.size 25 #[.int .u64 bt], devR a s, devR b s, mR m s, mR n s] wr) (fun v' _ => l.length - (intOf v').toNat)
  case atStart => exact ⟨0, _, by omega, rfl, rfl, HS.out⟩
  case round =>
    clear HS
    obtain ⟨j, s, hj, rfl, hsl, hsr⟩ := hrel
    have HS := Lib.hid hsr
    have HSL := Lib.hid hsl
    clear hsr hsl
    by_cases hlt : j < l.length
    · have hjI : (j : Int) < l.length := by omega
      obtain ⟨x, hx⟩ : ∃ x, l[j]? = some x := ⟨_, List.getElem?_eq_getElem hlt⟩
      obtain ⟨u0, u1, u2, u3, u4, u5, u6, u7⟩ := HOK.out x (List.mem_of_getElem? hx)
      obtain ⟨A', c', hA, hr⟩ := HM.out.keep HS.out.keep
      injection hA with e1 e2 e3
      subst e1
      obtain ⟨g, off, rfl, k0, k1, k2, k3⟩ := hr j x hx
      obtain ⟨dO, at_, v, bt2⟩ := x
      simp only at k0 k1 k2 k3 u0 u1 u2 u3 u4 u5 u6 u7
      rw [show off + 4 * j = off + j * 4 by omega] at k0
      rw [show off + (4 * j + 1) = off + j * 4 + 1 by omega] at k1
      rw [show off + (4 * j + 2) = off + j * 4 + 2 by omega] at k2
      rw [show off + (4 * j + 3) = off + j * 4 + 3 by omega] at k3
      obtain ⟨i, hi⟩ := at_some s.now.length at_
      have HI := Lib.hid hi
      clear hx hr e2 e3 hi
      replace HS := Lib.hid (HS.out.new 58 #[.int .u8 dO, .int .u8 at_, .int .u64 v, .int .u64 bt2])
      go_wp2_with fail
      generalize wr.alloc _ = wa at *
      have hbx := HS.out.blk 5 rfl
      have hlt5 := hbx.lt
      generalize wr.heap.size = gx at *
      clear hbx hlt5
      refine (HS.out.do_free 1 3 dO at_ v bt2 i rfl rfl (by decide) u0 u1 u2 u3 u6 u7 HI.out (by rw [HSL.out]; decide)).mono ?_
      rintro e w2 ⟨rfl, hs2⟩
      replace HS := Lib.hid hs2
      have hbx := HS.out.blk 5 rfl
      have b0 := hbx.cell 0
      have b1 := hbx.cell 1
      have b2 := hbx.cell 2
      have b3 := hbx.cell 3
      simp at b0 b1 b2 b3
      clear hs2 hbx k0 k1 k2 k3
      go_wp2_with fail
      refine (HS.out.do_free 2 4 dO at_ v bt2 i rfl rfl (by decide) u0 u1 u2 u3 u6 u7 HI.out (by rw [HSL.out]; decide)).mono ?_
      rintro e w3 ⟨rfl, hs2⟩
      replace HS := Lib.hid hs2
      clear hs2 b0 b1 b2 b3
      go_wp2
      exact ⟨⟨j + 1, _, by omega, by go_num, by rw [stepTo_l]; exact HSL.out, HS.out.take 5⟩, by simp [intOf]; omega⟩
    · have hje : (l.length : Int) ≤ j := by omega
      go_wp2_with fail
      refine (kept_any a _ _ (HS.out.dev 1 rfl)).mono ?_
      rintro e w1 ⟨vk, gk, xk, rfl, hn⟩
      have vk_v := hn.val
      replace HS := Lib.hid (HS.out.add hn.keep (r := blkR gk _ _) hn.blk (by intro k hk; simp [blkR] at hk; subst hk; exact hn.new))
      clear hn
      rw [uw_length] at vk_v
      go_wp2_with fail
      refine (words_any b _ _ (HS.out.dev 2 rfl)).mono ?_
      rintro e w1 ⟨vn, gn, xn, rfl, hn⟩
      have vn_v := hn.val
      replace HS := Lib.hid (HS.out.add hn.keep (r := blkR gn _ _) hn.blk (by intro k hk; simp [blkR] at hk; subst hk; exact hn.new))
      clear hn
      rw [uw_length] at vn_v
      subst vk_v vn_v
      obtain ⟨lk, sm⟩ : s.kept.length = s.now.length ∧ s.now.length ≤ 1099511627776 := ⟨(HS.out.dev 1 rfl).lk, (HS.out.dev 1 rfl).small⟩
      have hz := crash_zero s lk
      have ht := crash_two s
      have HLK := Lib.hid lk
      have HZ := Lib.hid hz
      have HT := Lib.hid ht
      clear lk hz ht
      go_wp2_with fail
      refine (crash_const a s _ 0 _ (HS.out.dev 1 rfl) (enters_of Try.func46 (by kernel_rfl) rfl) (by decide) (by decide) choices0).mono ?_
      rintro e w1 ⟨rfl, hd, hk⟩
      replace HS := Lib.hid (HS.out.did (i := 1) rfl hd hk)
      clear hd hk
      go_wp2_with fail
      refine (crash_const b s _ 2 _ (HS.out.dev 2 rfl) (enters_of Try.func47 (by kernel_rfl) rfl) (by decide) (by decide) choices2).mono ?_
      rintro e w1 ⟨rfl, hd, hk⟩
      replace HS := Lib.hid (HS.out.did (i := 2) rfl hd hk)
      clear hd hk
      go_wp2_with fail
      refine (words_any a _ _ (HS.out.dev 1 rfl)).mono ?_
      rintro e w1 ⟨va, ga, xa, rfl, hn⟩
      have va_v := hn.val
      replace HS := Lib.hid (HS.out.add hn.keep (r := blkR ga _ _) hn.blk (by intro k hk; simp [blkR] at hk; subst hk; exact hn.new))
      clear hn
      rw [uw_length, HZ.out.1] at va_v
      rw [HZ.out.1] at HS
      subst va_v
      have hq : ∀ s' : St, s'.q = (fun _ => none) → s'.kept = s'.now → True := fun _ _ _ => trivial
      clear hq
      go_wp2_with fail
      refine (equal_any _ _ s.kept s.kept _ (Rd.of_uw (HS.out.blk 7 rfl)) (Rd.of_uw (HS.out.blk 5 rfl)) (by rw [HLK.out]; exact sm)).mono ?_
      rintro e w1 ⟨rfl, hk⟩
      replace HS := Lib.hid (HS.out.grow hk)
      clear hk
      rw [decide_eq_true rfl]
      go_wp2_with fail
      refine (words_any b _ _ (HS.out.dev 2 rfl)).mono ?_
      rintro e w1 ⟨vb, gb, xb, rfl, hn⟩
      have vb_v := hn.val
      replace HS := Lib.hid (HS.out.add hn.keep (r := blkR gb _ _) hn.blk (by intro k hk; simp [blkR] at hk; subst hk; exact hn.new))
      clear hn
      rw [uw_length, HT.out] at vb_v
      rw [HT.out] at HS
      subst vb_v
      go_wp2_with fail
      refine (equal_any _ _ s.now s.now _ (Rd.of_uw (HS.out.blk 8 rfl)) (Rd.of_uw (HS.out.blk 6 rfl)) sm).mono ?_
      rintro e w1 ⟨rfl, hk⟩
      replace HS := Lib.hid (HS.out.grow hk)
      clear hk
      rw [decide_eq_true rfl]
      go_wp2_with fail
      refine (crash_bits a _ _ _ bt _ (HS.out.dev 1 rfl) (enters_of Try.func48 (by kernel_rfl) rfl) (HS.out.blk 0 rfl) (HS.out.gd 0 1 rfl rfl (by decide)) (fun k w h => choices_bits k bt _ w t0 t1 h)).mono ?_
      rintro e w1 ⟨rfl, hd, hk⟩
      replace HS := Lib.hid (HS.out.did (i := 1) rfl hd hk)
      clear hd hk
      have hag := crash_again (s.crash fun _ => 0) (choiceOf bt) rfl rfl
      rw [HZ.out.1] at hag
      have HAG := Lib.hid hag
      clear hag
      go_wp2_with fail
      refine (words_any a _ _ (HS.out.dev 1 rfl)).mono ?_
      rintro e w1 ⟨vc, gc, xc, rfl, hn⟩
      have vc_v := hn.val
      replace HS := Lib.hid (HS.out.add hn.keep (r := blkR gc _ _) hn.blk (by intro k hk; simp [blkR] at hk; subst hk; exact hn.new))
      clear hn
      rw [uw_length, HAG.out.1] at vc_v
      rw [HAG.out.1] at HS
      subst vc_v
      go_wp2_with fail
      refine (equal_any _ _ s.kept s.kept _ (Rd.of_uw (HS.out.blk 9 rfl)) (Rd.of_uw (HS.out.blk 5 rfl)) (by rw [HLK.out]; exact sm)).mono ?_
      rintro e w1 ⟨rfl, hk⟩
      replace HS := Lib.hid (HS.out.grow hk)
      clear hk
      rw [decide_eq_true rfl]
      go_wp2_with fail
      refine (kept_any a _ _ (HS.out.dev 1 rfl)).mono ?_
      rintro e w1 ⟨vd, gd, xd, rfl, hn⟩
      have vd_v := hn.val
      replace HS := Lib.hid (HS.out.add hn.keep (r := blkR gd _ _) hn.blk (by intro k hk; simp [blkR] at hk; subst hk; exact hn.new))
      clear hn
      rw [uw_length, HAG.out.2] at vd_v
      rw [HAG.out.2] at HS
      subst vd_v
      go_wp2_with fail
      refine (equal_any _ _ s.kept s.kept _ (Rd.of_uw (HS.out.blk 10 rfl)) (Rd.of_uw (HS.out.blk 5 rfl)) (by rw [HLK.out]; exact sm)).mono ?_
      rintro e w1 ⟨rfl, hk⟩
      replace HS := Lib.hid (HS.out.grow hk)
      clear hk
      rw [decide_eq_true rfl]
      go_wp2
      go_ret
      exact ⟨rfl, HS.out.keep⟩

theorem NvmChoices.walk {v0 v1 : Value} {w : World} (xs : List Int) (hv : Rd w v0 (uw xs)) (_ : ∀ x ∈ xs, lowest .u64 ≤ x ∧ x ≤ greatest .u64) (hm : xs.length ≤ maxLen) (l : List Stp) (hs : RdS w v1 l) (hok : ∀ x ∈ l, x.Ok) (hml : l.length ≤ maxLen) (bt : Int) (t0 : lowest .u64 ≤ bt) (t1 : bt ≤ greatest .u64) :
    Calls Try.prog 11 #[v0, v1, .int .u64 bt] w fun e w' => e = .returned (.bool true) ∧ Below w.heap.size w w' := by
  simp [lowest, greatest] at t0 t1
  exact (NvmChoices.core v0 v1 xs l bt w hv hm hs hok hml t0 t1).mono fun e w' ⟨he, hk⟩ => ⟨he, hk.below⟩
end Go.Proofs.Ytanjmbjnpcekcaa
