/-
  The walk of tumuluslaw02.NvmLines.
-/
import Derived.Test.YtanjmbjnpcekcaaSt
import Derived.Test.YtanjmbjnpcekcaaOpen
set_option linter.unusedSimpArgs false
set_option linter.unusedVariables false
namespace Go.Proofs.Ytanjmbjnpcekcaa
open Go.RowKit Go.Shelf

/-- Nothing is to be kept; ks are kept. -/
structure Idle (s : St) (ks : List Int) : Prop where
  l : s.l = -1
  len : s.now.length = ks.length
  kept : s.kept = ks
  q : s.q = fun _ => none
theorem Idle.store {s : St} {ks : List Int} (h : Idle s ks) (j : Nat) (u : Int) : Idle (s.store j u) ks :=
  ⟨h.l, by simp [St.store, St.tick, h.len], h.kept, h.q⟩
theorem Idle.fence {s : St} {ks : List Int} (h : Idle s ks) : Idle s.fence ks :=
  ⟨h.l, h.len, by simp [St.fence, h.kept, h.q, fenced_none], rfl⟩

set_option maxRecDepth 100000 in
set_option maxHeartbeats 2000000 in
theorem NvmLines.core (v0 v1 : Value) (xs ms : List Int) (at_ v : Int) (w : World) (hv : Rd w v0 (uw xs)) (hm : xs.length ≤ maxLen) (a0 : 0 ≤ at_) (a1 : at_ ≤ 255) (hs : Rd w v1 (ms.map (Value.int .u8))) (hok : ∀ x ∈ ms, 0 ≤ x ∧ x ≤ 255) (hml : ms.length ≤ maxLen) :
    Calls Try.prog 12 #[v0, v1, .int .u8 at_, .int .u64 v] w fun e w' => e = .returned (.bool true) ∧ Keep w.heap.size [] w w' := by
  simp only [maxLen] at hm hml
  obtain ⟨A, c, rfl, hrd⟩ := hv.cellAt
  obtain ⟨A1, c1, rfl, hrs⟩ := hs.cells
  have HS := Lib.hid (Sep.start w [])
  have HV := Lib.hid hv
  have HM := Lib.hid hs
  have HOK := Lib.hid hok
  clear hv hrd hs hok hrs
  by_cases hb : 60 < xs.length
  · have hbI : (60 : Int) < xs.length := by omega
    go_enter Try.func12, Try.ntmps12
    go_wp2_with fail
    refine (awake2_any _).mono ?_
    rintro e w1 ⟨rfl, hk⟩
    replace HS := Lib.hid (HS.out.grow hk)
    clear hk
    go_wp2
    go_ret
    exact ⟨rfl, HS.out.keep⟩
  have hx2 : ((60 : Int) < xs.length) = False := by rw [eq_iff_iff, iff_false]; omega
  have hx3 : (60 < xs.length) = False := by rw [eq_iff_iff, iff_false]; omega
  by_cases hnil : xs.length = 0
  · have hx1 : ((xs.length : Int) == 0) = true := by rw [beq_iff_eq]; omega
    clear hnil hb
    go_enter Try.func12, Try.ntmps12
    go_wp2_with fail
    refine (awake2_any _).mono ?_
    rintro e w1 ⟨rfl, hk⟩
    replace HS := Lib.hid (HS.out.grow hk)
    clear hk
    go_wp2
    go_ret
    exact ⟨rfl, HS.out.keep⟩
  have hx1 : ((xs.length : Int) == 0) = false := by rw [beq_eq_false_iff_ne]; omega
  by_cases hb3 : 30 < ms.length
  · have hbI : (30 : Int) < ms.length := by omega
    go_enter Try.func12, Try.ntmps12
    go_wp2_with fail
    refine (awake2_any _).mono ?_
    rintro e w1 ⟨rfl, hk⟩
    replace HS := Lib.hid (HS.out.grow hk)
    clear hk
    go_wp2
    go_ret
    exact ⟨rfl, HS.out.keep⟩
  have hx4 : ((30 : Int) < ms.length) = False := by rw [eq_iff_iff, iff_false]; omega
  have hx5 : (30 < ms.length) = False := by rw [eq_iff_iff, iff_false]; omega
  obtain ⟨n, hn⟩ : ∃ n, (pad xs).length = n := ⟨_, rfl⟩
  have hn1 : 0 < n ∧ n ≤ 64 := by rw [← hn, pad_length]; omega
  obtain ⟨i, hi, hin, hie⟩ := tmod_some at_ n a0 hn1.1
  have HIE := Lib.hid hie
  clear hie
  have hnI : (0 : Int) < n := by omega
  have HN := Lib.hid hn
  clear hn
  go_enter Try.func12, Try.ntmps12
  go_wp2_with fail
  refine (awake2_any _).mono ?_
  rintro e w1 ⟨rfl, hk⟩
  replace HS := Lib.hid (HS.out.grow hk)
  clear hk
  go_wp2_with fail
  refine (new2_any _ xs _ (HV.out.keep HS.out.keep) (by omega)).mono ?_
  rintro e w1 ⟨d, rfl, hdb, hd, hk⟩
  replace HS := Lib.hid (HS.out.add hk (r := devR d _) hd hdb)
  clear hdb hd hk
  go_wp2_with fail
  refine (kept_any d _ _ (HS.out.dev 0 rfl)).mono ?_
  rintro e w1 ⟨va, ga, xa, rfl, hn⟩
  have va_v := hn.val
  replace HS := Lib.hid (HS.out.add hn.keep (r := blkR ga _ _) hn.blk (by intro k hk; simp [blkR] at hk; subst hk; exact hn.new))
  clear hn
  subst va_v
  rw [show (St.fresh (-1) 0 xs).kept = pad xs from rfl] at HS ⊢
  rw [show (uw (pad xs)).length = n by rw [← HN.out]; simp [uw]]
  go_wp2_with fail
  go_loopw [41] (fun v' wr => ∃ (j : Nat) (s : St), j ≤ ms.length ∧ v' = .int .i64 (j : Int) ∧ Idle s (pad xs) ∧ Sep w [] [devR d s, blkR ga 25 (uw (pad xs) ++ xa).toArray] wr) (fun v' _ => ms.length - (intOf v').toNat)
  case atStart => exact ⟨0, _, by omega, rfl, ⟨rfl, rfl, rfl, rfl⟩, HS.out⟩
  case round =>
    clear HS
    obtain ⟨j, s, hj, rfl, hfs, hsr⟩ := hrel
    have HFS := Lib.hid hfs
    have HS := Lib.hid hsr
    clear hfs hsr
    by_cases hlt : j < ms.length
    · have hjI : (j : Int) < ms.length := by omega
      obtain ⟨x, hx⟩ : ∃ x, ms[j]? = some x := ⟨_, List.getElem?_eq_getElem hlt⟩
      obtain ⟨x0, x1⟩ := HOK.out x (List.mem_of_getElem? hx)
      obtain ⟨A', c', hA, hr⟩ := (HM.out.keep HS.out.keep).cells
      injection hA with e1 e2 e3
      subst e1
      obtain ⟨g, off, rfl, k0⟩ := hr j hlt
      rw [show ms.getD j 0 = x by simp [List.getD_eq_getElem?_getD, hx]] at k0
      obtain ⟨m, hm', hmn, hme⟩ := tmod_some x n x0 hn1.1
      clear hx hr e2 e3 hme
      go_wp2_with fail
      refine (len_any d _ _ (HS.out.dev 0 rfl)).mono ?_
      rintro e w' ⟨rfl, rfl⟩
      rw [show s.now.length = n by rw [HFS.out.len]; exact HN.out]
      go_wp2_with fail
      refine (store_free d s m _ _ (HS.out.dev 0 rfl) (by rw [HFS.out.l]; decide) (by rw [HFS.out.len, HN.out]; exact hmn)).mono ?_
      rintro e w1 ⟨rfl, hd, hk⟩
      replace HS := Lib.hid (HS.out.did (i := 0) rfl hd hk)
      clear hd hk
      go_wp2
      exact ⟨⟨j + 1, _, by omega, by go_num, HFS.out.store m _, HS.out⟩, by simp [intOf]; omega⟩
    · have hje : (ms.length : Int) ≤ j := by omega
      go_wp2_with fail
      refine (fence_free d s _ (HS.out.dev 0 rfl) (by rw [HFS.out.l]; decide)).mono ?_
      rintro e w1 ⟨rfl, hd, hk⟩
      replace HS := Lib.hid (HS.out.did (i := 0) rfl hd hk)
      clear hd hk
      replace HFS := Lib.hid HFS.out.fence
      generalize s.fence = t at *
      go_wp2_with fail
      refine (kept_any d _ _ (HS.out.dev 0 rfl)).mono ?_
      rintro e w1 ⟨vb, gb, xb, rfl, hn⟩
      have vb_v := hn.val
      replace HS := Lib.hid (HS.out.add hn.keep (r := blkR gb _ _) hn.blk (by intro k hk; simp [blkR] at hk; subst hk; exact hn.new))
      clear hn
      rw [HFS.out.kept, show (uw (pad xs)).length = n by rw [uw_length]; exact HN.out] at vb_v
      rw [HFS.out.kept] at HS
      subst vb_v
      go_wp2_with fail
      refine (equal_any _ _ (pad xs) (pad xs) _ (by have := Rd.of_blk (n := n + xb.length) (HS.out.blk 2 rfl); rwa [uw_length, HN.out] at this) (by have := Rd.of_blk (n := n + xa.length) (HS.out.blk 1 rfl); rwa [uw_length, HN.out] at this) (by have := HN.out; omega)).mono ?_
      rintro e w1 ⟨rfl, hk⟩
      replace HS := Lib.hid (HS.out.grow hk)
      clear hk
      rw [decide_eq_true rfl]
      go_wp2_with fail
      refine (len_any d _ _ (HS.out.dev 0 rfl)).mono ?_
      rintro e w' ⟨rfl, rfl⟩
      rw [show t.now.length = n by rw [HFS.out.len]; exact HN.out]
      go_wp2_with fail
      refine (flush_free d t i _ (HS.out.dev 0 rfl) (by rw [HFS.out.l]; decide) (by rw [HFS.out.len, HN.out]; exact hin)).mono ?_
      rintro e w1 ⟨rfl, hd, hk⟩
      replace HS := Lib.hid (HS.out.did (i := 0) rfl hd hk)
      clear hd hk
      go_wp2_with fail
      refine (kept_any d _ _ (HS.out.dev 0 rfl)).mono ?_
      rintro e w1 ⟨vc, gc, xc, rfl, hn⟩
      have vc_v := hn.val
      replace HS := Lib.hid (HS.out.add hn.keep (r := blkR gc _ _) hn.blk (by intro k hk; simp [blkR] at hk; subst hk; exact hn.new))
      clear hn
      rw [show (t.flush i).kept = pad xs from HFS.out.kept, show (uw (pad xs)).length = n by rw [uw_length]; exact HN.out] at vc_v
      rw [show (t.flush i).kept = pad xs from HFS.out.kept] at HS
      subst vc_v
      go_wp2_with fail
      refine (equal_any _ _ (pad xs) (pad xs) _ (by have := Rd.of_blk (n := n + xc.length) (HS.out.blk 3 rfl); rwa [uw_length, HN.out] at this) (by have := Rd.of_blk (n := n + xa.length) (HS.out.blk 1 rfl); rwa [uw_length, HN.out] at this) (by have := HN.out; omega)).mono ?_
      rintro e w1 ⟨rfl, hk⟩
      replace HS := Lib.hid (HS.out.grow hk)
      clear hk
      rw [decide_eq_true rfl]
      go_wp2_with fail
      refine (fence_free d _ _ (HS.out.dev 0 rfl) (by show t.l < 0; rw [HFS.out.l]; decide)).mono ?_
      rintro e w1 ⟨rfl, hd, hk⟩
      replace HS := Lib.hid (HS.out.did (i := 0) rfl hd hk)
      clear hd hk
      obtain ⟨ks, hks⟩ : ∃ ks, (t.flush i).fence.kept = ks := ⟨_, rfl⟩
      obtain ⟨ns, hns⟩ : ∃ ns, t.now = ns := ⟨_, rfl⟩
      have hkl : ks.length = n := by rw [← hks]; show (fenced t.kept _).length = n; rw [fenced_length, HFS.out.kept, HN.out]
      have hnl : ns.length = n := by rw [← hns, HFS.out.len, HN.out]
      have hkk : ∀ k : Nat, k < n → ks.getD k 0 = if k / 8 = i / 8 then ns.getD k 0 else (pad xs).getD k 0 := by
        intro k hk
        rw [← hks]
        show (fenced t.kept (fun j => if j = i / 8 then some (line t.now (i / 8)) else t.q j)).getD k 0 = _
        rw [fenced_at _ _ _ (by rw [HFS.out.kept, HN.out]; exact hk), HFS.out.q, HFS.out.kept, hns]
        by_cases h8 : k / 8 = i / 8
        · simp only [h8, if_true]
          exact line_at _ _ _ h8
        · simp only [h8, if_false]
      have HKL := Lib.hid hkl
      have HNL := Lib.hid hnl
      have HKK := Lib.hid hkk
      have HKS := Lib.hid hks
      have HNS := Lib.hid hns
      clear hkl hnl hkk hks hns
      go_wp2_with fail
      refine (words_any d _ _ (HS.out.dev 0 rfl)).mono ?_
      rintro e w1 ⟨vn, gn, xn, rfl, hn⟩
      have vn_v := hn.val
      replace HS := Lib.hid (HS.out.add hn.keep (r := blkR gn _ _) hn.blk (by intro k hk; simp [blkR] at hk; subst hk; exact hn.new))
      clear hn
      rw [show (t.flush i).fence.now = ns from HNS.out, show (uw ns).length = n by rw [uw_length]; exact HNL.out] at vn_v
      rw [show (t.flush i).fence.now = ns from HNS.out] at HS
      subst vn_v
      go_wp2_with fail
      refine (kept_any d _ _ (HS.out.dev 0 rfl)).mono ?_
      rintro e w1 ⟨vk, gk, xk, rfl, hn⟩
      have vk_v := hn.val
      replace HS := Lib.hid (HS.out.add hn.keep (r := blkR gk _ _) hn.blk (by intro k hk; simp [blkR] at hk; subst hk; exact hn.new))
      clear hn
      rw [show (t.flush i).fence.kept = ks from HKS.out, show (uw ks).length = n by rw [uw_length]; exact HKL.out] at vk_v
      rw [show (t.flush i).fence.kept = ks from HKS.out] at HS
      subst vk_v
      go_wp2_with fail
      obtain ⟨wo, rfl⟩ : ∃ wo : World, wo = w1 := ⟨_, rfl⟩
      go_loopw [97] (fun v' wr2 => ∃ k : Nat, k ≤ n ∧ v' = .int .i64 (k : Int) ∧ Keep wo.heap.size [] wo wr2) (fun v' _ => n - (intOf v').toNat)
      case atStart => exact ⟨0, by omega, rfl, Keep.refl _ _ _⟩
      case round =>
        obtain ⟨k, hk, rfl, hkr⟩ := hrel
        have HR := Lib.hid (HS.out.grow hkr)
        have HKR := Lib.hid hkr
        clear hkr
        by_cases hlt2 : k < n
        · have hkI : (k : Int) < n := by omega
          have ca := Sep.blk HR.out 1 rfl
          have cn := Sep.blk HR.out 4 rfl
          have ck := Sep.blk HR.out 5 rfl
          have h1 := ca.cell k
          have h2 := cn.cell k
          have h3 := ck.cell k
          simp only [List.getElem?_toArray] at h1 h2 h3
          rw [List.getElem?_append_left (by rw [uw_length, HN.out]; exact hlt2), uw, List.getElem?_map, List.getElem?_eq_getElem (by rw [HN.out]; exact hlt2)] at h1
          rw [List.getElem?_append_left (by rw [uw_length, HNL.out]; exact hlt2), uw, List.getElem?_map, List.getElem?_eq_getElem (by rw [HNL.out]; exact hlt2)] at h2
          rw [List.getElem?_append_left (by rw [uw_length, HKL.out]; exact hlt2), uw, List.getElem?_map, List.getElem?_eq_getElem (by rw [HKL.out]; exact hlt2)] at h3
          simp only [Option.map_some] at h1 h2 h3
          have hq := HKK.out k hlt2
          rw [List.getD_eq_getElem?_getD, List.getElem?_eq_getElem (by rw [HKL.out]; exact hlt2), List.getD_eq_getElem?_getD, List.getElem?_eq_getElem (by rw [HNL.out]; exact hlt2), List.getD_eq_getElem?_getD, List.getElem?_eq_getElem (by rw [HN.out]; exact hlt2)] at hq
          simp only [Option.getD_some] at hq
          generalize ks[k]'(by rw [HKL.out]; exact hlt2) = kv at *
          generalize ns[k]'(by rw [HNL.out]; exact hlt2) = nv at *
          generalize (pad xs)[k]'(by rw [HN.out]; exact hlt2) = pv at *
          clear ca cn ck
          by_cases h8 : k / 8 = i / 8
          · have e8 : ((k : Int) / 8 == (i : Int) / 8) = true := by rw [beq_iff_eq]; omega
            obtain rfl : kv = nv := by simpa [h8] using hq
            clear hq h8
            go_wp2_with fail
            go_quiet (fail)
            go_wp2
            exact ⟨⟨k + 1, by omega, by go_num, HKR.out.drewN _⟩, by simp [intOf]; omega⟩
          · have e8 : ((k : Int) / 8 == (i : Int) / 8) = false := by rw [beq_eq_false_iff_ne]; omega
            obtain rfl : kv = pv := by simpa [h8] using hq
            clear hq h8
            go_wp2_with fail
            go_quiet (fail)
            go_wp2
            exact ⟨⟨k + 1, by omega, by go_num, HKR.out.drewN _⟩, by simp [intOf]; omega⟩
        · have hkI : (n : Int) ≤ k := by omega
          go_wp2
          go_ret
          exact ⟨rfl, HR.out.keep⟩

theorem NvmLines.walk {v0 v1 : Value} {w : World} (xs : List Int) (hv : Rd w v0 (uw xs)) (_ : ∀ x ∈ xs, lowest .u64 ≤ x ∧ x ≤ greatest .u64) (hm : xs.length ≤ maxLen) (ms : List Int) (hs : Rd w v1 (ms.map (Value.int .u8))) (hok : ∀ x ∈ ms, lowest .u8 ≤ x ∧ x ≤ greatest .u8) (hml : ms.length ≤ maxLen) (at_ : Int) (a0 : lowest .u8 ≤ at_) (a1 : at_ ≤ greatest .u8) (v : Int) (_ : lowest .u64 ≤ v) (_ : v ≤ greatest .u64) :
    Calls Try.prog 12 #[v0, v1, .int .u8 at_, .int .u64 v] w fun e w' => e = .returned (.bool true) ∧ Below w.heap.size w w' := by
  simp [lowest, greatest] at a0 a1
  exact (NvmLines.core v0 v1 xs ms at_ v w hv hm a0 a1 hs (fun x hx => by have := hok x hx; simpa [lowest, greatest] using this) hml).mono fun e w' ⟨he, hk⟩ => ⟨he, hk.below⟩
end Go.Proofs.Ytanjmbjnpcekcaa
