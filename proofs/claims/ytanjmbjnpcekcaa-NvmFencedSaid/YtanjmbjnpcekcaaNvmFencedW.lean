/-
  The walk of tumuluslaw02.NvmFenced.
-/
import Derived.Test.YtanjmbjnpcekcaaSt
import Derived.Test.YtanjmbjnpcekcaaOpen
set_option linter.unusedSimpArgs false
set_option linter.unusedVariables false
namespace Go.Proofs.Ytanjmbjnpcekcaa
open Go.RowKit Go.Shelf

theorem fenced_one (k : Nat) (b : Int) (g : Nat) (w : World) (b0 : 0 ≤ b) (b1 : b ≤ 18446744073709551615) (hk : k ≤ 1099511627776) (hc : w.cell? ⟨g, 0, none⟩ = some (.int .u64 b)) :
    Calls Try.prog 45 #[.int .i64 k, .pointer (some ⟨g, 0, none⟩)] w fun e w' => e = .returned (.int .u8 (choiceOf b k)) ∧ w = w' := by
  have hch := choice_any b k w b0 b1 hk
  go_enter Try.func45, Try.ntmps45
  go_wp2_with fail
  refine hch.mono ?_
  rintro e w' ⟨rfl, rfl⟩
  go_wp2
  go_ret
  exact ⟨rfl, rfl⟩

/-- Word i is v, kept, and nothing is to be kept. -/
structure Fast (s : St) (n i : Nat) (v : Int) : Prop where
  l : s.l = -1
  len : s.now.length = n
  lk : s.kept.length = n
  now : s.now.getD i 0 = v
  kept : s.kept.getD i 0 = v
  q : s.q = fun _ => none

theorem Fast.start (xs : List Int) (i : Nat) (v : Int) (hi : i < (pad xs).length) : Fast ((((St.fresh (-1) 0 xs).store i v).flush i).fence) (pad xs).length i v := by
  have hn : (((St.fresh (-1) 0 xs).store i v).flush i).now = (pad xs).set i v := rfl
  refine ⟨rfl, by simp [St.fence, St.tick, hn], by simp [St.fence, fenced_length, St.flush, St.store, St.fresh, St.tick], ?_, ?_, rfl⟩
  · show ((pad xs).set i v).getD i 0 = v
    simp [List.getD_eq_getElem?_getD, hi]
  · show (fenced (pad xs) (((St.fresh (-1) 0 xs).store i v).flush i).q).getD i 0 = v
    rw [fenced_at _ _ _ hi]
    have : (((St.fresh (-1) 0 xs).store i v).flush i).q (i / 8) = some (line ((pad xs).set i v) (i / 8)) := by
      simp [St.flush, St.store, St.fresh, St.tick]
    rw [this]
    simp only
    rw [line_at _ _ _ rfl]
    simp [List.getD_eq_getElem?_getD, hi]

theorem Fast.store {s : St} {n i : Nat} {v : Int} (h : Fast s n i v) (j : Nat) (u : Int) (hj : j ≠ i) : Fast (s.store j u) n i v := by
  refine ⟨h.l, by simp [St.store, St.tick, h.len], h.lk, ?_, h.kept, h.q⟩
  show (s.now.set j u).getD i 0 = v
  rw [List.getD_eq_getElem?_getD, List.getElem?_set_ne hj, ← List.getD_eq_getElem?_getD]
  exact h.now

theorem Fast.crash {s : St} {n i : Nat} {v : Int} (h : Fast s n i v) (ch : Nat → Int) (hi : i < n) : wordAt (s.crash ch).now i = v := by
  have h2 := leftTo_get s ch s.now.length i
  have e : left s ch i = v := by
    unfold left
    rw [h.q]
    simp only
    split
    · exact h.kept
    · split
      · exact h.now
      · exact h.kept
  have hl := h.len
  simp only [show i < s.now.length by omega, if_true, e] at h2
  simp [wordAt, St.crash, List.getD_eq_getElem?_getD, h2]

set_option maxRecDepth 100000 in
set_option maxHeartbeats 2000000 in
theorem NvmFenced.core (v0 v4 : Value) (xs ms : List Int) (at_ v bt : Int) (w : World) (hv : Rd w v0 (uw xs)) (hm : xs.length ≤ maxLen) (a0 : 0 ≤ at_) (a1 : at_ ≤ 255) (t0 : 0 ≤ bt) (t1 : bt ≤ 18446744073709551615) (hs : Rd w v4 (ms.map (Value.int .u8))) (hok : ∀ x ∈ ms, 0 ≤ x ∧ x ≤ 255) (hml : ms.length ≤ maxLen) :
    Calls Try.prog 10 #[v0, .int .u8 at_, .int .u64 v, .int .u64 bt, v4] w fun e w' => e = .returned (.bool true) ∧ Keep w.heap.size [] w w' := by
  have hmf : ∀ (fn : Fn) (first cap : Array Value) (w : World), (Instr.makeFunc fn first cap).run Try.prog w = .ok (.func fn first cap) w := fun _ _ _ _ => rfl
  simp only [maxLen] at hm hml
  obtain ⟨A, c, rfl, hrd⟩ := hv.cellAt
  obtain ⟨A1, c1, rfl, hrs⟩ := hs.cells
  have HS := Lib.hid ((Sep.start w []).new 25 #[.int .u64 bt])
  have HV := Lib.hid hv
  have HM := Lib.hid hs
  have HOK := Lib.hid hok
  clear hv hrd hs hok hrs
  by_cases hb : 40 < xs.length
  · have hbI : (40 : Int) < xs.length := by omega
    go_enter Try.func10, Try.ntmps10
    go_wp2_with fail
    refine (awake2_any _).mono ?_
    rintro e w1 ⟨rfl, hk⟩
    replace HS := Lib.hid (HS.out.grow hk)
    clear hk
    go_wp2
    go_ret
    exact ⟨rfl, HS.out.keep⟩
  have hx2 : ((40 : Int) < xs.length) = False := by rw [eq_iff_iff, iff_false]; omega
  have hx3 : (40 < xs.length) = False := by rw [eq_iff_iff, iff_false]; omega
  by_cases hnil : xs.length = 0
  · have hx1 : ((xs.length : Int) == 0) = true := by rw [beq_iff_eq]; omega
    clear hnil hb
    go_enter Try.func10, Try.ntmps10
    go_wp2_with fail
    refine (awake2_any _).mono ?_
    rintro e w1 ⟨rfl, hk⟩
    replace HS := Lib.hid (HS.out.grow hk)
    clear hk
    go_wp2
    go_ret
    exact ⟨rfl, HS.out.keep⟩
  have hx1 : ((xs.length : Int) == 0) = false := by rw [beq_eq_false_iff_ne]; omega
  by_cases hb3 : 20 < ms.length
  · have hbI : (20 : Int) < ms.length := by omega
    go_enter Try.func10, Try.ntmps10
    go_wp2_with fail
    refine (awake2_any _).mono ?_
    rintro e w1 ⟨rfl, hk⟩
    replace HS := Lib.hid (HS.out.grow hk)
    clear hk
    go_wp2
    go_ret
    exact ⟨rfl, HS.out.keep⟩
  have hx4 : ((20 : Int) < ms.length) = False := by rw [eq_iff_iff, iff_false]; omega
  have hx5 : (20 < ms.length) = False := by rw [eq_iff_iff, iff_false]; omega
  obtain ⟨n, hn⟩ : ∃ n, (pad xs).length = n := ⟨_, rfl⟩
  have hn1 : 0 < n ∧ n ≤ 40 := by rw [← hn, pad_length]; omega
  obtain ⟨i, hi⟩ : ∃ i : Nat, at_.tmod n = i := by
    rw [Int.tmod_eq_emod_of_nonneg a0]
    exact ⟨(at_ % n).toNat, (Int.toNat_of_nonneg (Int.emod_nonneg at_ (show (n : Int) ≠ 0 by omega))).symm⟩
  have hin : i < n := by
    have h1 := Int.emod_lt_of_pos at_ (b := n) (by omega)
    rw [Int.tmod_eq_emod_of_nonneg a0] at hi
    rw [hi] at h1
    omega
  have hnI : (0 : Int) < n := by omega
  have HN := Lib.hid hn
  clear hn
  go_enter Try.func10, Try.ntmps10
  go_wp2_with fail
  refine (awake2_any _).mono ?_
  rintro e w1 ⟨rfl, hk⟩
  replace HS := Lib.hid (HS.out.grow hk)
  clear hk
  go_wp2_with fail
  refine (new2_any _ xs _ (HV.out.keep HS.out.keep) (by omega)).mono ?_
  rintro e w1 ⟨d, rfl, hdb, hd, hk⟩
  replace HS := Lib.hid (HS.out.add hk (r := devR d _) hd hdb)
  clear hdb hd hk
  go_wp2_with fail
  refine (len_any d _ _ (HS.out.dev 1 rfl)).mono ?_
  rintro e w' ⟨rfl, rfl⟩
  rw [show (St.fresh (-1) 0 xs).now.length = n from HN.out]
  go_wp2_with fail
  refine (store_free d _ i v _ (HS.out.dev 1 rfl) (by show (-1 : Int) < 0; decide) (by show i < (pad xs).length; have := HN.out; omega)).mono ?_
  rintro e w1 ⟨rfl, hd, hk⟩
  replace HS := Lib.hid (HS.out.did (i := 1) rfl hd hk)
  clear hd hk
  go_wp2_with fail
  refine (flush_free d _ i _ (HS.out.dev 1 rfl) (by show (-1 : Int) < 0; decide) (by show i < ((pad xs).set i v).length; rw [List.length_set]; have := HN.out; omega)).mono ?_
  rintro e w1 ⟨rfl, hd, hk⟩
  replace HS := Lib.hid (HS.out.did (i := 1) rfl hd hk)
  clear hd hk
  go_wp2_with fail
  refine (fence_free d _ _ (HS.out.dev 1 rfl) (by show (-1 : Int) < 0; decide)).mono ?_
  rintro e w1 ⟨rfl, hd, hk⟩
  replace HS := Lib.hid (HS.out.did (i := 1) rfl hd hk)
  clear hd hk
  have hf5 := Fast.start xs i v (by have := HN.out; omega)
  rw [HN.out] at hf5
  have HF5 := Lib.hid hf5
  clear hf5
  go_wp2_with fail
  go_loopw [51] (fun v' wr => ∃ (j : Nat) (s : St), j ≤ ms.length ∧ v' = .int .i64 (j : Int) ∧ Fast s n i v ∧ Sep w [] [blkR w.heap.size 25 #[.int .u64 bt], devR d s] wr) (fun v' _ => ms.length - (intOf v').toNat)
  case atStart => exact ⟨0, _, by omega, rfl, HF5.out, HS.out⟩
  case round =>
    clear HS
    obtain ⟨j, s, hj, rfl, hfs, hsr⟩ := hrel
    by_cases hlt : j < ms.length
    · have hjI : (j : Int) < ms.length := by omega
      obtain ⟨x, hx⟩ : ∃ x, ms[j]? = some x := ⟨_, List.getElem?_eq_getElem hlt⟩
      have hxo := HOK.out x (List.mem_of_getElem? hx)
      obtain ⟨A', c', hA, hr⟩ := (HM.out.keep hsr.keep).cells
      injection hA with e1 e2 e3
      subst e1
      obtain ⟨g, off, rfl, k0⟩ := hr j hlt
      have hxd : ms.getD j 0 = x := by simp [List.getD_eq_getElem?_getD, hx]
      rw [hxd] at k0
      obtain ⟨m, hm'⟩ : ∃ m : Nat, x.tmod n = m := by
        rw [Int.tmod_eq_emod_of_nonneg hxo.1]
        exact ⟨(x % n).toNat, (Int.toNat_of_nonneg (Int.emod_nonneg x (show (n : Int) ≠ 0 by omega))).symm⟩
      have hmn : m < n := by
        have h1 := Int.emod_lt_of_pos x (b := n) (by omega)
        rw [Int.tmod_eq_emod_of_nonneg hxo.1] at hm'
        rw [hm'] at h1
        omega
      obtain ⟨x0, x1⟩ := hxo
      have HFS := Lib.hid hfs
      have HS := Lib.hid hsr
      have HX := Lib.hid hx
      clear hfs hsr hx hr e2 e3 hxd
      go_wp2_with fail
      refine (len_any d _ _ (HS.out.dev 1 rfl)).mono ?_
      rintro e w' ⟨rfl, rfl⟩
      rw [HFS.out.len]
      by_cases hmi : m = i
      · have hne : ((m : Int) == i) = true := by rw [beq_iff_eq]; omega
        have hne2 : ((m : Int) != i) = false := by simp [bne, hne]
        clear hmi
        go_wp2
        exact ⟨⟨j + 1, s, by omega, by go_num, HFS.out, HS.out⟩, by simp [intOf]; omega⟩
      · have hne : ((m : Int) == i) = false := by rw [beq_eq_false_iff_ne]; omega
        have hne2 : ((m : Int) != i) = true := by simp [bne, hne]
        go_wp2_with fail
        refine (store_free d s m _ _ (HS.out.dev 1 rfl) (by rw [HFS.out.l]; decide) (by rw [HFS.out.len]; exact hmn)).mono ?_
        rintro e w1 ⟨rfl, hd, hk⟩
        replace HS := Lib.hid (HS.out.did (i := 1) rfl hd hk)
        clear hd hk
        go_wp2
        exact ⟨⟨j + 1, _, by omega, by go_num, HFS.out.store m _ hmi, HS.out⟩, by simp [intOf]; omega⟩
    · have hje : (ms.length : Int) ≤ j := by omega
      have HFS := Lib.hid hfs
      have HS := Lib.hid hsr
      clear hfs hsr
      go_wp2_with fail
      refine (crash_bits d s _ _ bt _ (HS.out.dev 1 rfl) (enters_of Try.func45 (by kernel_rfl) rfl) (HS.out.blk 0 rfl) (HS.out.gd 0 1 rfl rfl (by decide)) (fun k w h => fenced_one k bt _ w t0 t1 h)).mono ?_
      rintro e w1 ⟨rfl, hd, hk⟩
      replace HS := Lib.hid (HS.out.did (i := 1) rfl hd hk)
      clear hd hk
      go_wp2_with fail
      refine (load_any d _ _ _ (HS.out.dev 1 rfl)).mono ?_
      rintro e w' ⟨rfl, rfl⟩
      rw [HFS.out.crash _ hin]
      go_wp2_with fail
      refine (words_any d _ _ (HS.out.dev 1 rfl)).mono ?_
      rintro e w1 ⟨va, ga, xa, rfl, hn⟩
      have va_v := hn.val
      replace HS := Lib.hid (HS.out.add hn.keep (r := blkR ga _ _) hn.blk (by intro k hk; simp [blkR] at hk; subst hk; exact hn.new))
      clear hn
      subst va_v
      go_wp2_with fail
      refine (kept_any d _ _ (HS.out.dev 1 rfl)).mono ?_
      rintro e w1 ⟨vb, gb, xb, rfl, hn⟩
      have vb_v := hn.val
      replace HS := Lib.hid (HS.out.add hn.keep (r := blkR gb _ _) hn.blk (by intro k hk; simp [blkR] at hk; subst hk; exact hn.new))
      clear hn
      subst vb_v
      go_wp2_with fail
      refine (equal_any _ _ _ _ _ (Rd.of_blk (HS.out.blk 2 rfl)) (Rd.of_blk (HS.out.blk 3 rfl)) (HS.out.dev 1 rfl).small).mono ?_
      rintro e w1 ⟨rfl, hk⟩
      replace HS := Lib.hid (HS.out.grow hk)
      clear hk
      rw [show decide ((s.crash (choiceOf bt)).now = (s.crash (choiceOf bt)).kept) = true from decide_eq_true rfl]
      go_wp2
      go_ret
      exact ⟨by simp, HS.out.keep⟩

theorem NvmFenced.walk {v0 v4 : Value} {w : World} (xs : List Int) (hv : Rd w v0 (uw xs)) (_ : ∀ x ∈ xs, lowest .u64 ≤ x ∧ x ≤ greatest .u64) (hm : xs.length ≤ maxLen) (at_ : Int) (a0 : lowest .u8 ≤ at_) (a1 : at_ ≤ greatest .u8) (v : Int) (_ : lowest .u64 ≤ v) (_ : v ≤ greatest .u64) (bt : Int) (t0 : lowest .u64 ≤ bt) (t1 : bt ≤ greatest .u64) (ms : List Int) (hs : Rd w v4 (ms.map (Value.int .u8))) (hok : ∀ x ∈ ms, lowest .u8 ≤ x ∧ x ≤ greatest .u8) (hml : ms.length ≤ maxLen) :
    Calls Try.prog 10 #[v0, .int .u8 at_, .int .u64 v, .int .u64 bt, v4] w fun e w' => e = .returned (.bool true) ∧ Below w.heap.size w w' := by
  simp [lowest, greatest] at a0 a1 t0 t1
  exact (NvmFenced.core v0 v4 xs ms at_ v bt w hv hm a0 a1 t0 t1 hs (fun x hx => by have := hok x hx; simpa [lowest, greatest] using this) hml).mono fun e w' ⟨he, hk⟩ => ⟨he, hk.below⟩
end Go.Proofs.Ytanjmbjnpcekcaa
