/-
  The walk of tumuluslaw02.NvmSteps.
-/
import Derived.Test.YtanjmbjnpcekcaaSepM
set_option linter.unusedSimpArgs false
set_option linter.unusedVariables false
namespace Go.Proofs.Ytanjmbjnpcekcaa
open Go.RowKit Go.Shelf

def stepsL (d : DevI) (m : MI) (s : St) (g8 g9 g12 g13 gx : Nat) (dO at_ v bt : Int) : List Res :=
  [devR d s, mR m s, blkR g8 26 #[.pointer (some ⟨d.b, 0, none⟩)], blkR g9 54 #[.pointer (some ⟨m.b, 0, none⟩)], blkR g12 58 #[.int .u8 dO, .int .u8 at_, .int .u64 v, .int .u64 bt], blkR g13 4 #[.bool true], blkR gx 4 #[.bool false]]

theorem stepTo_len (s : St) (dO v bt i : Int) : (stepTo s dO v bt i).now.length = s.now.length := by
  unfold stepTo
  split
  · split <;> rfl
  · split
    · rfl
    · split
      · simp [St.crash, leftTo_length]
      · split
        · simp [St.store, St.tick]
        · rfl
theorem stepTo_u (s : St) (dO v bt i : Int) (h : ticks s.now.length dO i) : (stepTo s dO v bt i).u = wrap64 (s.u + 1) := by
  unfold stepTo
  unfold ticks at h
  split
  · rw [if_pos (by omega)]; rfl
  · split
    · rfl
    · rw [if_neg (by omega), if_pos (by omega)]; rfl

set_option maxHeartbeats 800000 in
theorem steps_body {W w : World} (d : DevI) (m : MI) (s : St) (g8 g9 g12 g13 gx : Nat) (dO at_ v bt i : Int) (hs : Sep W [] (stepsL d m s g8 g9 g12 g13 gx dO at_ v bt) w)
    (d0 : 0 ≤ dO) (d1 : dO ≤ 255) (a0 : 0 ≤ at_) (a1 : at_ ≤ 255) (b0 : 0 ≤ bt) (b1 : bt ≤ 18446744073709551615) (hA : At s.now.length at_ i) :
    Calls Try.prog 42 #[.pointer (some ⟨g9, 0, none⟩), .pointer (some ⟨g8, 0, none⟩), .pointer (some ⟨g12, 0, none⟩), .pointer (some ⟨g13, 0, none⟩)] w fun e w1 =>
      ((∃ v, e = .returned v) ∧ ¬ (ticks s.now.length dO i ∧ s.goes) ∧ Sep W [] (stepsL d m (stepTo s dO v bt i) g8 g9 g12 g13 gx dO at_ v bt) w1) ∨ (e = offE ∧ (ticks s.now.length dO i ∧ s.goes) ∧ Sep W [] (stepsL d m s g8 g9 g12 g13 gx dO at_ v bt) w1) := by
  have HS := Lib.hid hs
  have c8 := (hs.blk 2 rfl).one
  have c9 := (hs.blk 3 rfl).one
  have hb12 := hs.blk 4 rfl
  have k0 := hb12.cell 0
  have k1 := hb12.cell 1
  have k2 := hb12.cell 2
  have k3 := hb12.cell 3
  simp at k0 k1 k2 k3
  have HA := Lib.hid hA
  clear hs hb12 hA
  go_enter Try.func42, Try.ntmps42
  go_wp2_with fail
  refine (HS.out.do_ 0 1 dO at_ v bt i rfl rfl (by decide) d0 d1 a0 a1 b0 b1 HA.out).mono ?_
  rintro e w2 (⟨hg, rfl, hs2⟩ | ⟨hg, rfl, hs2⟩)
  · have hb := hs2.blk 5 rfl
    have c13 := hb.one
    have f13 := hb.frozen 0
    have HG := Lib.hid hg
    have HS2 := Lib.hid hs2
    clear hg hs2 hb c8 c9 k0 k1 k2 k3 HS
    go_wp2
    go_end0
    exact .inl ⟨⟨_, rfl⟩, HG.out, HS2.out.put (i := 5) rfl 0 (.bool true)⟩
  · have HG := Lib.hid hg
    have HS2 := Lib.hid hs2
    clear hg hs2 c8 c9 k0 k1 k2 k3 HS
    unfold offE
    go_wp2
    exact ⟨rfl, .inr ⟨rfl, HG.out, HS2.out⟩⟩

set_option maxRecDepth 100000 in
set_option maxHeartbeats 2000000 in
theorem NvmSteps.core (v0 v1 : Value) (xs : List Int) (l : List Stp) (lim : Int) (w : World) (hv : Rd w v0 (uw xs)) (hm : xs.length ≤ maxLen) (hs : RdS w v1 l) (hok : ∀ x ∈ l, x.Ok) (hml : l.length ≤ maxLen) (t0 : 0 ≤ lim) (t1 : lim ≤ 255) :
    Calls Try.prog 9 #[v0, v1, .int .u8 lim] w fun e w' => e = .returned (.bool true) ∧ Keep w.heap.size [] w w' := by
  have hmf : ∀ (fn : Fn) (first cap : Array Value) (w : World), (Instr.makeFunc fn first cap).run Try.prog w = .ok (.func fn first cap) w := fun _ _ _ _ => rfl
  simp only [maxLen] at hm hml
  obtain ⟨A, c, rfl, hrd⟩ := hv.cellAt
  obtain ⟨A1, c1, rfl, hrs⟩ := id hs
  have HS := Lib.hid (Sep.start w [])
  have HV := Lib.hid hv
  have HM := Lib.hid hs
  have HOK := Lib.hid hok
  clear hv hrd hs hok hrs
  by_cases hb : 40 < xs.length
  · have hbI : (40 : Int) < xs.length := by omega
    go_enter Try.func9, Try.ntmps9
    go_wp2_with fail
    refine (awake2_any _).mono ?_
    rintro e w1 ⟨rfl, hk⟩
    replace HS := Lib.hid (HS.out.grow hk)
    clear hk
    go_wp2
    go_ret
    exact ⟨rfl, HS.out.keep⟩
  have hx2 : ((40 : Int) < xs.length) = False := by rw [eq_iff_iff, iff_false]; omega
  have hx3 : (40 < xs.length) = False := by rw [eq_iff_iff, iff_false]; omega
  by_cases hb3 : 60 < l.length
  · have hbI : (60 : Int) < l.length := by omega
    go_enter Try.func9, Try.ntmps9
    go_wp2_with fail
    refine (awake2_any _).mono ?_
    rintro e w1 ⟨rfl, hk⟩
    replace HS := Lib.hid (HS.out.grow hk)
    clear hk
    go_wp2
    go_ret
    exact ⟨rfl, HS.out.keep⟩
  have hx4 : ((60 : Int) < l.length) = False := by rw [eq_iff_iff, iff_false]; omega
  have hx5 : (60 < l.length) = False := by rw [eq_iff_iff, iff_false]; omega
  by_cases hnil : xs.length = 0
  · have hx1 : ((xs.length : Int) == 0) = true := by rw [beq_iff_eq]; omega
    clear hnil hb
    go_enter Try.func9, Try.ntmps9
    go_wp2_with fail
    refine (awake2_any _).mono ?_
    rintro e w1 ⟨rfl, hk⟩
    replace HS := Lib.hid (HS.out.grow hk)
    clear hk
    go_wp2
    go_ret
    exact ⟨rfl, HS.out.keep⟩
  have hx1 : ((xs.length : Int) == 0) = false := by rw [beq_eq_false_iff_ne]; omega
  obtain ⟨n, hn⟩ : ∃ n, (pad xs).length = n := ⟨_, rfl⟩
  have hn1 : 0 < n ∧ n ≤ 40 := by rw [← hn, pad_length]; omega
  obtain ⟨lm, hlm, hlm2, _⟩ := tmod_some lim 40 t0 (by decide)
  have HN := Lib.hid hn
  have HLM := Lib.hid hlm
  clear hn hlm
  have hlm : lim.tmod 40 = (lm : Int) := HLM.out
  go_enter Try.func9, Try.ntmps9
  go_wp2_with fail
  refine (awake2_any _).mono ?_
  rintro e w1 ⟨rfl, hk⟩
  replace HS := Lib.hid (HS.out.grow hk)
  clear hk
  go_wp2_with fail
  refine (pnew_any _ _).mono ?_
  rintro e wa ⟨rfl, hw⟩
  have hs1 := HS.out.new 80 #[.int .i64 lm, .int .i64 0]
  rw [← hw] at hs1
  replace HS := Lib.hid hs1
  clear hs1 hw
  generalize w1.heap.size = gp at *
  go_wp2_with fail
  refine (new_any gp lm 0 _ xs _ (HS.out.blk 0 rfl) (HV.out.keep HS.out.keep) (by omega)).mono ?_
  rintro e w1 ⟨d, rfl, hdp, hdb, hd, hk⟩
  replace HS := Lib.hid (HS.out.step (i := 0) rfl (hk.sub (by simp)) (r' := devR d _) hd (by intro k hm; by_cases hkp : k = d.p; exact .inl (by simp [blkR, hkp, hdp]); exact .inr (hdb k hm (by rw [← hdp]; exact hkp))))
  have HDPd := Lib.hid hdp
  clear hdp hdb hd hk
  go_wp2_with fail
  refine (makeM_any _ xs _ (HV.out.keep HS.out.keep) (by omega)).mono ?_
  rintro e w2 ⟨m, rfl, hdb, hd, hk⟩
  replace HS := Lib.hid ((HS.out.add hk (r := mR m (St.fresh lm 0 xs)) ⟨_, hd lm 0⟩ hdb).new 26 #[.pointer (some ⟨d.b, 0, none⟩)])
  obtain ⟨g8, h8⟩ : ∃ g, g = w2.heap.size := ⟨_, rfl⟩
  have hs2 := HS.out.new 54 #[.pointer (some ⟨m.b, 0, none⟩)]
  simp only [World.size_alloc] at hs2
  rw [← h8] at hs2
  replace HS := Lib.hid hs2
  have H8 := Lib.hid h8
  clear hdb hd hk hs2 h8
  go_wp2_with fail
  rw [← H8.out]
  go_loopw [10, 47] (fun v0' v' wr => ∃ (j U : Nat) (s : St), j ≤ l.length ∧ v' = .int .i64 (j : Int) ∧ v0' = .int .i64 (U : Int) ∧ U ≤ lm ∧ s.l = lm ∧ s.u = U ∧ s.now.length = n ∧ Sep w [] [devR d s, mR m s, blkR g8 26 #[.pointer (some ⟨d.b, 0, none⟩)], blkR (g8 + 1) 54 #[.pointer (some ⟨m.b, 0, none⟩)]] wr) (fun _ v' _ => l.length - (intOf v').toNat)
  case atStart => exact ⟨0, 0, _, by omega, rfl, rfl, by omega, rfl, rfl, HN.out, HS.out⟩
  case round =>
    clear HS H8
    obtain ⟨j, U, s, hj, rfl, rfl, hU, hsl, hsu, hsn, hsr⟩ := hrel
    have HS := Lib.hid hsr
    have HSL := Lib.hid hsl
    have HSU := Lib.hid hsu
    have HSN := Lib.hid hsn
    clear hsr hsl hsu hsn
    by_cases hlt : j < l.length
    · have hjI : (j : Int) < l.length := by omega
      obtain ⟨x, hx⟩ : ∃ x, l[j]? = some x := ⟨_, List.getElem?_eq_getElem hlt⟩
      obtain ⟨u0, u1, u2, u3, u4, u5, u6, u7⟩ := HOK.out x (List.mem_of_getElem? hx)
      obtain ⟨A', c', hA, hr⟩ := HM.out.keep HS.out.keep
      injection hA with e1 e2 e3
      subst e1
      obtain ⟨g, off, rfl, k0, k1, k2, k3⟩ := hr j x hx
      obtain ⟨dO, at_, v, bt2⟩ := x
      simp only at k0 k1 k2 k3 u0 u1 u2 u3 u4 u5 u6 u7
      rw [show off + 4 * j = off + j * 4 by omega] at k0
      rw [show off + (4 * j + 1) = off + j * 4 + 1 by omega] at k1
      rw [show off + (4 * j + 2) = off + j * 4 + 2 by omega] at k2
      rw [show off + (4 * j + 3) = off + j * 4 + 3 by omega] at k3
      clear hx hr e2 e3
      obtain ⟨a2, ha2⟩ : ∃ a2, 11 + at_ % 100 = a2 := ⟨_, rfl⟩
      by_cases h6 : dO % 7 = 6
      · have hq : (dO % 7 == 6) = true := by rw [beq_iff_eq]; exact h6
        clear h6
        go_wp2_with fail
        exact ⟨⟨j + 1, U, s, by omega, by go_num, rfl, hU, HSL.out, HSU.out, HSN.out, HS.out.alloc _⟩, by simp [intOf]; omega⟩
      · have hq : (dO % 7 == 6) = false := by rw [beq_eq_false_iff_ne]; exact h6
        have H6 := Lib.hid h6
        clear h6
        obtain ⟨i, hi, hin, _⟩ := tmod_some a2 n (by omega) hn1.1
        have hA : At s.now.length a2 i := .inr (.inr ⟨by rw [HSN.out]; exact hn1.1, by omega, by rw [HSN.out]; exact hi⟩)
        have htk : ticks s.now.length dO i := by
          have := H6.out
          by_cases h5 : dO % 7 = 5
          · exact .inl h5
          · exact .inr ⟨this, by omega, by rw [HSN.out]; omega⟩
        have HA := Lib.hid hA
        have HTK := Lib.hid htk
        have b2a : 0 ≤ a2 := by omega
        have b2b : a2 ≤ 255 := by omega
        replace HS := Lib.hid (HS.out.new 58 #[.int .u8 dO, .int .u8 a2, .int .u64 v, .int .u64 bt2])
        have hs2 := HS.out.new 4 #[.bool true]
        simp only [World.size_alloc] at hs2
        replace HS := Lib.hid hs2
        clear hA htk hs2 hi hin
        go_wp2_with fail
        generalize (wr.alloc _).alloc _ = wa at *
        generalize wr.heap.size = g12 at *
        refine (HS.out.run (α := Unit) (β := Unit) (PA := fun _ => ¬ (ticks s.now.length dO i ∧ s.goes)) (PB := fun _ => ticks s.now.length dO i ∧ s.goes) (LA := fun _ => stepsL d m (stepTo s dO v bt2 i) g8 (g8 + 1) g12 (g12 + 1) wa.heap.size dO a2 v bt2) (LB := fun _ => stepsL d m s g8 (g8 + 1) g12 (g12 + 1) wa.heap.size dO a2 v bt2) 6 rfl _ _ (enters_of Try.func42 (by kernel_rfl) rfl) (fun _ => rfl) (fun _ => rfl)
          (fun w0 h0 => (steps_body d m s g8 (g8 + 1) g12 (g12 + 1) _ dO a2 v bt2 i h0 u0 u1 b2a b2b u6 u7 HA.out).mono (fun _ _ h => h.imp (fun ⟨a, b, c⟩ => ⟨a, (), b, c⟩) (fun ⟨a, b, c⟩ => ⟨a, (), b, c⟩)))).mono ?_
        rintro e w3 (⟨rfl, _, hg, hs3⟩ | ⟨rfl, _, hg, hs3⟩)
        · have hU2 : U < lm := by
            rcases Nat.lt_or_ge U lm with h | h
            · exact h
            · exact absurd ⟨HTK.out, by rw [HSL.out]; omega, by rw [HSL.out, HSU.out]; omega⟩ hg
          have hu2 : (stepTo s dO v bt2 i).u = ((U + 1 : Nat) : Int) := by rw [stepTo_u _ _ _ _ _ HTK.out, HSU.out]; unfold wrap64; omega
          have hl2 : (stepTo s dO v bt2 i).l = lm := by rw [stepTo_l]; exact HSL.out
          have hn2 : (stepTo s dO v bt2 i).now.length = n := by rw [stepTo_len]; exact HSN.out
          generalize stepTo s dO v bt2 i = s2 at *
          obtain ⟨U1, hU1⟩ : ∃ U1, U1 = U + 1 := ⟨_, rfl⟩
          rw [← hU1] at hu2
          have c13 := (hs3.blk 5 rfl).one
          have c8 := (hs3.blk 2 rfl).one
          have c9 := (hs3.blk 3 rfl).one
          have HS3 := Lib.hid hs3
          have HU2 := Lib.hid hu2
          have HL2 := Lib.hid hl2
          have HN2 := Lib.hid hn2
          have hUI : (U : Int) + 1 = (U1 : Int) := by omega
          have hUL : (U1 : Int) ≤ lm := by omega
          have hUL' : U1 ≤ lm := by omega
          have HU1 := Lib.hid hU1
          clear hs3 HS hg hu2 hl2 hn2 hU1
          go_wp2_with fail
          refine (used_any gp s2.l s2.u _ (by have := (HS3.out.dev 0 rfl).pow; rwa [HDPd.out] at this)).mono ?_
          rintro e w' ⟨rfl, rfl⟩
          rw [HU2.out]
          go_wp2_with fail
          refine (HS3.out.same_ 0 1 rfl rfl).mono ?_
          rintro e w4 ⟨rfl, hk⟩
          have HS4 := Lib.hid (HS3.out.grow hk)
          clear hk HS3 c13 c8 c9
          go_wp2_with fail
          refine (used_any gp s2.l s2.u _ (by have := (HS4.out.dev 0 rfl).pow; rwa [HDPd.out] at this)).mono ?_
          rintro e w' ⟨rfl, rfl⟩
          rw [HU2.out]
          go_wp2
          exact ⟨⟨j + 1, U1, s2, by omega, by go_num, by first | rfl | trivial, hUL', HL2.out, HU2.out, HN2.out, HS4.out.take 4⟩, by simp [intOf]; omega⟩
        · obtain rfl : U = lm := by
            have := hg.2.2
            rw [HSL.out, HSU.out] at this
            omega
          have c8 := (hs3.blk 2 rfl).one
          have c9 := (hs3.blk 3 rfl).one
          have HS3 := Lib.hid hs3
          clear hs3 HS hg
          go_wp2_with fail
          refine (used_any gp s.l s.u _ (by have := (HS3.out.dev 0 rfl).pow; rwa [HDPd.out] at this)).mono ?_
          rintro e w' ⟨rfl, rfl⟩
          rw [HSU.out]
          go_wp2_with fail
          refine (HS3.out.same_ 0 1 rfl rfl).mono ?_
          rintro e w4 ⟨rfl, hk⟩
          have HS4 := Lib.hid (HS3.out.grow hk)
          clear hk HS3 c8 c9
          go_wp2
          go_ret
          exact ⟨rfl, HS4.out.keep⟩
    · have hje : (l.length : Int) ≤ j := by omega
      go_wp2
      go_ret
      exact ⟨rfl, HS.out.keep⟩

theorem NvmSteps.walk {v0 v1 : Value} {w : World} (xs : List Int) (hv : Rd w v0 (uw xs)) (_ : ∀ x ∈ xs, lowest .u64 ≤ x ∧ x ≤ greatest .u64) (hm : xs.length ≤ maxLen) (l : List Stp) (hs : RdS w v1 l) (hok : ∀ x ∈ l, x.Ok) (hml : l.length ≤ maxLen) (lim : Int) (t0 : lowest .u8 ≤ lim) (t1 : lim ≤ greatest .u8) :
    Calls Try.prog 9 #[v0, v1, .int .u8 lim] w fun e w' => e = .returned (.bool true) ∧ Below w.heap.size w w' := by
  simp [lowest, greatest] at t0 t1
  exact (NvmSteps.core v0 v1 xs l lim w hv hm hs hok hml t0 t1).mono fun e w' ⟨he, hk⟩ => ⟨he, hk.below⟩
end Go.Proofs.Ytanjmbjnpcekcaa
