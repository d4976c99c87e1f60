/-
  tumuluslaw11.Linked: the function that tells the next name.
-/
import Derived.Test.YthdiehcmjknhiaaStarts
set_option linter.unusedSimpArgs false
set_option linter.unusedVariables false
set_option maxRecDepth 100000
namespace Go.Proofs.Ythdiehcmjknhiaa
open Go.RowKit Go.Shelf

/-- What a name may be. -/
def nameP (os : List Ob) (wrong : Prop) (x : Int) : Prop := x = 0 ∨ ∃ o ∈ os, x = (o.at_ : Int) ∨ (wrong ∧ x = (o.at_ : Int) + 1)

theorem cell_far {w : World} {g gn : Nat} {i : Nat} {u v : Value} (h : w.cell? ⟨g, i, none⟩ = some v) (hne : g ≠ gn) : (w.setCell ⟨gn, 0, none⟩ u).cell? ⟨g, i, none⟩ = some v := by
  rw [World.cell?_of_block (Below.heap_setCell w _ _ g hne)]
  exact h

set_option maxRecDepth 100000 in
set_option maxHeartbeats 4000000 in
theorem next_any (gn g6 g15 g7 n : Nat) (wr : Int) (nm : List Int) (os : List Ob) (An Ap : Option Addr) (Cn Cp : Nat) (w : World)
    (b0 : Blk w gn 3 #[.int .i64 (n : Int)]) (b1 : Blk w g6 56 #[.slice An nm.length Cn]) (b2 : Blk w g15 34 #[.slice Ap os.length Cp]) (b3 : Blk w g7 5 #[.int .u8 wr])
    (n1 : g6 ≠ gn) (n2 : g15 ≠ gn) (n3 : g7 ≠ gn)
    (hN : ∀ i, i < nm.length → ∃ g off, An = some ⟨g, off, none⟩ ∧ g ≠ gn ∧ w.cell? ⟨g, off + i, none⟩ = some (.int .u16 (nm.getD i 0)))
    (hP : ∀ i o, os[i]? = some o → ∃ g off, Ap = some ⟨g, off, none⟩ ∧ g ≠ gn ∧ w.cell? ⟨g, off + i, none⟩ = some (.int .i64 (o.at_ : Int)))
    (hnm : ∀ x ∈ nm, 0 ≤ x ∧ x ≤ 65535) (hat : ∀ o ∈ os, o.at_ ≤ 20000) (hn : n ≤ 1000000) (hl : nm.length ≤ 100000) (hol : os.length ≤ 1000) (w0 : 0 ≤ wr) (w1 : wr ≤ 255) :
    Calls Try.prog 59 #[.pointer (some ⟨gn, 0, none⟩), .pointer (some ⟨g6, 0, none⟩), .pointer (some ⟨g15, 0, none⟩), .pointer (some ⟨g7, 0, none⟩)] w fun e w' =>
      ∃ x, e = .returned (.int .u64 x) ∧ nameP os (wr ≠ 0) x ∧ (0 ≤ x ∧ x ≤ 20001) ∧ Blk w' gn 3 #[.int .i64 ((n + 1 : Nat) : Int)] ∧ Keep w.heap.size [gn] w w' := by
  obtain ⟨Q, hQ⟩ : ∃ Q, (wr ≠ 0) = Q := ⟨_, rfl⟩
  rw [hQ]
  have HQ := Lib.hid hQ
  clear hQ
  have c0 := b0.cell 0
  have z0 := b0.frozen 0
  simp at c0
  obtain ⟨m, hm⟩ : ∃ m, n + 1 = m := ⟨_, rfl⟩
  have hadd : IntKind.i64.wrap ((n : Int) + 1) = (m : Int) := by rw [IntWalk.i64_in _ (by omega)]; omega
  rw [hm]
  have hb0 := b0.set_ 0 (.int .i64 (m : Int))
  have hb1 := b1.far (p := ⟨gn, 0, none⟩) n1 (.int .i64 (m : Int))
  have hb2 := b2.far (p := ⟨gn, 0, none⟩) n2 (.int .i64 (m : Int))
  have hb3 := b3.far (p := ⟨gn, 0, none⟩) n3 (.int .i64 (m : Int))
  have k1 : Keep w.heap.size [gn] w (w.setCell ⟨gn, 0, none⟩ (.int .i64 (m : Int))) := (Keep.refl _ _ _).setCell (by simp) _
  have hN2 : ∀ i, i < nm.length → ∃ g off, An = some ⟨g, off, none⟩ ∧ (w.setCell ⟨gn, 0, none⟩ (.int .i64 (m : Int))).cell? ⟨g, off + i, none⟩ = some (.int .u16 (nm.getD i 0)) := fun i hi => by
    obtain ⟨g, off, h1, h2, h3⟩ := hN i hi
    exact ⟨g, off, h1, cell_far h3 h2⟩
  have hP2 : ∀ i o, os[i]? = some o → ∃ g off, Ap = some ⟨g, off, none⟩ ∧ (w.setCell ⟨gn, 0, none⟩ (.int .i64 (m : Int))).cell? ⟨g, off + i, none⟩ = some (.int .i64 (o.at_ : Int)) := fun i o hi => by
    obtain ⟨g, off, h1, h2, h3⟩ := hP i o hi
    exact ⟨g, off, h1, cell_far h3 h2⟩
  have H0 := Lib.hid hb0
  have H1 := Lib.hid hb1
  have H2 := Lib.hid hb2
  have H3 := Lib.hid hb3
  have K1 := Lib.hid k1
  have HN := Lib.hid hN2
  have HP := Lib.hid hP2
  have HNM := Lib.hid hnm
  have HAT := Lib.hid hat
  have HM := Lib.hid hm
  clear b0 b1 b2 b3 hb0 hb1 hb2 hb3 k1 hN hP hN2 hP2 hnm hat hm
  go_enter Try.func59, Try.ntmps59
  go_upto_region 2 with fail
  clear c0 z0 hadd
  generalize w.setCell ⟨gn, 0, none⟩ (.int .i64 (m : Int)) = w1 at *
  have d0 := H0.out.cell 0
  have d1 := H1.out.cell 0
  have d2 := H2.out.cell 0
  have d3 := H3.out.cell 0
  simp at d0 d1 d2 d3
  have H0' : Hid (Blk w1 gn 3 #[.int .i64 (m : Int)]) := Lib.hid (by simpa using H0.out)
  by_cases h1 : nm.length < m
  · have h1I : (nm.length : Int) < (m : Int) := by omega
    go_wp2
    go_ret
    exact ⟨0, rfl, .inl rfl, ⟨by decide, by decide⟩, H0'.out, K1.out⟩
  have h1I : ¬ (nm.length : Int) < (m : Int) := by omega
  by_cases h2 : os.length = 0
  · have h2I : ((os.length : Int) == 0) = true := beq_iff_eq.2 (by omega)
    have h2J : decide ((os.length : Int) = 0) = true := decide_eq_true (by omega)
    go_wp2
    go_ret
    exact ⟨0, rfl, .inl rfl, ⟨by decide, by decide⟩, H0'.out, K1.out⟩
  have h2I : ((os.length : Int) == 0) = false := by rw [beq_eq_false_iff_ne]; omega
  have h2J : decide ((os.length : Int) = 0) = false := decide_eq_false (by omega)
  have hnl : n < nm.length := by have := HM.out; omega
  have hsub : IntKind.i64.wrap ((m : Int) - 1) = (n : Int) := by have := HM.out; rw [IntWalk.i64_in _ (by omega)]; omega
  have hsub2 : (m : Int) - 1 = (n : Int) := by have := HM.out; omega
  have hnI : (n : Int) < (nm.length : Int) := by omega
  obtain ⟨g, off, rfl, k0⟩ := HN.out n hnl
  obtain ⟨y, hy⟩ : ∃ y, nm.getD n 0 = y := ⟨_, rfl⟩
  have hyb := HNM.out y (by rw [← hy, List.getD_eq_getElem?_getD, List.getElem?_eq_getElem hnl]; simp)
  rw [hy] at k0
  have HY := Lib.hid hyb
  clear hy hyb
  obtain ⟨r5, hr5⟩ : ∃ r5, y.tmod 5 = r5 := ⟨_, rfl⟩
  by_cases h5 : r5 = 0
  · subst h5
    go_wp2
    go_ret
    exact ⟨0, rfl, .inl rfl, ⟨by decide, by decide⟩, H0'.out, K1.out⟩
  have h5J : (r5 == 0) = false := by simpa using h5
  have h5K : decide (r5 = 0) = false := by simpa using h5
  go_upto_region 4 with fail
  clear hr5 h5 h5J h5K
  obtain ⟨q, hq, hql⟩ : ∃ q : Nat, y.tmod (os.length : Int) = (q : Int) ∧ q < os.length := by
    obtain ⟨h0, _⟩ := HY.out
    refine ⟨(y.tmod (os.length : Int)).toNat, ?_, ?_⟩
    · have := Int.tmod_nonneg (os.length : Int) h0; omega
    · have := Int.tmod_nonneg (os.length : Int) h0; have := Int.tmod_lt_of_pos y (show 0 < (os.length : Int) by omega); omega
  have hqI : (q : Int) < (os.length : Int) := by omega
  obtain ⟨ob, hob⟩ : ∃ ob, os[q]? = some ob := ⟨_, List.getElem?_eq_getElem hql⟩
  have hmem := List.mem_of_getElem? hob
  obtain ⟨g2, off2, rfl, p0⟩ := HP.out q ob hob
  obtain ⟨p, hp⟩ : ∃ p, ob.at_ = p := ⟨_, rfl⟩
  rw [hp] at p0
  have hp2 : p ≤ 20000 := by rw [← hp]; exact HAT.out ob hmem
  have hyw : IntKind.i64.wrap y = y := by have := HY.out; rw [IntWalk.i64_in _ (by omega)]
  have hz1 : ((os.length : Int) = 0) = False := by rw [eq_iff_iff, iff_false]; omega
  have HMEM : Hid (∃ o ∈ os, o.at_ = p) := Lib.hid ⟨ob, hmem, hp⟩
  have f0 : ∀ x : Ext w1, x.now.cell? ⟨gn, 0, none⟩ = some (.int .i64 (m : Int)) := fun x => x.cell d0
  have f1 : ∀ x : Ext w1, x.now.cell? ⟨g6, 0, none⟩ = some (.slice (some ⟨g, off, none⟩) nm.length Cn) := fun x => x.cell d1
  have f2 : ∀ x : Ext w1, x.now.cell? ⟨g15, 0, none⟩ = some (.slice (some ⟨g2, off2, none⟩) os.length Cp) := fun x => x.cell d2
  have f3 : ∀ x : Ext w1, x.now.cell? ⟨g7, 0, none⟩ = some (.int .u8 wr) := fun x => x.cell d3
  have f4 : ∀ x : Ext w1, x.now.cell? ⟨g, off + n, none⟩ = some (.int .u16 y) := fun x => x.cell k0
  have f5 : ∀ x : Ext w1, x.now.cell? ⟨g2, off2 + q, none⟩ = some (.int .i64 (p : Int)) := fun x => x.cell p0
  have hql2 : q < os.length := hql
  have HS := Lib.hid (Sep.start w1 [])
  clear hob hmem hp h2 hsub2
  refine wp_region_ext (by kernel_rfl) (by kernel_rfl) ?_
  repeat (go_big_quiet_step ((first | fail)))
  refine wpQuiet_nil ?_
  rintro _ ⟨x, rfl⟩
  replace HS := Lib.hid (HS.out.grow x.keep)
  have hkx : Keep w.heap.size [gn] w x.now := K1.out.join x.keep K1.out.size (by simp)
  have hbx : Blk x.now gn 3 #[.int .i64 (m : Int)] := H0'.out.keep x.keep H0'.out.lt (by simp)
  have HKX := Lib.hid hkx
  have HBX := Lib.hid hbx
  clear hkx hbx d0 d1 d2 d3 k0 p0
  have hpw : IntKind.u64.wrap (p : Int) = (p : Int) := by rw [IntKind.wrap_u64]; omega
  have hpw2 : IntKind.u64.wrap ((p : Int) + 1) = (p : Int) + 1 := by rw [IntKind.wrap_u64]; omega
  have hpw3 : IntKind.i64.wrap ((p : Int) + 1) = (p : Int) + 1 := IntWalk.i64_in _ (by omega)
  have fin : ∀ z : Int, (z = (p : Int) ∨ (Q ∧ z = (p : Int) + 1)) → nameP os Q z := fun z hz => by
    obtain ⟨o, ho, rfl⟩ := HMEM.out
    exact .inr ⟨o, ho, hz⟩
  have FIN := Lib.hid fin
  clear fin
  go_upto_region 5 with fail
  have v0 := f0 x
  have v1 := f1 x
  have v3 := f3 x
  have v4 := f4 x
  generalize x.now = w5 at *
  clear f0 f1 f2 f3 f4 f5 x
  have f0 : ∀ z : Ext w5, z.now.cell? ⟨gn, 0, none⟩ = some (.int .i64 (m : Int)) := fun z => z.cell v0
  have f1 : ∀ z : Ext w5, z.now.cell? ⟨g6, 0, none⟩ = some (.slice (some ⟨g, off, none⟩) nm.length Cn) := fun z => z.cell v1
  have f3 : ∀ z : Ext w5, z.now.cell? ⟨g7, 0, none⟩ = some (.int .u8 wr) := fun z => z.cell v3
  have f4 : ∀ z : Ext w5, z.now.cell? ⟨g, off + n, none⟩ = some (.int .u16 y) := fun z => z.cell v4
  clear v0 v1 v3 v4
  by_cases hw0 : wr = 0
  · subst hw0
    refine wp_region_ext (by kernel_rfl) (by kernel_rfl) ?_
    repeat (go_big_quiet_step ((first | fail)))
    refine wpQuiet_nil ?_
    rintro _ ⟨x, rfl⟩
    replace HS := Lib.hid (HS.out.grow x.keep)
    go_wp2
    go_ret
    exact ⟨(p : Int), rfl, FIN.out _ (.inl rfl), ⟨by omega, by omega⟩, HBX.out.keep x.keep HBX.out.lt (by simp), HKX.out.join x.keep HKX.out.size (by simp)⟩
  · have hwp : decide (wr > 0) = true := decide_eq_true (by omega)
    have hwp2 : (0 < wr) = True := by rw [eq_iff_iff, iff_true]; omega
    have hww : IntKind.u16.wrap wr = wr := by rw [IntKind.wrap_u16]; omega
    have hwz : (wr = 0) = False := by simpa using hw0
    obtain ⟨rw_, hrw⟩ : ∃ rw_, y.tmod wr = rw_ := ⟨_, rfl⟩
    have HQQ : Hid Q := Lib.hid (by rw [← HQ.out]; exact hw0)
    clear hw0
    by_cases h1w : rw_ = 1
    · subst h1w
      refine wp_region_ext (by kernel_rfl) (by kernel_rfl) ?_
      repeat (go_big_quiet_step ((first | fail)))
      refine wpQuiet_nil ?_
      rintro _ ⟨x, rfl⟩
      replace HS := Lib.hid (HS.out.grow x.keep)
      go_wp2
      go_ret
      exact ⟨(p : Int) + 1, rfl, FIN.out _ (.inr ⟨HQQ.out, rfl⟩), ⟨by omega, by omega⟩, HBX.out.keep x.keep HBX.out.lt (by simp), HKX.out.join x.keep HKX.out.size (by simp)⟩
    · have h1x : (rw_ == 1) = false := by simpa using h1w
      have h1y : decide (rw_ = 1) = false := by simpa using h1w
      clear h1w
      refine wp_region_ext (by kernel_rfl) (by kernel_rfl) ?_
      repeat (go_big_quiet_step ((first | fail)))
      refine wpQuiet_nil ?_
      rintro _ ⟨x, rfl⟩
      replace HS := Lib.hid (HS.out.grow x.keep)
      go_wp2
      go_ret
      exact ⟨(p : Int), rfl, FIN.out _ (.inl rfl), ⟨by omega, by omega⟩, HBX.out.keep x.keep HBX.out.lt (by simp), HKX.out.join x.keep HKX.out.size (by simp)⟩
end Go.Proofs.Ythdiehcmjknhiaa
