/-
  tumuluslaw11.Linked: the function that tells the next name.
  tumuluslaw11.Linked.
-/
import Derived.Test.YtbdomdmnjclpdaaWalk
import Derived.Test.YtbdomdmnjclpdaaFill
set_option linter.unusedSimpArgs false
set_option linter.unusedVariables false
set_option maxRecDepth 100000
namespace Go.Proofs.Ytbdomdmnjclpdaa
open Go.RowKit Go.Shelf

/-- What a name may be. -/
def nameP (os : List Ob) (wrong : Prop) (x : Int) : Prop := x = 0 ∨ ∃ o ∈ os, x = (o.at_ : Int) ∨ (wrong ∧ x = (o.at_ : Int) + 1)

theorem cell_far {w : World} {g gn : Nat} {i : Nat} {u v : Value} (h : w.cell? ⟨g, i, none⟩ = some v) (hne : g ≠ gn) : (w.setCell ⟨gn, 0, none⟩ u).cell? ⟨g, i, none⟩ = some v := by
  rw [World.cell?_of_block (Below.heap_setCell w _ _ g hne)]
  exact h

set_option maxRecDepth 100000 in
set_option maxHeartbeats 4000000 in
theorem next_any (gn g6 g15 g7 n : Nat) (wr : Int) (nm : List Int) (os : List Ob) (An Ap : Option Addr) (Cn Cp : Nat) (w : World)
    (b0 : Blk w gn 3 #[.int .i64 (n : Int)]) (b1 : Blk w g6 26 #[.slice An nm.length Cn]) (b2 : Blk w g15 34 #[.slice Ap os.length Cp]) (b3 : Blk w g7 5 #[.int .u8 wr])
    (n1 : g6 ≠ gn) (n2 : g15 ≠ gn) (n3 : g7 ≠ gn)
    (hN : ∀ i, i < nm.length → ∃ g off, An = some ⟨g, off, none⟩ ∧ g ≠ gn ∧ w.cell? ⟨g, off + i, none⟩ = some (.int .u16 (nm.getD i 0)))
    (hP : ∀ i o, os[i]? = some o → ∃ g off, Ap = some ⟨g, off, none⟩ ∧ g ≠ gn ∧ w.cell? ⟨g, off + i, none⟩ = some (.int .i64 (o.at_ : Int)))
    (hnm : ∀ x ∈ nm, 0 ≤ x ∧ x ≤ 65535) (hat : ∀ o ∈ os, o.at_ ≤ 20000) (hn : n ≤ 1000000) (hl : nm.length ≤ 100000) (hol : os.length ≤ 1000) (w0 : 0 ≤ wr) (w1 : wr ≤ 255) :
    Calls Try.prog 25 #[.pointer (some ⟨gn, 0, none⟩), .pointer (some ⟨g6, 0, none⟩), .pointer (some ⟨g15, 0, none⟩), .pointer (some ⟨g7, 0, none⟩)] w fun e w' =>
      ∃ x, e = .returned (.int .u64 x) ∧ nameP os (wr ≠ 0) x ∧ (0 ≤ x ∧ x ≤ 20001) ∧ Blk w' gn 3 #[.int .i64 ((n + 1 : Nat) : Int)] ∧ Keep w.heap.size [gn] w w' := by
  obtain ⟨Q, hQ⟩ : ∃ Q, (wr ≠ 0) = Q := ⟨_, rfl⟩
  rw [hQ]
  have HQ := Lib.hid hQ
  clear hQ
  have c0 := b0.cell 0
  have z0 := b0.frozen 0
  simp at c0
  obtain ⟨m, hm⟩ : ∃ m, n + 1 = m := ⟨_, rfl⟩
  have hadd : IntKind.i64.wrap ((n : Int) + 1) = (m : Int) := by rw [IntWalk.i64_in _ (by omega)]; omega
  rw [hm]
  have hb0 := b0.set_ 0 (.int .i64 (m : Int))
  have hb1 := b1.far (p := ⟨gn, 0, none⟩) n1 (.int .i64 (m : Int))
  have hb2 := b2.far (p := ⟨gn, 0, none⟩) n2 (.int .i64 (m : Int))
  have hb3 := b3.far (p := ⟨gn, 0, none⟩) n3 (.int .i64 (m : Int))
  have k1 : Keep w.heap.size [gn] w (w.setCell ⟨gn, 0, none⟩ (.int .i64 (m : Int))) := (Keep.refl _ _ _).setCell (by simp) _
  have hN2 : ∀ i, i < nm.length → ∃ g off, An = some ⟨g, off, none⟩ ∧ (w.setCell ⟨gn, 0, none⟩ (.int .i64 (m : Int))).cell? ⟨g, off + i, none⟩ = some (.int .u16 (nm.getD i 0)) := fun i hi => by
    obtain ⟨g, off, h1, h2, h3⟩ := hN i hi
    exact ⟨g, off, h1, cell_far h3 h2⟩
  have hP2 : ∀ i o, os[i]? = some o → ∃ g off, Ap = some ⟨g, off, none⟩ ∧ (w.setCell ⟨gn, 0, none⟩ (.int .i64 (m : Int))).cell? ⟨g, off + i, none⟩ = some (.int .i64 (o.at_ : Int)) := fun i o hi => by
    obtain ⟨g, off, h1, h2, h3⟩ := hP i o hi
    exact ⟨g, off, h1, cell_far h3 h2⟩
  have H0 := Lib.hid hb0
  have H1 := Lib.hid hb1
  have H2 := Lib.hid hb2
  have H3 := Lib.hid hb3
  have K1 := Lib.hid k1
  have HN := Lib.hid hN2
  have HP := Lib.hid hP2
  have HNM := Lib.hid hnm
  have HAT := Lib.hid hat
  have HM := Lib.hid hm
  clear b0 b1 b2 b3 hb0 hb1 hb2 hb3 k1 hN hP hN2 hP2 hnm hat hm
  go_enter Try.func25, Try.ntmps25
  go_upto_region 2 with fail
  clear c0 z0 hadd
  generalize w.setCell ⟨gn, 0, none⟩ (.int .i64 (m : Int)) = w1 at *
  have d0 := H0.out.cell 0
  have d1 := H1.out.cell 0
  have d2 := H2.out.cell 0
  have d3 := H3.out.cell 0
  simp at d0 d1 d2 d3
  have H0' : Hid (Blk w1 gn 3 #[.int .i64 (m : Int)]) := Lib.hid (by simpa using H0.out)
  by_cases h1 : nm.length < m
  · have h1I : (nm.length : Int) < (m : Int) := by omega
    go_wp2
    go_ret
    exact ⟨0, rfl, .inl rfl, ⟨by decide, by decide⟩, H0'.out, K1.out⟩
  have h1I : ¬ (nm.length : Int) < (m : Int) := by omega
  by_cases h2 : os.length = 0
  · have h2I : ((os.length : Int) == 0) = true := beq_iff_eq.2 (by omega)
    have h2J : decide ((os.length : Int) = 0) = true := decide_eq_true (by omega)
    go_wp2
    go_ret
    exact ⟨0, rfl, .inl rfl, ⟨by decide, by decide⟩, H0'.out, K1.out⟩
  have h2I : ((os.length : Int) == 0) = false := by rw [beq_eq_false_iff_ne]; omega
  have h2J : decide ((os.length : Int) = 0) = false := decide_eq_false (by omega)
  have hnl : n < nm.length := by have := HM.out; omega
  have hsub : IntKind.i64.wrap ((m : Int) - 1) = (n : Int) := by have := HM.out; rw [IntWalk.i64_in _ (by omega)]; omega
  have hsub2 : (m : Int) - 1 = (n : Int) := by have := HM.out; omega
  have hnI : (n : Int) < (nm.length : Int) := by omega
  obtain ⟨g, off, rfl, k0⟩ := HN.out n hnl
  obtain ⟨y, hy⟩ : ∃ y, nm.getD n 0 = y := ⟨_, rfl⟩
  have hyb := HNM.out y (by rw [← hy, List.getD_eq_getElem?_getD, List.getElem?_eq_getElem hnl]; simp)
  rw [hy] at k0
  have HY := Lib.hid hyb
  clear hy hyb
  obtain ⟨r5, hr5⟩ : ∃ r5, y.tmod 5 = r5 := ⟨_, rfl⟩
  by_cases h5 : r5 = 0
  · subst h5
    go_wp2
    go_ret
    exact ⟨0, rfl, .inl rfl, ⟨by decide, by decide⟩, H0'.out, K1.out⟩
  have h5J : (r5 == 0) = false := by simpa using h5
  have h5K : decide (r5 = 0) = false := by simpa using h5
  go_upto_region 4 with fail
  clear hr5 h5 h5J h5K
  obtain ⟨q, hq, hql⟩ : ∃ q : Nat, y.tmod (os.length : Int) = (q : Int) ∧ q < os.length := by
    obtain ⟨h0, _⟩ := HY.out
    refine ⟨(y.tmod (os.length : Int)).toNat, ?_, ?_⟩
    · have := Int.tmod_nonneg (os.length : Int) h0; omega
    · have := Int.tmod_nonneg (os.length : Int) h0; have := Int.tmod_lt_of_pos y (show 0 < (os.length : Int) by omega); omega
  have hqI : (q : Int) < (os.length : Int) := by omega
  obtain ⟨ob, hob⟩ : ∃ ob, os[q]? = some ob := ⟨_, List.getElem?_eq_getElem hql⟩
  have hmem := List.mem_of_getElem? hob
  obtain ⟨g2, off2, rfl, p0⟩ := HP.out q ob hob
  obtain ⟨p, hp⟩ : ∃ p, ob.at_ = p := ⟨_, rfl⟩
  rw [hp] at p0
  have hp2 : p ≤ 20000 := by rw [← hp]; exact HAT.out ob hmem
  have hyw : IntKind.i64.wrap y = y := by have := HY.out; rw [IntWalk.i64_in _ (by omega)]
  have hz1 : ((os.length : Int) = 0) = False := by rw [eq_iff_iff, iff_false]; omega
  have HMEM : Hid (∃ o ∈ os, o.at_ = p) := Lib.hid ⟨ob, hmem, hp⟩
  have f0 : ∀ x : Ext w1, x.now.cell? ⟨gn, 0, none⟩ = some (.int .i64 (m : Int)) := fun x => x.cell d0
  have f1 : ∀ x : Ext w1, x.now.cell? ⟨g6, 0, none⟩ = some (.slice (some ⟨g, off, none⟩) nm.length Cn) := fun x => x.cell d1
  have f2 : ∀ x : Ext w1, x.now.cell? ⟨g15, 0, none⟩ = some (.slice (some ⟨g2, off2, none⟩) os.length Cp) := fun x => x.cell d2
  have f3 : ∀ x : Ext w1, x.now.cell? ⟨g7, 0, none⟩ = some (.int .u8 wr) := fun x => x.cell d3
  have f4 : ∀ x : Ext w1, x.now.cell? ⟨g, off + n, none⟩ = some (.int .u16 y) := fun x => x.cell k0
  have f5 : ∀ x : Ext w1, x.now.cell? ⟨g2, off2 + q, none⟩ = some (.int .i64 (p : Int)) := fun x => x.cell p0
  have hql2 : q < os.length := hql
  have HS := Lib.hid (Sep.start w1 [])
  clear hob hmem hp h2 hsub2
  refine wp_region_ext (by kernel_rfl) (by kernel_rfl) ?_
  repeat (go_big_quiet_step ((first | fail)))
  refine wpQuiet_nil ?_
  rintro _ ⟨x, rfl⟩
  replace HS := Lib.hid (HS.out.grow x.keep)
  have hkx : Keep w.heap.size [gn] w x.now := K1.out.join x.keep K1.out.size (by simp)
  have hbx : Blk x.now gn 3 #[.int .i64 (m : Int)] := H0'.out.keep x.keep H0'.out.lt (by simp)
  have HKX := Lib.hid hkx
  have HBX := Lib.hid hbx
  clear hkx hbx d0 d1 d2 d3 k0 p0
  have hpw : IntKind.u64.wrap (p : Int) = (p : Int) := by rw [IntKind.wrap_u64]; omega
  have hpw2 : IntKind.u64.wrap ((p : Int) + 1) = (p : Int) + 1 := by rw [IntKind.wrap_u64]; omega
  have hpw3 : IntKind.i64.wrap ((p : Int) + 1) = (p : Int) + 1 := IntWalk.i64_in _ (by omega)
  have fin : ∀ z : Int, (z = (p : Int) ∨ (Q ∧ z = (p : Int) + 1)) → nameP os Q z := fun z hz => by
    obtain ⟨o, ho, rfl⟩ := HMEM.out
    exact .inr ⟨o, ho, hz⟩
  have FIN := Lib.hid fin
  clear fin
  go_upto_region 5 with fail
  have v0 := f0 x
  have v1 := f1 x
  have v3 := f3 x
  have v4 := f4 x
  generalize x.now = w5 at *
  clear f0 f1 f2 f3 f4 f5 x
  have f0 : ∀ z : Ext w5, z.now.cell? ⟨gn, 0, none⟩ = some (.int .i64 (m : Int)) := fun z => z.cell v0
  have f1 : ∀ z : Ext w5, z.now.cell? ⟨g6, 0, none⟩ = some (.slice (some ⟨g, off, none⟩) nm.length Cn) := fun z => z.cell v1
  have f3 : ∀ z : Ext w5, z.now.cell? ⟨g7, 0, none⟩ = some (.int .u8 wr) := fun z => z.cell v3
  have f4 : ∀ z : Ext w5, z.now.cell? ⟨g, off + n, none⟩ = some (.int .u16 y) := fun z => z.cell v4
  clear v0 v1 v3 v4
  by_cases hw0 : wr = 0
  · subst hw0
    refine wp_region_ext (by kernel_rfl) (by kernel_rfl) ?_
    repeat (go_big_quiet_step ((first | fail)))
    refine wpQuiet_nil ?_
    rintro _ ⟨x, rfl⟩
    replace HS := Lib.hid (HS.out.grow x.keep)
    go_wp2
    go_ret
    exact ⟨(p : Int), rfl, FIN.out _ (.inl rfl), ⟨by omega, by omega⟩, HBX.out.keep x.keep HBX.out.lt (by simp), HKX.out.join x.keep HKX.out.size (by simp)⟩
  · have hwp : decide (wr > 0) = true := decide_eq_true (by omega)
    have hwp2 : (0 < wr) = True := by rw [eq_iff_iff, iff_true]; omega
    have hww : IntKind.u16.wrap wr = wr := by rw [IntKind.wrap_u16]; omega
    have hwz : (wr = 0) = False := by simpa using hw0
    obtain ⟨rw_, hrw⟩ : ∃ rw_, y.tmod wr = rw_ := ⟨_, rfl⟩
    have HQQ : Hid Q := Lib.hid (by rw [← HQ.out]; exact hw0)
    clear hw0
    by_cases h1w : rw_ = 1
    · subst h1w
      refine wp_region_ext (by kernel_rfl) (by kernel_rfl) ?_
      repeat (go_big_quiet_step ((first | fail)))
      refine wpQuiet_nil ?_
      rintro _ ⟨x, rfl⟩
      replace HS := Lib.hid (HS.out.grow x.keep)
      go_wp2
      go_ret
      exact ⟨(p : Int) + 1, rfl, FIN.out _ (.inr ⟨HQQ.out, rfl⟩), ⟨by omega, by omega⟩, HBX.out.keep x.keep HBX.out.lt (by simp), HKX.out.join x.keep HKX.out.size (by simp)⟩
    · have h1x : (rw_ == 1) = false := by simpa using h1w
      have h1y : decide (rw_ = 1) = false := by simpa using h1w
      clear h1w
      refine wp_region_ext (by kernel_rfl) (by kernel_rfl) ?_
      repeat (go_big_quiet_step ((first | fail)))
      refine wpQuiet_nil ?_
      rintro _ ⟨x, rfl⟩
      replace HS := Lib.hid (HS.out.grow x.keep)
      go_wp2
      go_ret
      exact ⟨(p : Int), rfl, FIN.out _ (.inl rfl), ⟨by omega, by omega⟩, HBX.out.keep x.keep HBX.out.lt (by simp), HKX.out.join x.keep HKX.out.size (by simp)⟩
end Go.Proofs.Ytbdomdmnjclpdaa
set_option linter.unusedSimpArgs false
set_option linter.unusedVariables false
set_option maxRecDepth 100000
namespace Go.Proofs.Ytbdomdmnjclpdaa
open Go.RowKit Go.Shelf

/-- Objects on a device whose names are so; so are the roots. -/
structure LinkS (t : St) (k : Kfg) (os : List Ob) (u : Nat) (P : Int → Prop) : Prop where
  fill : FillS t k 0 os u
  rng : t.rng
  names : ∀ o ∈ os, ∀ i, i < o.b → P (t.nw (o.at_ + 1 + i))
  nums : ∀ o ∈ os, ∀ i, o.b ≤ i → i < o.n → t.nw (o.at_ + 1 + i) = 0
  roots : ∀ i, i < k.R → P (t.nw (k.act + 2 + i))
theorem LinkS.start {t : St} {k : Kfg} {os : List Ob} {u : Nat} {P : Int → Prop} (h : FillS t k 0 os u) (hb : BlankS t k os) (h0 : P 0) : LinkS t k os u P :=
  ⟨h, hb.rng, fun o ho i hi => by rw [hb.body o ho i (by have := h.small o ho; omega)]; exact h0, fun o ho i _ hi => hb.body o ho i hi, fun i hi => by rw [hb.roots i hi]; exact h0⟩
theorem LinkS.setName {t : St} {k : Kfg} {os : List Ob} {u : Nat} {P : Int → Prop} (h : LinkS t k os u P) (hk : k.Ok) {o : Ob} (ho : o ∈ os) {i q : Nat} (hi : i < o.b) (hq : o.at_ + 1 + i = q) {x : Int} (hx : P x) (hw : Wd x) : LinkS (t.store q x) k os u P := by
  have hin := h.fill.in_ hk (by decide) ho
  have hsm := h.fill.small o ho
  have e := St.nw_store h.fill.use.is (show q < k.words by omega) x
  have far : ∀ o' ∈ os, q ≠ o'.at_ := fun o' ho' => by
    rcases h.fill.chain.apart ho ho' with rfl | h1 | h1 <;> omega
  have sep : ∀ o' ∈ os, ∀ i', i' < o'.n → o'.at_ + 1 + i' = q → o' = o ∧ i' = i := fun o' ho' i' hi' hq' => by
    rcases h.fill.chain.apart ho ho' with rfl | h1 | h1
    · exact ⟨rfl, by omega⟩
    · omega
    · omega
  refine ⟨⟨⟨h.fill.use.is.store _ _, h.fill.use.lim, ?_, ?_⟩, h.fill.le, h.fill.chain, h.fill.small, ?_⟩, h.rng.store hw, ?_, ?_, ?_⟩
  · rw [e, if_neg (by omega)]; exact h.fill.use.act
  · rw [e, if_neg (by omega)]; exact h.fill.use.used
  · intro o' ho'
    rw [e, if_neg (fun h2 => far o' ho' h2.symm)]
    exact h.fill.heads o' ho'
  · intro o' ho' i' hi'
    rw [e]
    by_cases h2 : o'.at_ + 1 + i' = q
    · rw [if_pos h2]; exact hx
    · rw [if_neg h2]; exact h.names o' ho' i' hi'
  · intro o' ho' i' h1 hi'
    rw [e, if_neg (fun h2 => by obtain ⟨rfl, rfl⟩ := sep o' ho' i' hi' h2; omega)]
    exact h.nums o' ho' i' h1 hi'
  · intro i' hi'
    rw [e, if_neg (by omega)]
    exact h.roots i' hi'
theorem LinkS.setRoot {t : St} {k : Kfg} {os : List Ob} {u : Nat} {P : Int → Prop} (h : LinkS t k os u P) (hk : k.Ok) {i q : Nat} (hi : i < k.R) (hq : k.act + 2 + i = q) {x : Int} (hx : P x) (hw : Wd x) : LinkS (t.store q x) k os u P := by
  have hww := Kfg.words_le hk
  have e := St.nw_store h.fill.use.is (show q < k.words by omega) x
  have far : ∀ o' ∈ os, q < o'.at_ := fun o' ho' => by
    have := h.fill.in_ hk (by decide) ho'
    omega
  refine ⟨⟨⟨h.fill.use.is.store _ _, h.fill.use.lim, ?_, ?_⟩, h.fill.le, h.fill.chain, h.fill.small, ?_⟩, h.rng.store hw, ?_, ?_, ?_⟩
  · rw [e, if_neg (by omega)]; exact h.fill.use.act
  · rw [e, if_neg (by omega)]; exact h.fill.use.used
  · intro o' ho'
    have := far o' ho'
    rw [e, if_neg (by omega)]
    exact h.fill.heads o' ho'
  · intro o' ho' i' hi'
    have := far o' ho'
    rw [e, if_neg (by omega)]
    exact h.names o' ho' i' hi'
  · intro o' ho' i' h1 hi'
    have := far o' ho'
    rw [e, if_neg (by omega)]
    exact h.nums o' ho' i' h1 hi'
  · intro i' hi'
    rw [e]
    by_cases h2 : k.act + 2 + i' = q
    · rw [if_pos h2]; exact hx
    · rw [if_neg h2]; exact h.roots i' hi'
def xOf (v : Value) : Int := match v with | .int _ x => x | _ => 0

set_option maxRecDepth 100000 in
set_option maxHeartbeats 8000000 in
theorem linked_any (l r s wg : Int) (v1 v2 : Value) (hl : List HV) (nm : List Int) (w : World) (l0 : 0 ≤ l) (l1 : l ≤ 65535) (r0 : 0 ≤ r) (r1 : r ≤ 65535) (s0 : 0 ≤ s) (s1 : s ≤ 65535) (hm : RdH w v1 hl) (hok : ∀ x ∈ hl, x.Ok) (hml : hl.length ≤ 1000) (hr : Rd w v2 (nm.map (Value.int .u16))) (hnm : ∀ x ∈ nm, 0 ≤ x ∧ x ≤ 65535) (hnl : nm.length ≤ 1000) (wg0 : 0 ≤ wg) (wg1 : wg ≤ 255) :
    Calls Try.prog 7 #[.agg #[.int .u16 l, .int .u16 r, .int .u16 s], v1, v2, .int .u8 wg] w fun e w' => ∃ (d : DevI) (t : St) (rv ov : Value),
      e = .returned (.tuple #[.pointer (some ⟨d.b, 0, none⟩), .agg (kOf l r s).cells, .agg (rbC 0 (usedOf (kOf l r s).S hl 0) rv), ov]) ∧
      LinkS t (kOf l r s) (placed ((kOf l r s).from_ 0) (kOf l r s).S hl 0) (usedOf (kOf l r s).S hl 0) (nameP (placed ((kOf l r s).from_ 0) (kOf l r s).S hl 0) (wg ≠ 0)) ∧
      Sep w [] [devR d t, rowR 3 ov (atsOf (placed ((kOf l r s).from_ 0) (kOf l r s).S hl 0)), rowR 38 rv (uw (rootsOf t (kOf l r s) (kOf l r s).R))] w' := by
  obtain ⟨hk, _, hkR, hkS⟩ := kOf_ok (l := l) (r := r) (s := s) l0 r0 s0
  have hfa := fun w hm => filled_any l r s v1 hl w l0 l1 r0 r1 s0 s1 hm hok hml
  have hpl := placed_length ((kOf l r s).from_ 0) (kOf l r s).S hl 0
  generalize kOf l r s = k at *
  obtain ⟨os, hos⟩ : ∃ os, placed (k.from_ 0) k.S hl 0 = os := ⟨_, rfl⟩
  obtain ⟨u, hu⟩ : ∃ u, usedOf k.S hl 0 = u := ⟨_, rfl⟩
  simp only [hos, hu] at hfa hpl ⊢
  have HFA := Lib.hid hfa
  have HK := Lib.hid hk
  obtain ⟨NA, NC, hv2, hnc⟩ := hr.cells
  subst hv2
  have HM := Lib.hid hm
  have HNC := Lib.hid hnc
  have HNM := Lib.hid hnm
  have hosl : os.length ≤ 1000 := by omega
  clear hfa hk hm hr hnc hnm hos hu hpl hok
  have HS := Lib.hid (Sep.start w [])
  go_enter Try.func7, Try.ntmps7
  go_upto_region 1 with fail
  replace HS := Lib.hid (((((HS.out.new 24 #[.int .u16 l, .int .u16 r, .int .u16 s]).new 26 #[.slice NA nm.length NC]).new 5 #[.int .u8 wg]).new 30 #[.int .i64 0, .int .i64 0, .int .i64 0]).new 33 #[.int .i64 0, .int .i64 0, .slice none 0 0])
  simp only [World.size_alloc] at HS
  generalize ((((w.alloc _).alloc _).alloc _).alloc _).alloc _ = w2 at *
  generalize w.heap.size = gx at *
  generalize gx + 1 = g6 at *
  generalize g6 + 1 = g7 at *
  generalize g7 + 1 = g9 at *
  generalize g9 + 1 = g10 at *
  have c0 := (HS.out.blk 0 rfl).cell 0
  simp at c0
  have c1 := (HS.out.blk 0 rfl).cell 1
  simp at c1
  have c2 := (HS.out.blk 0 rfl).cell 2
  simp at c2
  go_wp2_with fail
  refine (HFA.out _ (HM.out.keep HS.out.keep)).mono ?_
  rintro e w3 ⟨d, t0, rv, ov, rfl, hf, hb, hS⟩
  obtain ⟨OA, OC, hov⟩ := rowR_val (hS.row 1 rfl)
  obtain ⟨RA, RC, hrv⟩ := rowR_val (hS.row 2 rfl)
  rw [atsOf_length] at hov
  obtain ⟨rs, hrs⟩ : ∃ rs, rootsOf t0 k k.R = rs := ⟨_, rfl⟩
  rw [hrs] at hrv hS
  obtain ⟨RL, hRL⟩ : ∃ RL, (uw rs).length = RL := ⟨_, rfl⟩
  rw [hRL] at hrv
  subst hov hrv
  have hadds := HS.out.adds hS
  replace HS := Lib.hid hadds
  have hlk := LinkS.start (P := nameP os (wg ≠ 0)) hf hb (.inl rfl)
  have HL := Lib.hid hlk
  simp only [Kfg.cells, rbC]
  clear hS hadds hf hb hrs hRL hlk c0 c1 c2 HFA
  go_upto_region 2 with fail
  replace HS := Lib.hid (((HS.out.new 30 #[.int .i64 (k.L : Int), .int .i64 (k.R : Int), .int .i64 (k.S : Int)]).new 33 #[.int .i64 0, .int .i64 (u : Int), .slice RA RL RC]).new 34 #[.slice OA os.length OC])
  simp only [World.size_alloc] at HS
  generalize ((w3.alloc _).alloc _).alloc _ = w4 at *
  generalize w3.heap.size = g13 at *
  generalize g13 + 1 = g14 at *
  generalize g14 + 1 = g15 at *
  go_upto_region 6 with fail
  replace HS := Lib.hid (HS.out.new 3 #[.int .i64 ((0 : Nat) : Int)])
  generalize w4.alloc _ = w5 at *
  generalize w4.heap.size = gn at *
  replace HS : Hid (Sep w [] [blkR gx 24 #[.int .u16 l, .int .u16 r, .int .u16 s], blkR g6 26 #[.slice NA nm.length NC], blkR g7 5 #[.int .u8 wg], blkR g9 30 #[.int .i64 0, .int .i64 0, .int .i64 0], blkR g10 33 #[.int .i64 0, .int .i64 0, .slice none 0 0], devR d (t0), rowR 3 (.slice OA os.length OC) (atsOf os), rowR 38 (.slice RA RL RC) (uw rs), blkR g13 30 #[.int .i64 (k.L : Int), .int .i64 (k.R : Int), .int .i64 (k.S : Int)], blkR g14 33 #[.int .i64 0, .int .i64 (u : Int), .slice RA RL RC], blkR g15 34 #[.slice OA os.length OC], blkR gn 3 #[.int .i64 ((0 : Nat) : Int)]] w5) := HS
  have hnext : ∀ (t : St) (n : Nat) (X : List Res) (w' : World), n ≤ 1000000 → FillS t k 0 os u → Sep w [] ([blkR gx 24 #[.int .u16 l, .int .u16 r, .int .u16 s], blkR g6 26 #[.slice NA nm.length NC], blkR g7 5 #[.int .u8 wg], blkR g9 30 #[.int .i64 0, .int .i64 0, .int .i64 0], blkR g10 33 #[.int .i64 0, .int .i64 0, .slice none 0 0], devR d (t), rowR 3 (.slice OA os.length OC) (atsOf os), rowR 38 (.slice RA RL RC) (uw rs), blkR g13 30 #[.int .i64 (k.L : Int), .int .i64 (k.R : Int), .int .i64 (k.S : Int)], blkR g14 33 #[.int .i64 0, .int .i64 (u : Int), .slice RA RL RC], blkR g15 34 #[.slice OA os.length OC], blkR gn 3 #[.int .i64 ((n : Nat) : Int)]] ++ X) w' → Calls Try.prog 25 #[.pointer (some ⟨gn, 0, none⟩), .pointer (some ⟨g6, 0, none⟩), .pointer (some ⟨g15, 0, none⟩), .pointer (some ⟨g7, 0, none⟩)] w' fun e w'' => ∃ x, e = .returned (.int .u64 x) ∧ nameP os (wg ≠ 0) x ∧ (0 ≤ x ∧ x ≤ 20001) ∧ Sep w [] ([blkR gx 24 #[.int .u16 l, .int .u16 r, .int .u16 s], blkR g6 26 #[.slice NA nm.length NC], blkR g7 5 #[.int .u8 wg], blkR g9 30 #[.int .i64 0, .int .i64 0, .int .i64 0], blkR g10 33 #[.int .i64 0, .int .i64 0, .slice none 0 0], devR d (t), rowR 3 (.slice OA os.length OC) (atsOf os), rowR 38 (.slice RA RL RC) (uw rs), blkR g13 30 #[.int .i64 (k.L : Int), .int .i64 (k.R : Int), .int .i64 (k.S : Int)], blkR g14 33 #[.int .i64 0, .int .i64 (u : Int), .slice RA RL RC], blkR g15 34 #[.slice OA os.length OC], blkR gn 3 #[.int .i64 ((n + 1 : Nat) : Int)]] ++ X) w'' := by
    intro t n X w' hn hf hs
    have hgn : w.heap.size ≤ gn := Nat.le_of_not_lt fun hlt => by simpa using hs.old 11 _ rfl gn (by simp [blkR]) hlt
    refine (next_any gn g6 g15 g7 n wg nm os NA OA NC OC w' (hs.blk 11 rfl) (hs.blk 1 rfl) (hs.blk 10 rfl) (hs.blk 2 rfl) (hs.ne 1 11 rfl rfl (by decide)) (hs.ne 10 11 rfl rfl (by decide)) (hs.ne 2 11 rfl rfl (by decide)) ?_ ?_ HNM.out ?_ hn (by omega) hosl wg0 wg1).mono ?_
    · intro i hi
      obtain ⟨g, off, h1, h2⟩ := HNC.out i hi
      have hlt := World.block_lt_of_cell? w _ h2
      simp only at hlt
      exact ⟨g, off, h1, by omega, (Ext.mk w' hs.keep : Ext w).cell h2⟩
    · intro i o hi
      have hrow : w'.ownsRow 0 3 1 (.slice OA os.length OC) (atsOf os).length (atsOf os) := hs.row 6 rfl
      have hne : 0 < os.length := by have := (List.getElem?_eq_some_iff.1 hi).1; omega
      rcases hrow.2 with ⟨hv, h0⟩ | ⟨g, cap, cur, hv, _⟩
      · rw [atsOf_length] at h0; omega
      · injection hv with e1 e2 e3
        subst e1
        refine ⟨g, 0, rfl, fun he => hs.apart 6 11 _ _ (by decide) rfl rfl g (by simp [rowR, Value.ownBlock]) (by simp [blkR, he]), ?_⟩
        have := hrow.cells (g := g) rfl i (.int .i64 (o.at_ : Int)) (by simp [atsOf, hi])
        rw [show (⟨g, 0, none⟩ : Addr).add i = ⟨g, i, none⟩ by unfold Addr.add; split <;> simp_all] at this
        rwa [Nat.zero_add]
    · intro o ho
      have := hf.in_ HK.out (by decide) ho
      omega
    · rintro e w'' ⟨x, rfl, hx, hxr, hb, hkk⟩
      refine ⟨x, rfl, hx, hxr, ?_⟩
      exact hs.step (i := 11) rfl hkk (r' := blkR gn 3 #[.int .i64 ((n + 1 : Nat) : Int)]) hb (fun k h => .inl h)
  have HNEXT := Lib.hid hnext
  clear hnext HNC HNM
  obtain ⟨P, hP⟩ : ∃ P, nameP os (wg ≠ 0) = P := ⟨_, rfl⟩
  simp only [hP] at HNEXT HL
  have HPP := Lib.hid hP
  clear hP
  have y0 := (HS.out.blk 10 rfl).cell 0
  simp at y0
  go_wp2_with fail
  clear y0
  go_loopw [8, 11, 19, 20, 21, 22, 39] (fun _ _ _ _ _ _ v39 wr => ∃ (j : Nat) (t : St) (n : Nat), j ≤ os.length ∧ v39 = .int .i64 (j : Int) ∧ n ≤ 9 * j ∧ LinkS t k os u P ∧ Sep w [] [blkR gx 24 #[.int .u16 l, .int .u16 r, .int .u16 s], blkR g6 26 #[.slice NA nm.length NC], blkR g7 5 #[.int .u8 wg], blkR g9 30 #[.int .i64 0, .int .i64 0, .int .i64 0], blkR g10 33 #[.int .i64 0, .int .i64 0, .slice none 0 0], devR d (t), rowR 3 (.slice OA os.length OC) (atsOf os), rowR 38 (.slice RA RL RC) (uw rs), blkR g13 30 #[.int .i64 (k.L : Int), .int .i64 (k.R : Int), .int .i64 (k.S : Int)], blkR g14 33 #[.int .i64 0, .int .i64 (u : Int), .slice RA RL RC], blkR g15 34 #[.slice OA os.length OC], blkR gn 3 #[.int .i64 ((n : Nat) : Int)]] wr) (fun _ _ _ _ _ _ v39 _ => os.length - (intOf v39).toNat)
  case atStart => exact ⟨0, t0, 0, by omega, rfl, by omega, HL.out, HS.out⟩
  case round =>
    clear HS HL
    obtain ⟨j, t, n, hj, rfl, hnj, hlk, hs⟩ := hrel
    have HS := Lib.hid hs
    have HL := Lib.hid hlk
    clear hs hlk
    by_cases hlt : j < os.length
    · have hltI : (j : Int) < (os.length : Int) := by omega
      obtain ⟨ob, hob⟩ : ∃ ob, os[j]? = some ob := ⟨_, List.getElem?_eq_getElem hlt⟩
      have hmem := List.mem_of_getElem? hob
      have hin := HL.out.fill.in_ HK.out (by decide) hmem
      have hch := HL.out.fill.chain.mem hmem
      have hsm := HL.out.fill.small ob hmem
      have hhd := HL.out.fill.heads ob hmem
      have hrow : wr.ownsRow 0 3 1 (.slice OA os.length OC) (atsOf os).length (atsOf os) := HS.out.row 6 rfl
      obtain ⟨g, hOA, ha0⟩ : ∃ g, OA = some ⟨g, 0, none⟩ ∧ wr.cell? ⟨g, j, none⟩ = some (.int .i64 (ob.at_ : Int)) := by
        rcases hrow.2 with ⟨hv, h0⟩ | ⟨g, cap, cur, hv, _⟩
        · rw [atsOf_length] at h0; omega
        · injection hv with e1 e2 e3
          refine ⟨g, e1, ?_⟩
          subst e1
          have := hrow.cells (g := g) rfl j (.int .i64 (ob.at_ : Int)) (by simp [atsOf, hob])
          rwa [show (⟨g, 0, none⟩ : Addr).add j = ⟨g, j, none⟩ by unfold Addr.add; split <;> simp_all] at this
      subst hOA
      have HMEM := Lib.hid hmem
      obtain ⟨at_, m, b⟩ := ob
      simp only at hin hch hsm hhd ha0
      have hof := fun w (hd : Dev w d t) => of_yes d t k 0 u at_ (k.from_ 0 + u) _ (m : Int) (b : Int) (.slice RA RL RC) w hd HK.out (by decide) HL.out.fill.le ⟨hch.1, by omega⟩ rfl hhd (hw_wd (by omega) hsm.2).1 (hw_wd (by omega) hsm.2).2 (headOf_hw ⟨by omega, by omega, by omega, by omega⟩) (by omega)
      simp only [Kfg.cells, rbC] at hof
      have HOF := Lib.hid hof
      have hat : at_ ≤ 10000 := by omega
      have hatI : (at_ : Int) ≤ 10000 := by omega
      obtain ⟨hm8, hbm⟩ := hsm
      clear hof hrow hob hmem hhd hch hin
      have c0 := (HS.out.blk 8 rfl).cell 0
      simp at c0
      have c1 := (HS.out.blk 8 rfl).cell 1
      simp at c1
      have c2 := (HS.out.blk 8 rfl).cell 2
      simp at c2
      have b0 := (HS.out.blk 9 rfl).cell 0
      simp at b0
      have b1 := (HS.out.blk 9 rfl).cell 1
      simp at b1
      have b2 := (HS.out.blk 9 rfl).cell 2
      simp at b2
      go_wp2_with fail
      refine (HOF.out _ (HS.out.dev 5 rfl)).mono ?_
      rintro e w6 ⟨rfl, hkk⟩
      replace HS := Lib.hid (HS.out.grow hkk)
      clear hkk c0 c1 c2 b0 b1 b2 HOF ha0
      go_upto_region 12 with fail
      replace HS := Lib.hid (HS.out.new 53 #[.int .i64 (m : Int), .int .i64 (b : Int), .int .i64 (at_ : Int)])
      generalize w6.alloc _ = w7 at *
      generalize w6.heap.size = go at *
      replace HS : Hid (Sep w [] ([blkR gx 24 #[.int .u16 l, .int .u16 r, .int .u16 s], blkR g6 26 #[.slice NA nm.length NC], blkR g7 5 #[.int .u8 wg], blkR g9 30 #[.int .i64 0, .int .i64 0, .int .i64 0], blkR g10 33 #[.int .i64 0, .int .i64 0, .slice none 0 0], devR d (t), rowR 3 (.slice (some ⟨g, 0, none⟩) os.length OC) (atsOf os), rowR 38 (.slice RA RL RC) (uw rs), blkR g13 30 #[.int .i64 (k.L : Int), .int .i64 (k.R : Int), .int .i64 (k.S : Int)], blkR g14 33 #[.int .i64 0, .int .i64 (u : Int), .slice RA RL RC], blkR g15 34 #[.slice (some ⟨g, 0, none⟩) os.length OC], blkR gn 3 #[.int .i64 ((n : Nat) : Int)]] ++ [blkR go 53 #[.int .i64 (m : Int), .int .i64 (b : Int), .int .i64 (at_ : Int)]]) w7) := HS
      have o0 := (HS.out.blk 12 rfl).cell 0
      simp at o0
      have o1 := (HS.out.blk 12 rfl).cell 1
      simp at o1
      go_wp2_with fail
      clear o0 o1
      go_loopw [22, 58] (fun _ v58 wr => ∃ (i : Nat) (t : St) (n2 : Nat), i ≤ b ∧ v58 = .int .i64 (i : Int) ∧ n2 ≤ n + i ∧ LinkS t k os u P ∧ Sep w [] ([blkR gx 24 #[.int .u16 l, .int .u16 r, .int .u16 s], blkR g6 26 #[.slice NA nm.length NC], blkR g7 5 #[.int .u8 wg], blkR g9 30 #[.int .i64 0, .int .i64 0, .int .i64 0], blkR g10 33 #[.int .i64 0, .int .i64 0, .slice none 0 0], devR d (t), rowR 3 (.slice (some ⟨g, 0, none⟩) os.length OC) (atsOf os), rowR 38 (.slice RA RL RC) (uw rs), blkR g13 30 #[.int .i64 (k.L : Int), .int .i64 (k.R : Int), .int .i64 (k.S : Int)], blkR g14 33 #[.int .i64 0, .int .i64 (u : Int), .slice RA RL RC], blkR g15 34 #[.slice (some ⟨g, 0, none⟩) os.length OC], blkR gn 3 #[.int .i64 ((n2 : Nat) : Int)]] ++ [blkR go 53 #[.int .i64 (m : Int), .int .i64 (b : Int), .int .i64 (at_ : Int)]]) wr) (fun _ v58 _ => b - (intOf v58).toNat)
      case atStart => exact ⟨0, t, n, by omega, rfl, by omega, HL.out, HS.out⟩
      case round =>
        clear HS HL t
        obtain ⟨i, t, n2, hi, rfl, hn2, hlk, hs⟩ := hrel
        have HS := Lib.hid hs
        have HL := Lib.hid hlk
        clear hs hlk
        by_cases hlt2 : i < b
        · have hlt2I : (i : Int) < (b : Int) := by omega
          go_upto_region 15 with fail
          obtain ⟨q, hq⟩ : ∃ q, at_ + 1 + i = q := ⟨_, rfl⟩
          have HQ := Lib.hid hq
          have hqw : q < k.words := by
            have := HL.out.fill.in_ HK.out (by decide) HMEM.out
            simp only at this
            omega
          have hpt := fun (x : Int) w (hd : Dev w d t) (hx : 0 ≤ x ∧ x ≤ 9223372036854775807) => opoint_dev d t (m : Int) (b : Int) (at_ : Int) (i : Int) x q w hd HL.out.fill.use.lim (by rw [HL.out.fill.use.is.now]; exact hqw) (by unfold fieldErr; rw [if_neg (by omega), if_pos (by simp; omega)]) (by omega) ⟨by omega, by omega⟩ (by omega) hx
          have HPT := Lib.hid hpt
          clear hpt hq
          have hcvx : ∀ x : Int, 0 ≤ x → x ≤ 20001 → IntKind.i64.wrap x = x := fun x h0 h1 => IntWalk.i64_in _ (by omega)
          have HCV := Lib.hid hcvx
          clear hcvx
          refine wp_region_st3 (W := w) (S := []) (by kernel_rfl) (by kernel_rfl) (by kernel_rfl) (fun D uu => [blkR gx 24 #[.int .u16 l, .int .u16 r, .int .u16 s], blkR g6 26 #[.slice NA nm.length NC], blkR g7 5 #[.int .u8 wg], blkR g9 30 #[.int .i64 0, .int .i64 0, .int .i64 0], blkR g10 33 #[.int .i64 0, .int .i64 0, .slice none 0 0], devR d (bif D 7 then t.store q (xOf (uu 4)) else t), rowR 3 (.slice (some ⟨g, 0, none⟩) os.length OC) (atsOf os), rowR 38 (.slice RA RL RC) (uw rs), blkR g13 30 #[.int .i64 (k.L : Int), .int .i64 (k.R : Int), .int .i64 (k.S : Int)], blkR g14 33 #[.int .i64 0, .int .i64 (u : Int), .slice RA RL RC], blkR g15 34 #[.slice (some ⟨g, 0, none⟩) os.length OC], blkR gn 3 #[.int .i64 ((bif D 3 then n2 + 1 else n2 : Nat) : Int)]] ++ [blkR go 53 #[.int .i64 (m : Int), .int .i64 (b : Int), .int .i64 (at_ : Int)]])
            (fun j v => match j with
              | 0 => v = .agg #[.int .i64 (m : Int), .int .i64 (b : Int), .int .i64 (at_ : Int)]
              | 1 => v = .int .i64 (i : Int)
              | 2 => v = .func (.func 25) #[] #[.pointer (some ⟨gn, 0, none⟩), .pointer (some ⟨g6, 0, none⟩), .pointer (some ⟨g15, 0, none⟩), .pointer (some ⟨g7, 0, none⟩)]
              | 3 => ∃ x : Int, v = .int .u64 x ∧ P x ∧ 0 ≤ x ∧ x ≤ 20001
              | 4 => ∃ x : Int, v = .int .i64 x ∧ P x ∧ 0 ≤ x ∧ x ≤ 20001
              | 5 => v = .pointer (some ⟨d.b, 0, none⟩)
              | 6 => v = .func (.func 27) #[.pointer (some ⟨d.b, 0, none⟩)] #[]
              | _ => True) ?start ?step ?fin
          case start => exact fun u => HS.out
          case step =>
            clear HS
            refine ⟨?_, ?_, ?_, ?_, ?_, ?_, ?_, ?_, trivial⟩
            · intro D uu w' K hD hF hl hS hK
              simp only [puts, Act.put, List.setIfInBounds_toArray, List.set_cons_succ, List.set_cons_zero, Nat.zero_add, Nat.reduceAdd]
              have x0 := (hS.blk 12 rfl).cell 0
              have x1 := (hS.blk 12 rfl).cell 1
              have x2 := (hS.blk 12 rfl).cell 2
              simp at x0 x1 x2
              go_simp
              simp only [yUpon]
              exact hK _ _ rfl hS
            · intro D uu w' K hD hF hl hS hK
              simp only [puts, Act.put, List.setIfInBounds_toArray, List.set_cons_succ, List.set_cons_zero, Nat.zero_add, Nat.reduceAdd]
              go_simp
              simp only [yUpon]
              exact hK _ _ rfl hS
            · intro D uu w' K hD hF hl hS hK
              simp only [puts, Act.put, List.setIfInBounds_toArray, List.set_cons_succ, List.set_cons_zero, Nat.zero_add, Nat.reduceAdd]
              go_simp
              simp only [yUpon]
              exact hK _ _ rfl hS
            · intro D uu w' K hD hF hl hS hK
              have f2 := (hF 2 (by kernel_rfl)).2
              simp only at f2
              simp only [puts, Act.put, List.setIfInBounds_toArray, List.set_cons_succ, List.set_cons_zero, Nat.zero_add, Nat.reduceAdd]
              simp only [f2]
              have hlate := hl 7 (by kernel_rfl)
              simp only [hD, hlate, cond_false] at hS
              have e1 : (fset D 3 true) 3 = true := rfl
              have e2 : (fset D 3 true) 7 = false := hlate
              go_simp
              simp only [yUpon]
              refine (HNEXT.out t n2 [blkR go 53 #[.int .i64 (m : Int), .int .i64 (b : Int), .int .i64 (at_ : Int)]] _ (by omega) HL.out.fill hS).mono ?_
              rintro e w1 ⟨x, rfl, hxp, ⟨hx0, hx1⟩, hs1⟩
              refine hK _ _ ⟨x, rfl, hxp, hx0, hx1⟩ ?_
              simp only [e1, e2, cond_true, cond_false]
              exact hs1
            · intro D uu w' K hD hF hl hS hK
              simp only [puts, Act.put, List.setIfInBounds_toArray, List.set_cons_succ, List.set_cons_zero, Nat.zero_add, Nat.reduceAdd]
              obtain ⟨x, hx3, hxp, hx0, hx1⟩ := (hF 3 (by kernel_rfl)).2
              have hcv := HCV.out x hx0 hx1
              simp only [hx3]
              have hlate := hl 7 (by kernel_rfl)
              simp only [hlate, cond_false] at hS
              have e2 : (fset D 4 true) 7 = false := hlate
              go_simp
              simp only [yUpon]
              refine hK _ _ ⟨x, rfl, hxp, hx0, hx1⟩ ?_
              simp only [e2, cond_false]
              exact hS
            · intro D uu w' K hD hF hl hS hK
              simp only [puts, Act.put, List.setIfInBounds_toArray, List.set_cons_succ, List.set_cons_zero, Nat.zero_add, Nat.reduceAdd]
              go_simp
              simp only [yUpon]
              exact hK _ _ rfl hS
            · intro D uu w' K hD hF hl hS hK
              have f5 := (hF 5 (by kernel_rfl)).2
              simp only at f5
              simp only [puts, Act.put, List.setIfInBounds_toArray, List.set_cons_succ, List.set_cons_zero, Nat.zero_add, Nat.reduceAdd]
              simp only [f5]
              go_simp
              simp only [yUpon]
              exact hK _ _ rfl hS
            · intro D uu w' K hD hF hl hS hK
              have f0 := (hF 0 (by kernel_rfl)).2
              simp only at f0
              have f1 := (hF 1 (by kernel_rfl)).2
              simp only at f1
              have f6 := (hF 6 (by kernel_rfl)).2
              simp only at f6
              simp only [puts, Act.put, List.setIfInBounds_toArray, List.set_cons_succ, List.set_cons_zero, Nat.zero_add, Nat.reduceAdd]
              simp only [f0, f1, f6]
              obtain ⟨x, hx4, hxp, hx0, hx1⟩ := (hF 4 (by kernel_rfl)).2
              have d3 := (hF 3 (by kernel_rfl)).1
              simp only [hD, d3, cond_false, cond_true] at hS
              simp only [hx4]
              have e1 : (fset D 7 true) 7 = true := rfl
              have e2 : (fset D 7 true) 3 = true := d3
              go_simp
              simp only [yUpon]
              refine (HPT.out x _ (hS.dev 5 rfl) ⟨hx0, by omega⟩).mono ?_
              rintro e w1 ⟨rfl, hd, hkk⟩
              refine hK _ _ trivial ?_
              have e4 : ∀ v, xOf ((fset uu 7 v) 4) = x := fun v => by show xOf (uu 4) = x; rw [hx4]; rfl
              simp only [e1, e2, e4, cond_true]
              exact hS.did (i := 5) rfl hd hkk
          case fin =>
            intro D uu wf hall hS
            have f3 := (hall 3 (by simp)).1
            have f7 := (hall 7 (by simp)).1
            have v0 := (hall 0 (by simp)).2
            have v1 := (hall 1 (by simp)).2
            have v2 := (hall 2 (by simp)).2
            have v5 := (hall 5 (by simp)).2
            have v6 := (hall 6 (by simp)).2
            obtain ⟨x, v3, _⟩ := (hall 3 (by simp)).2
            obtain ⟨z, v4, hzp, hz0, hz1⟩ := (hall 4 (by simp)).2
            simp only at v0 v1 v2 v5 v6
            have e4 : xOf (uu 4) = z := by rw [v4]; rfl
            simp only [f3, f7, e4, cond_true] at hS
            have HS := Lib.hid hS
            have hl2 := HL.out.setName HK.out HMEM.out hlt2 HQ.out hzp ⟨by omega, by omega⟩
            have HL2 := Lib.hid hl2
            clear hall hS hl2
            simp only [puts, Act.put, List.setIfInBounds_toArray, List.set_cons_succ, List.set_cons_zero, Nat.zero_add, Nat.reduceAdd]
            simp only [v0, v1, v2, v3, v4, v5, v6]
            clear v0 v1 v2 v3 v4 v5 v6
            go_wp2
            exact ⟨⟨i + 1, t.store q z, n2 + 1, by omega, by first | rfl | go_num | simp, by omega, HL2.out, HS.out⟩, by simp [intOf]; omega⟩
        · have hlt2I : ¬ (i : Int) < (b : Int) := by omega
          have hs2 := HS.out.take 12
          have HS2 := Lib.hid hs2
          clear hs2
          go_wp2
          exact ⟨⟨_, _, _, _, _, _, _, ⟨j + 1, by omega, by first | rfl | go_num | simp, t, n2, by omega, HL.out, HS2.out⟩, rfl, rfl, rfl, rfl, rfl, rfl, rfl⟩, by simp [intOf]; omega⟩
    · have hltI : ¬ (j : Int) < (os.length : Int) := by omega
      have hnn : n ≤ 9000 := by omega
      have c1 := (HS.out.blk 8 rfl).cell 1
      simp at c1
      go_wp2_with fail
      clear c1
      go_loopw [23, 73] (fun _ v73 wr => ∃ (i : Nat) (t : St) (n2 : Nat), i ≤ k.R ∧ v73 = .int .i64 (i : Int) ∧ n2 ≤ n + i ∧ LinkS t k os u P ∧ Sep w [] [blkR gx 24 #[.int .u16 l, .int .u16 r, .int .u16 s], blkR g6 26 #[.slice NA nm.length NC], blkR g7 5 #[.int .u8 wg], blkR g9 30 #[.int .i64 0, .int .i64 0, .int .i64 0], blkR g10 33 #[.int .i64 0, .int .i64 0, .slice none 0 0], devR d (t), rowR 3 (.slice OA os.length OC) (atsOf os), rowR 38 (.slice RA RL RC) (uw rs), blkR g13 30 #[.int .i64 (k.L : Int), .int .i64 (k.R : Int), .int .i64 (k.S : Int)], blkR g14 33 #[.int .i64 0, .int .i64 (u : Int), .slice RA RL RC], blkR g15 34 #[.slice OA os.length OC], blkR gn 3 #[.int .i64 ((n2 : Nat) : Int)]] wr) (fun _ v73 _ => k.R - (intOf v73).toNat)
      case atStart => exact ⟨0, t, n, by omega, rfl, by omega, HL.out, HS.out⟩
      case round =>
        clear HS HL t
        obtain ⟨i, t, n2, hi, rfl, hn2, hlk, hs⟩ := hrel
        have HS := Lib.hid hs
        have HL := Lib.hid hlk
        clear hs hlk
        by_cases hlt2 : i < k.R
        · have hlt2I : (i : Int) < (k.R : Int) := by omega
          obtain ⟨q, hq⟩ : ∃ q, k.act + 2 + i = q := ⟨_, rfl⟩
          have HQ := Lib.hid hq
          have hqw : q < k.words := by have := Kfg.words_le HK.out; omega
          have hqw2 : k.words ≤ 10000 := (Kfg.words_le HK.out).2
          clear hq
          have c0 := (HS.out.blk 8 rfl).cell 0
          simp at c0
          have c1 := (HS.out.blk 8 rfl).cell 1
          simp at c1
          have c2 := (HS.out.blk 8 rfl).cell 2
          simp at c2
          go_wp2_with fail
          refine (kroot_eq k _ HK.out i q (by omega) HQ.out).mono ?_
          rintro e w6 ⟨rfl, hkk⟩
          replace HS := Lib.hid (HS.out.grow hkk)
          clear hkk c0 c1 c2
          go_wp2_with fail
          refine (HNEXT.out t n2 [] _ (by omega) HL.out.fill (by simpa using HS.out)).mono ?_
          rintro e w7 ⟨x, rfl, hxp, ⟨hx0, hx1⟩, hs1⟩
          rw [List.append_nil] at hs1
          replace HS := Lib.hid hs1
          have hl2 := HL.out.setRoot HK.out hlt2 HQ.out hxp ⟨by omega, by omega⟩
          have HL2 := Lib.hid hl2
          clear hs1 hl2
          go_wp2_with fail
          refine (store_free d t q x _ (HS.out.dev 5 rfl) HL.out.fill.use.lim (by rw [HL.out.fill.use.is.now]; exact hqw)).mono ?_
          rintro e w8 ⟨rfl, hd, hkk⟩
          replace HS := Lib.hid (HS.out.did (i := 5) rfl hd hkk)
          clear hd hkk
          go_wp2
          exact ⟨⟨i + 1, t.store q x, n2 + 1, by omega, by first | rfl | go_num | simp, by omega, HL2.out, HS.out⟩, by simp [intOf]; omega⟩
        · have hlt2I : ¬ (i : Int) < (k.R : Int) := by omega
          have c0 := (HS.out.blk 8 rfl).cell 0
          simp at c0
          have c1 := (HS.out.blk 8 rfl).cell 1
          simp at c1
          have c2 := (HS.out.blk 8 rfl).cell 2
          simp at c2
          go_wp2_with fail
          refine (rread_any d t k 0 u _ (HS.out.dev 5 rfl) HK.out HL.out.fill.use.is.now HL.out.fill.use.act HL.out.fill.use.used (by decide) HL.out.fill.le).mono ?_
          rintro e w6 ⟨rv2, rfl, hkk, hrow, hnew⟩
          obtain ⟨RA2, RC2, hv⟩ := rowR_val hrow
          subst hv
          simp only [rbC]
          replace HS := Lib.hid (HS.out.add hkk (r := rowR 38 (.slice RA2 (uw (rootsOf t k k.R)).length RC2) (uw (rootsOf t k k.R))) hrow hnew)
          obtain ⟨rs2, hrs2⟩ : ∃ rs2, rootsOf t k k.R = rs2 := ⟨_, rfl⟩
          rw [hrs2] at HS
          obtain ⟨RL2, hRL2⟩ : ∃ RL2, (uw rs2).length = RL2 := ⟨_, rfl⟩
          rw [hrs2, hRL2]
          rw [hRL2] at HS
          clear hkk hrow hnew c0 c1 c2
          have e0 := (HS.out.blk 9 rfl).cell 0
          simp at e0
          have e1 := (HS.out.blk 9 rfl).cell 1
          simp at e1
          have e2 := (HS.out.blk 9 rfl).cell 2
          simp at e2
          have z0 := (HS.out.blk 9 rfl).frozen 0
          have z1 := (HS.out.blk 9 rfl).frozen 1
          have z2 := (HS.out.blk 9 rfl).frozen 2
          have hS3 := ((HS.out.put (i := 9) rfl 0 (.int .i64 0)).put (i := 9) rfl 1 (.int .i64 (u : Int))).put (i := 9) rfl 2 (.slice RA2 RL2 RC2)
          have HS3 := Lib.hid hS3
          clear hS3
          go_upto_region 24 with fail
          generalize ((w6.setCell _ _).setCell _ _).setCell _ _ = w7 at *
          clear HS e0 e1 e2 z0 z1 z2
          replace HS : Hid (Sep w [] [blkR gx 24 #[.int .u16 l, .int .u16 r, .int .u16 s], blkR g6 26 #[.slice NA nm.length NC], blkR g7 5 #[.int .u8 wg], blkR g9 30 #[.int .i64 0, .int .i64 0, .int .i64 0], blkR g10 33 #[.int .i64 0, .int .i64 0, .slice none 0 0], devR d (t), rowR 3 (.slice OA os.length OC) (atsOf os), rowR 38 (.slice RA RL RC) (uw rs), blkR g13 30 #[.int .i64 (k.L : Int), .int .i64 (k.R : Int), .int .i64 (k.S : Int)], blkR g14 33 #[.int .i64 0, .int .i64 (u : Int), .slice RA2 RL2 RC2], blkR g15 34 #[.slice OA os.length OC], blkR gn 3 #[.int .i64 ((n2 : Nat) : Int)], rowR 38 (.slice RA2 RL2 RC2) (uw rs2)] w7) := HS3
          clear HS3
          refine wp_region_st3 (W := w) (S := []) (by kernel_rfl) (by kernel_rfl) (by kernel_rfl) (fun D uu => [blkR gx 24 #[.int .u16 l, .int .u16 r, .int .u16 s], blkR g6 26 #[.slice NA nm.length NC], blkR g7 5 #[.int .u8 wg], blkR g9 30 (bif D 5 then #[.int .i64 (k.L : Int), .int .i64 (k.R : Int), .int .i64 (k.S : Int)] else #[.int .i64 0, .int .i64 0, .int .i64 0]), blkR g10 33 (bif D 6 then #[.int .i64 0, .int .i64 (u : Int), .slice RA2 RL2 RC2] else #[.int .i64 0, .int .i64 0, .slice none 0 0]), devR d (t), rowR 3 (.slice OA os.length OC) (atsOf os), rowR 38 (.slice RA RL RC) (uw rs), blkR g13 30 #[.int .i64 (k.L : Int), .int .i64 (k.R : Int), .int .i64 (k.S : Int)], blkR g14 33 #[.int .i64 0, .int .i64 (u : Int), .slice RA2 RL2 RC2], blkR g15 34 #[.slice OA os.length OC], blkR gn 3 #[.int .i64 ((n2 : Nat) : Int)], rowR 38 (.slice RA2 RL2 RC2) (uw rs2)])
            (fun j v => match j with
              | 0 => v = .pointer (some ⟨d.b, 0, none⟩)
              | 1 => v = .agg #[.int .i64 (k.L : Int), .int .i64 (k.R : Int), .int .i64 (k.S : Int)]
              | 2 => v = .agg #[.int .i64 0, .int .i64 (u : Int), .slice RA2 RL2 RC2]
              | 3 => v = .slice OA os.length OC
              | 4 => v = .pointer (some ⟨d.b, 0, none⟩)
              | 7 => v = .slice OA os.length OC
              | _ => True) ?start ?step ?fin
          case start => exact fun u => HS.out
          case step =>
            clear HS
            refine ⟨?_, ?_, ?_, ?_, ?_, ?_, ?_, ?_, trivial⟩
            · intro D uu w' K hD hF hl hS hK
              simp only [puts, Act.put, List.setIfInBounds_toArray, List.set_cons_succ, List.set_cons_zero, Nat.zero_add, Nat.reduceAdd]
              go_simp
              simp only [yUpon]
              exact hK _ _ rfl hS
            · intro D uu w' K hD hF hl hS hK
              simp only [puts, Act.put, List.setIfInBounds_toArray, List.set_cons_succ, List.set_cons_zero, Nat.zero_add, Nat.reduceAdd]
              have x0 := (hS.blk 8 rfl).cell 0
              have x1 := (hS.blk 8 rfl).cell 1
              have x2 := (hS.blk 8 rfl).cell 2
              simp at x0 x1 x2
              go_simp
              simp only [yUpon]
              exact hK _ _ rfl hS
            · intro D uu w' K hD hF hl hS hK
              simp only [puts, Act.put, List.setIfInBounds_toArray, List.set_cons_succ, List.set_cons_zero, Nat.zero_add, Nat.reduceAdd]
              have x0 := (hS.blk 9 rfl).cell 0
              have x1 := (hS.blk 9 rfl).cell 1
              have x2 := (hS.blk 9 rfl).cell 2
              simp at x0 x1 x2
              go_simp
              simp only [yUpon]
              exact hK _ _ rfl hS
            · intro D uu w' K hD hF hl hS hK
              simp only [puts, Act.put, List.setIfInBounds_toArray, List.set_cons_succ, List.set_cons_zero, Nat.zero_add, Nat.reduceAdd]
              have x0 := (hS.blk 10 rfl).cell 0
              simp at x0
              go_simp
              simp only [yUpon]
              exact hK _ _ rfl hS
            · intro D uu w' K hD hF hl hS hK
              have f0 := (hF 0 (by kernel_rfl)).2
              simp only at f0
              simp only [puts, Act.put, List.setIfInBounds_toArray, List.set_cons_succ, List.set_cons_zero, Nat.zero_add, Nat.reduceAdd]
              simp only [f0]
              go_simp
              simp only [yUpon]
              exact hK _ _ rfl hS
            · intro D uu w' K hD hF hl hS hK
              have f1 := (hF 1 (by kernel_rfl)).2
              simp only at f1
              simp only [puts, Act.put, List.setIfInBounds_toArray, List.set_cons_succ, List.set_cons_zero, Nat.zero_add, Nat.reduceAdd]
              simp only [f1]
              simp only [hD, cond_false] at hS
              have x0 := (hS.blk 3 rfl).cell 0
              have x1 := (hS.blk 3 rfl).cell 1
              have x2 := (hS.blk 3 rfl).cell 2
              simp at x0 x1 x2
              have z0 := (hS.blk 3 rfl).frozen 0
              have z1 := (hS.blk 3 rfl).frozen 1
              have z2 := (hS.blk 3 rfl).frozen 2
              have hput := ((hS.put (i := 3) rfl 0 (.int .i64 (k.L : Int))).put (i := 3) rfl 1 (.int .i64 (k.R : Int))).put (i := 3) rfl 2 (.int .i64 (k.S : Int))
              have e1 : (fset D 5 true) 5 = true := rfl
              go_simp
              simp only [yUpon]
              refine hK _ _ trivial ?_
              simp only [e1, cond_true]
              exact hput
            · intro D uu w' K hD hF hl hS hK
              have f2 := (hF 2 (by kernel_rfl)).2
              simp only at f2
              simp only [puts, Act.put, List.setIfInBounds_toArray, List.set_cons_succ, List.set_cons_zero, Nat.zero_add, Nat.reduceAdd]
              simp only [f2]
              simp only [hD, cond_false] at hS
              have x0 := (hS.blk 4 rfl).cell 0
              have x1 := (hS.blk 4 rfl).cell 1
              have x2 := (hS.blk 4 rfl).cell 2
              simp at x0 x1 x2
              have z0 := (hS.blk 4 rfl).frozen 0
              have z1 := (hS.blk 4 rfl).frozen 1
              have z2 := (hS.blk 4 rfl).frozen 2
              have hput := ((hS.put (i := 4) rfl 0 (.int .i64 0)).put (i := 4) rfl 1 (.int .i64 (u : Int))).put (i := 4) rfl 2 (.slice RA2 RL2 RC2)
              have e1 : (fset D 6 true) 6 = true := rfl
              go_simp
              simp only [yUpon]
              refine hK _ _ trivial ?_
              simp only [e1, cond_true]
              exact hput
            · intro D uu w' K hD hF hl hS hK
              have f3 := (hF 3 (by kernel_rfl)).2
              simp only at f3
              simp only [puts, Act.put, List.setIfInBounds_toArray, List.set_cons_succ, List.set_cons_zero, Nat.zero_add, Nat.reduceAdd]
              simp only [f3]
              go_simp
              simp only [yUpon]
              exact hK _ _ rfl hS
          case fin =>
            intro D uu wf hall hS
            have f5 := (hall 5 (by simp)).1
            have f6 := (hall 6 (by simp)).1
            have v0 := (hall 0 (by simp)).2
            have v1 := (hall 1 (by simp)).2
            have v2 := (hall 2 (by simp)).2
            have v3 := (hall 3 (by simp)).2
            have v4 := (hall 4 (by simp)).2
            have v7 := (hall 7 (by simp)).2
            simp only at v0 v1 v2 v3 v4 v7
            simp only [f5, f6, cond_true] at hS
            have HS := Lib.hid hS
            clear hall hS
            simp only [puts, Act.put, List.setIfInBounds_toArray, List.set_cons_succ, List.set_cons_zero, Nat.zero_add, Nat.reduceAdd]
            simp only [v0, v1, v2, v3, v4, v7]
            clear v0 v1 v2 v3 v4 v7
            go_wp2
            have hb1 := HS.out.blk 3 rfl
            have hb2 := HS.out.blk 4 rfl
            have ld1 : (loadVar 30 ⟨g9, 0, none⟩).run Try.prog wf = .ok (.agg #[.int .i64 (k.L : Int), .int .i64 (k.R : Int), .int .i64 (k.S : Int)]) wf := run_loadVar_mid wf g9 0 30 [.int .i64 (k.L : Int), .int .i64 (k.R : Int), .int .i64 (k.S : Int)] ((Try.prog.underlying 30).getD (.int .i64)) (fun j v hv => by rw [Nat.zero_add, hb1.cell]; simpa using hv) (by kernel_rfl) (by kernel_rfl) (by kernel_rfl)
            have ld2 : (loadVar 33 ⟨g10, 0, none⟩).run Try.prog wf = .ok (.agg #[.int .i64 0, .int .i64 (u : Int), .slice RA2 RL2 RC2]) wf := run_loadVar_mid wf g10 0 33 [.int .i64 0, .int .i64 (u : Int), .slice RA2 RL2 RC2] ((Try.prog.underlying 33).getD (.int .i64)) (fun j v hv => by rw [Nat.zero_add, hb2.cell]; simpa using hv) (by kernel_rfl) (by kernel_rfl) (by kernel_rfl)
            refine bodyPost_ret (v := .tuple #[.pointer (some ⟨d.b, 0, none⟩), .agg #[.int .i64 (k.L : Int), .int .i64 (k.R : Int), .int .i64 (k.S : Int)], .agg #[.int .i64 0, .int .i64 (u : Int), .slice RA2 RL2 RC2], .slice OA os.length OC]) ?_ rfl ?_
            · rw [results_4 (fn := Try.f7) (p := 8) (q := 9) (r := 10) (s := 11) (ty := 30) (tz := 33) (a1 := ⟨g9, 0, none⟩) (a2 := ⟨g10, 0, none⟩) rfl _ _ _ ?h1 ?h2 ld1 ld2]
              · rfl
              · rfl
              · rfl
            refine ⟨d, t, .slice RA2 RL2 RC2, .slice OA os.length OC, rfl, by rw [HPP.out]; exact HL.out, ?_⟩
            rw [hrs2]
            have hp : Sep w [] [devR d t, rowR 3 (.slice OA os.length OC) (atsOf os), rowR 38 (.slice RA2 RL2 RC2) (uw rs2)] wf := (((HS.out.dropN 5).perm (show List.Perm _ ([devR d t, rowR 3 (.slice OA os.length OC) (atsOf os), rowR 38 (.slice RA2 RL2 RC2) (uw rs2)] ++ [rowR 38 (.slice RA RL RC) (uw rs), blkR g13 30 #[.int .i64 (k.L : Int), .int .i64 (k.R : Int), .int .i64 (k.S : Int)], blkR g14 33 #[.int .i64 0, .int .i64 (u : Int), .slice RA2 RL2 RC2], blkR g15 34 #[.slice OA os.length OC], blkR gn 3 #[.int .i64 ((n2 : Nat) : Int)]]) from List.Perm.cons _ (List.Perm.cons _ (List.perm_append_comm (l₁ := [_, _, _, _, _]) (l₂ := [_])))))).take 3
            exact hp
end Go.Proofs.Ytbdomdmnjclpdaa
