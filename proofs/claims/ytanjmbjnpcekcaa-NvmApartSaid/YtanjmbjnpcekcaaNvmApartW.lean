/-
  The walk of tumuluslaw02.NvmApart.
-/
import Derived.Test.YtanjmbjnpcekcaaAwk2
import Derived.Test.YtanjmbjnpcekcaaEq
import Derived.Test.YtanjmbjnpcekcaaRel
import Derived.Test.YtanjmbjnpcekcaaOpen
set_option linter.unusedSimpArgs false
set_option linter.unusedVariables false
namespace Go.Proofs.Ytanjmbjnpcekcaa
open Go.RowKit Go.Shelf

theorem slice_h {P : Program} {T E : TypeId} (hT : P.underlying T = some (.slice E)) (hE : (P.info? E).map (·.size) = some 1) (g n c h : Nat) (k : IntKind) (b : Int) (hb : b = h) (h2 : h ≤ c) (w : World) :
    (Instr.slice T (.slice (some ⟨g, 0, none⟩) n c) none (some (.int k b)) none).run P w = .ok (.slice (some ⟨g, 0, none⟩) h c) w := by
  subst hb
  have e2 : (h : Int) ≤ (c : Int) := by omega
  by_cases e3 : c = 0
  · obtain rfl : h = 0 := by omega
    subst e3
    simp [Instr.slice, run_underlying hT, Instr.sliceBounds, run_sliceBound, e2, sizeOf_run hE, Addr.add_mid]
  · simp [Instr.slice, run_underlying hT, Instr.sliceBounds, run_sliceBound, e2, sizeOf_run hE, e3, Addr.add_mid]

set_option maxRecDepth 100000 in
set_option maxHeartbeats 2000000 in
theorem NvmApart.core (v0 : Value) (xs : List Int) (at_ : Int) (w : World) (hv : Rd w v0 (uw xs)) (hx : ∀ x ∈ xs, 0 ≤ x ∧ x ≤ 18446744073709551615) (hm : xs.length ≤ maxLen) (a0 : 0 ≤ at_) (a1 : at_ ≤ 255) :
    Calls Try.prog 3 #[v0, .int .u8 at_] w fun e w' => e = .returned (.bool true) ∧ Keep w.heap.size [] w w' := by
  simp only [maxLen] at hm
  obtain ⟨A, c, rfl, hrd⟩ := hv.cellAt
  have HV := Lib.hid hv
  have HRD := Lib.hid hrd
  have HX := Lib.hid hx
  clear hv hrd hx
  by_cases hbig : 40 < xs.length
  · have hbI : (40 : Int) < xs.length := by omega
    go_enter Try.func3, Try.ntmps3
    go_wp2_with fail
    refine (awake2_any w).mono ?_
    rintro e w1 ⟨rfl, hk1⟩
    have HK1 := Lib.hid hk1
    clear hk1
    go_wp2
    go_ret
    exact ⟨rfl, HK1.out⟩
  by_cases hnil : xs.length = 0
  · have hbI : (xs.length : Int) = 0 := by omega
    rw [hnil]
    go_enter Try.func3, Try.ntmps3
    go_wp2_with fail
    refine (awake2_any w).mono ?_
    rintro e w1 ⟨rfl, hk1⟩
    have HK1 := Lib.hid hk1
    clear hk1
    go_wp2
    go_ret
    exact ⟨rfl, HK1.out⟩
  obtain ⟨g0, o0, rfl, _⟩ := HRD.out 0 (by omega)
  have hn0 : (xs.length : Int) ≤ 40 := by omega
  have hn1 : (0 : Int) < xs.length := by omega
  have hd1 : decide ((40 : Int) < xs.length) = false := by simp; omega
  have hd2 : ((xs.length : Int) == 0) = false := by rw [beq_eq_false_iff_ne]; omega
  obtain ⟨k, hk⟩ : ∃ k : Nat, at_.tmod xs.length = k := by
    rw [Int.tmod_eq_emod_of_nonneg a0]
    exact ⟨(at_ % xs.length).toNat, (Int.toNat_of_nonneg (Int.emod_nonneg at_ (show (xs.length : Int) ≠ 0 by omega))).symm⟩
  have hkl : k < xs.length := by
    have h1 := Int.emod_lt_of_pos at_ hn1
    rw [Int.tmod_eq_emod_of_nonneg a0] at hk
    rw [hk] at h1
    omega
  have hkI : (k : Int) < xs.length := by omega
  go_enter Try.func3, Try.ntmps3
  go_wp2_with fail
  refine (awake2_any w).mono ?_
  rintro e w1 ⟨rfl, hk1⟩
  have HK1 := Lib.hid hk1
  have HV1 := Lib.hid (HV.out.keep hk1)
  clear hk1
  go_wp2_with fail
  have hcl := clone_any g0 o0 c (uw xs) w1 (fun j u hu => by
    obtain ⟨A', c', hA, h1⟩ := HV1.out
    injection hA with e1 e2 e3
    obtain ⟨g, off, h2, h3⟩ := h1 (by simp [uw]; omega)
    rw [h2] at e1
    injection e1 with e1
    injection e1 with e1 e4
    subst e1 e4
    exact h3 j u hu) (uw_one _) (by simp [uw]; omega)
  rw [show (uw xs).length = xs.length by simp [uw]] at hcl
  refine hcl.mono ?_
  rintro e w2 ⟨v, g2, ex2, rfl, hv2, hb2, hg2, hk2⟩
  rw [show (uw xs).length = xs.length by simp [uw]] at hv2
  subst hv2
  have HK2 : Hid (Keep w.heap.size [] w w2) := HK1.out.join hk2 HK1.out.size (by simp)
  have HG2 : Hid (w.heap.size ≤ g2) := Nat.le_trans HK1.out.size hg2
  have HV2 := Lib.hid (HV1.out.keep hk2)
  have HB2 := Lib.hid hb2
  clear hcl hk2 hg2 hb2 HV1 HK1
  go_wp2_with fail
  refine (new2_any _ xs w2 (by
    have := Rd.of_blk (n := xs.length + ex2.length) HB2.out
    rwa [show (uw xs).length = xs.length by simp [uw]] at this) (by omega)).mono ?_
  rintro e w3 ⟨d, rfl, hdb, hd, hk3⟩
  have HK3 : Hid (Keep w.heap.size [] w w3) := HK2.out.join hk3 HK2.out.size (by simp)
  have HDB : Hid (∀ k ∈ d.blocks, w.heap.size ≤ k ∧ k ≠ g2) := fun k hk => ⟨Nat.le_trans HK2.out.size (hdb k hk), fun e => by have := hdb k hk; have := HB2.out.lt; omega⟩
  have HV3 := Lib.hid (HV2.out.keep hk3)
  have hb3 := HB2.out.keep hk3 HB2.out.lt (by simp)
  have HD := Lib.hid hd
  have HB3 := Lib.hid hb3
  obtain ⟨x, hxk⟩ : ∃ x, xs[k] = x := ⟨_, rfl⟩
  have hx0 : 0 ≤ x ∧ x ≤ 18446744073709551615 := by rw [← hxk]; exact HX.out _ (by simp)
  have hc3 : w3.cell? ⟨g2, k, none⟩ = some (.int .u64 x) := by
    rw [hb3.cell]
    have : (uw xs)[k]? = some (.int .u64 x) := by simp [uw, hkl, hxk]
    simp only [List.getElem?_toArray]
    rw [List.getElem?_append_left (by simp [uw, hkl]), this]
  have hf3 := hb3.frozen k
  clear hdb hd hk3 hb3 HB2 HV2 HK2
  go_wp2_with fail
  obtain ⟨x', hx'⟩ : ∃ x', IntKind.u64.wrap (x + 1) = x' := ⟨_, rfl⟩
  rw [hx']
  have hk4 : Keep w.heap.size [] w (w3.setCell ⟨g2, k, none⟩ (.int .u64 x')) := HK3.out.setCell (fun h => by have := HG2.out; simp at h; omega) _
  have hd4 : Dev (w3.setCell ⟨g2, k, none⟩ (.int .u64 x')) d (St.fresh (-1) 0 xs) := HD.out.same fun j hj => Below.heap_setCell _ _ _ _ (fun e => (HDB.out j hj).2 (by simpa using e))
  generalize w3.setCell ⟨g2, k, none⟩ (.int .u64 x') = w4 at *
  obtain ⟨n8, hn8⟩ : ∃ n8, (uw (pad xs)).length = n8 := ⟨_, rfl⟩
  have hle : xs.length ≤ n8 ∧ n8 ≤ 47 := by
    rw [← hn8]
    have := pad_length xs
    simp only [uw, List.length_map]
    omega
  have hpk : (uw (pad xs))[k]? = some (.int .u64 x) := by
    simp only [uw, pad, List.map_append]
    rw [List.getElem?_append_left (by simpa using hkl)]
    simp [hkl, hxk]
  have hn8I : (k : Int) < n8 := by omega
  have HK4 := Lib.hid hk4
  have HD4 := Lib.hid hd4
  have HPK := Lib.hid hpk
  clear hk4 hd4 HK3 HD HB3 hc3 hf3 hpk
  refine (words_any d _ w4 HD4.out).mono ?_
  rintro e w5 ⟨v, ga, exa, rfl, hva, hba, hga, hk5⟩
  rw [show (St.fresh (-1) 0 xs).now = pad xs from rfl] at hva hba
  rw [hn8] at hva
  subst hva
  have HK5 : Hid (Keep w.heap.size [] w w5) := HK4.out.join hk5 HK4.out.size (by simp)
  have HD5 := Lib.hid (HD4.out.of_new hk5)
  have HA5 := Lib.hid hba
  have HGA : Hid (w4.heap.size ≤ ga) := hga
  have HLA : Hid (∀ j ∈ d.blocks, j < w4.heap.size) := HD4.out.lt
  clear hba hga hk5
  go_wp2_with fail
  refine (kept_any d _ w5 HD5.out).mono ?_
  rintro e w6 ⟨v, gb, exb, rfl, hvb, hbb, hgb, hk6⟩
  rw [show (St.fresh (-1) 0 xs).kept = pad xs from rfl] at hvb hbb
  rw [hn8] at hvb
  subst hvb
  have HK6 : Hid (Keep w.heap.size [] w w6) := HK5.out.join hk6 HK5.out.size (by simp)
  have hd6 := HD5.out.of_new hk6
  have ha6 := HA5.out.keep hk6 HA5.out.lt (by simp)
  have hab : ga ≠ gb := by have := HA5.out.lt; omega
  have HBL : Hid (∀ j ∈ d.blocks, j ≠ ga ∧ j ≠ gb) := fun j hj => by
    have h1 := HLA.out j hj
    have h2 := HGA.out
    have h3 := HD5.out.lt j hj
    omega
  have HGW : Hid (w.heap.size ≤ ga ∧ w.heap.size ≤ gb) := by
    have h1 := HK4.out.size
    have h2 := HGA.out
    have h3 := HK5.out.size
    exact ⟨by omega, by omega⟩
  have ca : w6.cell? ⟨ga, k, none⟩ = some (.int .u64 x) := by
    rw [ha6.cell]
    simp only [List.getElem?_toArray]
    rw [List.getElem?_append_left (by rw [hn8]; omega), HPK.out]
  have cb : w6.cell? ⟨gb, k, none⟩ = some (.int .u64 x) := by
    rw [hbb.cell]
    simp only [List.getElem?_toArray]
    rw [List.getElem?_append_left (by rw [hn8]; omega), HPK.out]
  have fa := ha6.frozen k
  obtain ⟨x5, hx5⟩ : ∃ x5, IntKind.u64.wrap (x + 5) = x5 := ⟨_, rfl⟩
  obtain ⟨x7, hx7⟩ : ∃ x7, IntKind.u64.wrap (x + 7) = x7 := ⟨_, rfl⟩
  have hbf := hbb.far (p := ⟨ga, k, none⟩) (fun e => hab e.symm) (.int .u64 x5)
  have cb2 : (w6.setCell ⟨ga, k, none⟩ (.int .u64 x5)).cell? ⟨gb, k, none⟩ = some (.int .u64 x) := by
    rw [hbf.cell]
    simp only [List.getElem?_toArray]
    rw [List.getElem?_append_left (by rw [hn8]; omega), HPK.out]
  have fb := hbf.frozen k
  have HD6 := Lib.hid hd6
  have HAB := Lib.hid hab
  clear hbf hd6 ha6 hbb hgb hk6 hab HA5 HD5 HK5 HD4 HK4
  go_wp2_with fail
  go_big_region
  have hk7 : Keep w.heap.size [] w ((w6.setCell ⟨ga, k, none⟩ (.int .u64 x5)).setCell ⟨gb, k, none⟩ (.int .u64 x7)).drew := ((HK6.out.setCell (p := ⟨ga, k, none⟩) (fun h => absurd HGW.out.1 (by simpa using h)) (.int .u64 x5)).setCell (p := ⟨gb, k, none⟩) (fun h => absurd HGW.out.2 (by simpa using h)) (.int .u64 x7)).drew
  have hd7 : Dev ((w6.setCell ⟨ga, k, none⟩ (.int .u64 x5)).setCell ⟨gb, k, none⟩ (.int .u64 x7)).drew d (St.fresh (-1) 0 xs) := HD6.out.same fun j hj => by
    obtain ⟨h1, h2⟩ := HBL.out j hj
    exact (Below.heap_setCell _ _ _ _ (by simpa using h2)).trans (Below.heap_setCell _ _ _ _ (by simpa using h1))
  generalize ((w6.setCell ⟨ga, k, none⟩ (.int .u64 x5)).setCell ⟨gb, k, none⟩ (.int .u64 x7)).drew = w7 at *
  have HK7 := Lib.hid hk7
  have HD7 := Lib.hid hd7
  clear hk7 hd7 HK6 HD6 ca cb cb2 fa fb
  go_wp2_with fail
  have hv7 := HV.out.keep HK7.out
  have hxc : ∀ y : Ext w7, y.now.cell? ⟨g0, o0 + k, none⟩ = some (.int .u64 x) := fun y => by
    obtain ⟨A', c', hA, h1⟩ := hv7.keep y.keep
    injection hA with e1 e2 e3
    obtain ⟨g, off, h2, h3⟩ := h1 (by simp [uw]; omega)
    rw [h2] at e1
    injection e1 with e1
    injection e1 with e1 e4
    subst e1 e4
    exact h3 k _ (by simp [uw, hkl, hxk])
  have hld : ∀ y : Ext w7, Calls Try.prog 18 #[.pointer (some ⟨d.b, 0, none⟩), .int .i64 k] y.now fun e w' => e = .returned (.int .u64 x) ∧ y.now = w' := fun y => by
    have := load_any d _ k y.now (HD7.out.of_new y.keep)
    rwa [show wordAt (St.fresh (-1) 0 xs).now (k : Int) = x by
      have h := HPK.out
      simp only [uw, List.getElem?_map, Option.map_eq_some_iff] at h
      obtain ⟨z, hz, he⟩ := h
      injection he with _ he
      subst he
      simp [wordAt, St.fresh, hz]] at this
  have heq : ∀ (v : Value) (y : Ext w7), Rd y.now v (uw xs) → Calls Try.prog 19 #[v, .slice (some ⟨g0, o0, none⟩) xs.length c] y.now fun e w' => e = .returned (.bool true) ∧ Keep y.now.heap.size [] y.now w' := fun v y hr => by
    have := equal_any v _ xs xs y.now hr (hv7.keep y.keep) (by omega)
    rwa [decide_eq_true rfl] at this
  have htk : (uw (pad xs)).take xs.length = uw xs := by
    simp only [uw, pad, List.map_append]
    rw [List.take_append_of_le_length (by simp), List.take_of_length_le (by simp)]
  refine wp_region_rel (by kernel_rfl) (by kernel_rfl) (by kernel_rfl) ?_
  simp only [puts, Act.put, List.setIfInBounds_toArray, List.set_cons_succ, List.set_cons_zero, Nat.zero_add, Nat.reduceAdd]
  repeat (apply wpRel_is; (focus (intro u y K hK; simp only [sure, told, lay, Region.binds, List.getElem?_cons_zero, List.getElem?_cons_succ, List.getElem?_nil, if_true, Nat.reduceBEq, cond_true, cond_false]; intros; go_simp; simp only [yUpon]; with_reducible refine hK y (Keep.refl _ _ _))); simp only [List.nil_append, List.cons_append])
  apply wpRel_is
  · intro u y K hK
    simp only [sure, told, lay, Region.binds, List.getElem?_cons_zero, List.getElem?_cons_succ, List.getElem?_nil, if_true, Nat.reduceBEq, cond_true, cond_false]
    go_simp
    simp only [yUpon]
    refine (hld y).mono ?_
    rintro e w' ⟨rfl, rfl⟩
    exact hK y (Keep.refl _ _ _)
  simp only [List.nil_append, List.cons_append]
  repeat (apply wpRel_is; (focus (intro u y K hK; simp only [sure, told, lay, Region.binds, List.getElem?_cons_zero, List.getElem?_cons_succ, List.getElem?_nil, if_true, Nat.reduceBEq, cond_true, cond_false]; intros; go_simp; simp only [yUpon]; with_reducible refine hK y (Keep.refl _ _ _))); simp only [List.nil_append, List.cons_append])
  refine wpRel_so (fun v w' => RowAt w' v (uw (pad xs))) (fun v w1 w2 h hk => h.keep hk) ?_ ?_
  · intro u y K hK
    simp only [sure, told, lay, Region.binds, List.getElem?_cons_zero, List.getElem?_cons_succ, List.getElem?_nil, if_true, Nat.reduceBEq, cond_true, cond_false]
    go_simp
    simp only [yUpon]
    refine (words_any d _ y.now (HD7.out.of_new y.keep)).mono ?_
    rintro e w' ⟨v, g, ex, rfl, hn⟩
    exact hK v ⟨w', y.keep.join hn.keep y.keep.size (by simp)⟩ hn.keep hn.at_
  simp only [List.nil_append, List.cons_append]
  repeat (apply wpRel_is; (focus (intro u y K hK; simp only [sure, told, lay, Region.binds, List.getElem?_cons_zero, List.getElem?_cons_succ, List.getElem?_nil, if_true, Nat.reduceBEq, cond_true, cond_false]; intros; go_simp; simp only [yUpon]; with_reducible refine hK y (Keep.refl _ _ _))); simp only [List.nil_append, List.cons_append])
  refine wpRel_so (fun v w' => Rd w' v (uw xs)) (fun v w1 w2 h hk => h.keep hk) ?_ ?_
  · intro u y K hK
    simp only [sure, told, lay, Region.binds, List.getElem?_cons_zero, List.getElem?_cons_succ, List.getElem?_nil, if_true, Nat.reduceBEq, cond_true, cond_false]
    rintro ⟨g, m, hu, hm, hc⟩
    rw [hn8] at hu hm
    have hsl := fun w => slice_h (P := Try.prog) underlying_words size_word g n8 m xs.length .i64 xs.length rfl (by omega) w
    simp only [hu]
    go_simp
    simp only [yUpon]
    exact hK _ y (Keep.refl _ _ _) (Rd.take hc htk (by rw [hn8]; omega))
  simp only [List.nil_append, List.cons_append]
  repeat (apply wpRel_is; (focus (intro u y K hK; simp only [sure, told, lay, Region.binds, List.getElem?_cons_zero, List.getElem?_cons_succ, List.getElem?_nil, if_true, Nat.reduceBEq, cond_true, cond_false]; intros; go_simp; simp only [yUpon]; with_reducible refine hK y (Keep.refl _ _ _))); simp only [List.nil_append, List.cons_append])
  apply wpRel_is
  · intro u y K hK
    simp only [sure, told, lay, Region.binds, List.getElem?_cons_zero, List.getElem?_cons_succ, List.getElem?_nil, if_true, Nat.reduceBEq, cond_true, cond_false]
    go_simp
    simp only [yUpon]
    intro hr _
    refine (heq _ y hr).mono ?_
    rintro e w' ⟨rfl, hk⟩
    exact hK ⟨w', y.keep.join hk y.keep.size (by simp)⟩ hk
  simp only [List.nil_append, List.cons_append]
  repeat (apply wpRel_is; (focus (intro u y K hK; simp only [sure, told, lay, Region.binds, List.getElem?_cons_zero, List.getElem?_cons_succ, List.getElem?_nil, if_true, Nat.reduceBEq, cond_true, cond_false]; intros; go_simp; simp only [yUpon]; with_reducible refine hK y (Keep.refl _ _ _))); simp only [List.nil_append, List.cons_append])
  refine wpRel_so (fun v w' => RowAt w' v (uw (pad xs))) (fun v w1 w2 h hk => h.keep hk) ?_ ?_
  · intro u y K hK
    simp only [sure, told, lay, Region.binds, List.getElem?_cons_zero, List.getElem?_cons_succ, List.getElem?_nil, if_true, Nat.reduceBEq, cond_true, cond_false]
    go_simp
    simp only [yUpon]
    refine (kept_any d _ y.now (HD7.out.of_new y.keep)).mono ?_
    rintro e w' ⟨v, g, ex, rfl, hn⟩
    exact hK v ⟨w', y.keep.join hn.keep y.keep.size (by simp)⟩ hn.keep hn.at_
  simp only [List.nil_append, List.cons_append]
  repeat (apply wpRel_is; (focus (intro u y K hK; simp only [sure, told, lay, Region.binds, List.getElem?_cons_zero, List.getElem?_cons_succ, List.getElem?_nil, if_true, Nat.reduceBEq, cond_true, cond_false]; intros; go_simp; simp only [yUpon]; with_reducible refine hK y (Keep.refl _ _ _))); simp only [List.nil_append, List.cons_append])
  refine wpRel_so (fun v w' => Rd w' v (uw xs)) (fun v w1 w2 h hk => h.keep hk) ?_ ?_
  · intro u y K hK
    simp only [sure, told, lay, Region.binds, List.getElem?_cons_zero, List.getElem?_cons_succ, List.getElem?_nil, if_true, Nat.reduceBEq, cond_true, cond_false]
    rintro ⟨g, m, hu, hm, hc⟩
    rw [hn8] at hu hm
    have hsl := fun w => slice_h (P := Try.prog) underlying_words size_word g n8 m xs.length .i64 xs.length rfl (by omega) w
    simp only [hu]
    go_simp
    simp only [yUpon]
    exact hK _ y (Keep.refl _ _ _) (Rd.take hc htk (by rw [hn8]; omega))
  simp only [List.nil_append, List.cons_append]
  repeat (apply wpRel_is; (focus (intro u y K hK; simp only [sure, told, lay, Region.binds, List.getElem?_cons_zero, List.getElem?_cons_succ, List.getElem?_nil, if_true, Nat.reduceBEq, cond_true, cond_false]; intros; go_simp; simp only [yUpon]; with_reducible refine hK y (Keep.refl _ _ _))); simp only [List.nil_append, List.cons_append])
  apply wpRel_is
  · intro u y K hK
    simp only [sure, told, lay, Region.binds, List.getElem?_cons_zero, List.getElem?_cons_succ, List.getElem?_nil, if_true, Nat.reduceBEq, cond_true, cond_false]
    go_simp
    simp only [yUpon]
    intro hr _
    refine (heq _ y hr).mono ?_
    rintro e w' ⟨rfl, hk⟩
    exact hK ⟨w', y.keep.join hk y.keep.size (by simp)⟩ hk
  simp only [List.nil_append, List.cons_append]
  repeat (apply wpRel_is; (focus (intro u y K hK; simp only [sure, told, lay, Region.binds, List.getElem?_cons_zero, List.getElem?_cons_succ, List.getElem?_nil, if_true, Nat.reduceBEq, cond_true, cond_false]; intros; go_simp; simp only [yUpon]; with_reducible refine hK y (Keep.refl _ _ _))); simp only [List.nil_append, List.cons_append])
  refine wpRel_nil ?_
  intro u y h
  have h26 : u 26 = .bool true := h 26 _ rfl
  have hk := y.keep
  have HY := Lib.hid hk
  clear h hk
  simp only [h26]
  go_wp2
  go_ret
  exact ⟨rfl, HK7.out.join HY.out HK7.out.size (by simp)⟩

theorem NvmApart.walk {v0 : Value} {w : World} (xs : List Int) (hv : Rd w v0 (uw xs)) (hx : ∀ x ∈ xs, lowest .u64 ≤ x ∧ x ≤ greatest .u64) (hm : xs.length ≤ maxLen) (at_ : Int) (a0 : lowest .u8 ≤ at_) (a1 : at_ ≤ greatest .u8) :
    Calls Try.prog 3 #[v0, .int .u8 at_] w fun e w' => e = .returned (.bool true) ∧ Below w.heap.size w w' := by
  simp [lowest, greatest] at a0 a1
  exact (NvmApart.core v0 xs at_ w hv (fun x hm => by have := hx x hm; simpa [lowest, greatest] using this) hm a0 a1).mono fun e w' ⟨he, hk⟩ => ⟨he, hk.below⟩
end Go.Proofs.Ytanjmbjnpcekcaa
