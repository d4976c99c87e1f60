/-
  The walk of tumuluslaw03.RegionApart.
-/
import Derived.Test.YtanjmbjnpcekcaaOpen
import Derived.Test.YtanjmbjnpcekcaaReg
import Derived.Test.YtanjmbjnpcekcaaTwo
namespace Go.Proofs.Ytanjmbjnpcekcaa
open Go.RowKit Go.Shelf

/-- Where the six rows begin and end. -/
def Cfg.lo (c : Cfg) : Nat → Int
  | 0 => 0 | 1 => 8 | 2 => c.record 0 | 3 => c.active | 4 => c.from_ 0 | _ => c.from_ 1
def Cfg.hi (c : Cfg) : Nat → Int
  | 0 => 4 | 1 => 9 | 2 => c.record c.log | 3 => c.root c.roots | 4 => c.from_ 0 + c.space | _ => c.from_ 1 + c.space

theorem apart_row (c : Cfg) (h : c.Small) (h1 : 1 ≤ c.log) (h2 : 8 ≤ c.space) (i : Nat) (hi : i < 6) : c.lo i % 8 = 0 ∧ c.lo i < c.hi i ∧ (0 < i → c.hi (i - 1) ≤ c.lo i) := by
  have := h.r0
  have hc : i = 0 ∨ i = 1 ∨ i = 2 ∨ i = 3 ∨ i = 4 ∨ i = 5 := by omega
  rcases hc with rfl | rfl | rfl | rfl | rfl | rfl <;> simp only [Cfg.lo, Cfg.hi, Cfg.words, Cfg.from_, Cfg.root, Cfg.active, Cfg.record, lin, Nat.add_sub_cancel, Nat.reduceSub] <;> omega

theorem apart_end (c : Cfg) (h : c.Small) (h2 : 8 ≤ c.space) : c.hi 5 ≤ c.words ∧ c.words % 8 = 0 ∧ c.active < c.active + 1 ∧ c.active + 1 < c.root 0 := by
  simp only [Cfg.lo, Cfg.hi, Cfg.words, Cfg.from_, Cfg.root, Cfg.active, Cfg.record, lin]
  omega

set_option maxRecDepth 100000 in
set_option maxHeartbeats 6000000 in
theorem RegionApart.core (l r s : Int) (w : World) (l0 : 0 ≤ l) (l1 : l ≤ 65535) (r0 : 0 ≤ r) (r1 : r ≤ 65535) (s0 : 0 ≤ s) (s1 : s ≤ 65535) :
    Calls Try.prog 6 #[.agg #[.int .u16 l, .int .u16 r, .int .u16 s]] w fun e w' => e = .returned (.bool true) ∧ Keep w.heap.size [] w w' := by
  have hmk := fun w => make_any l r s w l0 l1 r0 r1 s0 s1
  have hr6 : 0 ≤ r % 6 ∧ r % 6 ≤ 5 := by omega
  have hl12 : 0 ≤ l % 12 ∧ l % 12 ≤ 11 := by omega
  have hs90 : 0 ≤ s % 90 ∧ s % 90 ≤ 89 := by omega
  unfold Cfg.val mkCfg at hmk
  simp only at hmk
  generalize r % 6 = r' at *
  generalize l % 12 = l' at *
  generalize s % 90 = s' at *
  obtain ⟨ra, hra⟩ : ∃ ra, 1 + r' = ra := ⟨_, rfl⟩
  obtain ⟨la, hla⟩ : ∃ la, ra + 2 + l' = la := ⟨_, rfl⟩
  obtain ⟨sa, hsa⟩ : ∃ sa, 8 + s' = sa := ⟨_, rfl⟩
  rw [hra, hla, hsa] at hmk
  have hb : 1 ≤ ra ∧ ra ≤ 6 ∧ ra + 2 ≤ la ∧ la ≤ ra + 13 ∧ 8 ≤ sa ∧ sa ≤ 97 := by omega
  clear hra hla hsa hr6 hl12 hs90
  have hsm : Cfg.Small ⟨la, ra, sa⟩ := ⟨by simp only; omega, by simp only; omega, by simp only; omega, by simp only; omega, by simp only; omega, by simp only; omega⟩
  have hrows := apart_row ⟨la, ra, sa⟩ hsm (by simp only; omega) (by simp only; omega)
  have hend := apart_end ⟨la, ra, sa⟩ hsm (by simp only; omega)
  obtain ⟨lo, hlo⟩ : ∃ lo, Cfg.lo ⟨la, ra, sa⟩ = lo := ⟨_, rfl⟩
  obtain ⟨hi, hhi⟩ : ∃ hi, Cfg.hi ⟨la, ra, sa⟩ = hi := ⟨_, rfl⟩
  have e2 : Cfg.record ⟨la, ra, sa⟩ 0 = lo 2 := by rw [← hlo]; rfl
  have f2 : Cfg.record ⟨la, ra, sa⟩ la = hi 2 := by rw [← hhi]; rfl
  have e3 : Cfg.active ⟨la, ra, sa⟩ = lo 3 := by rw [← hlo]; rfl
  have f3 : Cfg.root ⟨la, ra, sa⟩ ra = hi 3 := by rw [← hhi]; rfl
  have e4 : Cfg.from_ ⟨la, ra, sa⟩ 0 = lo 4 := by rw [← hlo]; rfl
  have f4 : lo 4 + sa = hi 4 := by rw [← hhi, ← hlo]; rfl
  have e5 : Cfg.from_ ⟨la, ra, sa⟩ 1 = lo 5 := by rw [← hlo]; rfl
  have f5 : lo 5 + sa = hi 5 := by rw [← hhi, ← hlo]; rfl
  have z0 : lo 0 = 0 := by rw [← hlo]; rfl
  have z1 : lo 1 = 8 := by rw [← hlo]; rfl
  have y0 : hi 0 = 4 := by rw [← hhi]; rfl
  have y1 : hi 1 = 9 := by rw [← hhi]; rfl
  have hrec0 := fun w => record_any ⟨la, ra, sa⟩ 0 w (by omega) (by omega)
  have hrecl := fun w => record_any ⟨la, ra, sa⟩ la w (by omega) (by omega)
  have hact := fun w => active_any ⟨la, ra, sa⟩ w hsm
  have hused := fun w => usedAt_any ⟨la, ra, sa⟩ w hsm
  have hroor := fun w => root_any ⟨la, ra, sa⟩ ra w hsm (by omega) (by omega)
  have hroo0 := fun w => root_any ⟨la, ra, sa⟩ 0 w hsm (by omega) (by omega)
  have hf0 := fun w => from_any ⟨la, ra, sa⟩ 0 w hsm (by decide) (by decide)
  have hf1 := fun w => from_any ⟨la, ra, sa⟩ 1 w hsm (by decide) (by decide)
  have hwo := fun w => wordsOf_any ⟨la, ra, sa⟩ w hsm
  have q0 := from_le ⟨la, ra, sa⟩ hsm 0 (by decide) (by decide)
  have q1 := from_le ⟨la, ra, sa⟩ hsm 1 (by decide) (by decide)
  rw [e2] at hrec0
  rw [f2] at hrecl
  rw [e3] at hact hused hend
  rw [f3] at hroor
  rw [e4] at hf0 q0
  rw [e5] at hf1 q1
  rw [hlo, hhi] at hrows
  rw [hhi] at hend
  generalize Cfg.words ⟨la, ra, sa⟩ = A1 at *
  generalize Cfg.root ⟨la, ra, sa⟩ 0 = R0 at *
  have w4 : IntKind.i64.wrap (lo 4 + sa) = hi 4 := by rw [IntWalk.i64_in _ (by omega)]; exact f4
  have w5 : IntKind.i64.wrap (lo 5 + sa) = hi 5 := by rw [IntWalk.i64_in _ (by omega)]; exact f5
  unfold Cfg.val at *
  simp only at *
  have HROWS := Lib.hid hrows
  have HEND := Lib.hid hend
  clear hrows hend e2 f2 e3 f3 e4 f4 e5 f5 hlo hhi hsm
  go_enter Try.func6, Try.ntmps6
  go_wp2_with fail
  have hb3 := Blk.new w 39 #[.int .u16 l, .int .u16 r, .int .u16 s]
  have hk3 : Keep w.heap.size [] w (w.alloc (.cells #[.int .u16 l, .int .u16 r, .int .u16 s] 39)) := (Keep.refl _ _ _).alloc (Nat.le_refl _) _
  generalize w.alloc (.cells #[.int .u16 l, .int .u16 r, .int .u16 s] 39) = W0 at *
  refine (awake3_any W0).mono ?_
  rintro e W1 ⟨rfl, hk1⟩
  have hb1 := hb3.keep hk1 hb3.lt (by simp)
  have HK1 : Hid (Keep w.heap.size [] w W1) := hk3.join hk1 hk3.size (by simp)
  have c0 := hb1.cell 0
  have c1 := hb1.cell 1
  have c2 := hb1.cell 2
  simp at c0 c1 c2
  clear hb3 hk3 hk1 hb1
  go_wp2_with fail
  refine (hmk _).mono ?_
  rintro e W2 ⟨rfl, hk2⟩
  have HK2 : Hid (Keep w.heap.size [] w W2) := HK1.out.join hk2 HK1.out.size (by simp)
  clear hk2 c0 c1 c2 hmk HK1
  go_wp2_with fail
  have hb3 := Blk.new W2 34 #[.int .i64 la, .int .i64 ra, .int .i64 sa]
  have hk3 : Keep w.heap.size [] w (W2.alloc (.cells #[.int .i64 la, .int .i64 ra, .int .i64 sa] 34)) := HK2.out.alloc HK2.out.size _
  have hlt : w.heap.size ≤ W2.heap.size := HK2.out.size
  generalize W2.alloc (.cells #[.int .i64 la, .int .i64 ra, .int .i64 sa] 34) = W3 at *
  generalize W2.heap.size = g3 at *
  have HB3 := Lib.hid hb3
  have HK3 := Lib.hid hk3
  have HG3 := Lib.hid hlt
  have a0 : ∀ x : Ext W3, x.now.cell? ⟨g3, 0, none⟩ = some (.int .i64 la) := fun x => x.cell (by simpa using hb3.cell 0)
  have a1 : ∀ x : Ext W3, x.now.cell? ⟨g3, 1, none⟩ = some (.int .i64 ra) := fun x => x.cell (by simpa using hb3.cell 1)
  have a2 : ∀ x : Ext W3, x.now.cell? ⟨g3, 2, none⟩ = some (.int .i64 sa) := fun x => x.cell (by simpa using hb3.cell 2)
  clear hb3 hk3 hlt HK2
  refine wp_region_ext_tail 32 (by kernel_rfl) (by kernel_rfl) ?_
  simp only [List.take_succ_cons, List.take_zero, List.drop_succ_cons, List.drop_zero]
  repeat (quiet_step (first
    | (go_at_call 26; with_reducible exact Calls.ext (hrec0 _))
    | (go_at_call 26; with_reducible exact Calls.ext (hrecl _))
    | (go_at_call 24; with_reducible exact Calls.ext (hact _))
    | (go_at_call 27; with_reducible exact Calls.ext (hroor _))
    | (go_at_call 25; with_reducible exact Calls.ext (hf0 _))
    | (go_at_call 25; with_reducible exact Calls.ext (hf1 _))))
  refine wpQuiet_nil ?_
  rintro _ ⟨x, rfl⟩
  have hx := x.keep
  have HX := Lib.hid hx
  clear hx a0 a1 a2
  go_wp2_with fail
  have hb4 := Blk.new x.now 44 #[.int .i64 0, .int .i64 4, .int .i64 8, .int .i64 9, .int .i64 (lo 2), .int .i64 (hi 2), .int .i64 (lo 3), .int .i64 (hi 3), .int .i64 (lo 4), .int .i64 (hi 4), .int .i64 (lo 5), .int .i64 (hi 5)]
  have hk4 := (HK3.out.join HX.out HK3.out.size (by simp)).alloc (Nat.le_trans HK3.out.size HX.out.size) (.cells #[.int .i64 0, .int .i64 4, .int .i64 8, .int .i64 9, .int .i64 (lo 2), .int .i64 (hi 2), .int .i64 (lo 3), .int .i64 (hi 3), .int .i64 (lo 4), .int .i64 (hi 4), .int .i64 (lo 5), .int .i64 (hi 5)] 44)
  have hb34 := (HB3.out.keep HX.out HB3.out.lt (by simp)).alloc (.cells #[.int .i64 0, .int .i64 4, .int .i64 8, .int .i64 9, .int .i64 (lo 2), .int .i64 (hi 2), .int .i64 (lo 3), .int .i64 (hi 3), .int .i64 (lo 4), .int .i64 (hi 4), .int .i64 (lo 5), .int .i64 (hi 5)] 44)
  generalize x.now.alloc (.cells #[.int .i64 0, .int .i64 4, .int .i64 8, .int .i64 9, .int .i64 (lo 2), .int .i64 (hi 2), .int .i64 (lo 3), .int .i64 (hi 3), .int .i64 (lo 4), .int .i64 (hi 4), .int .i64 (lo 5), .int .i64 (hi 5)] 44) = W4 at *
  generalize x.now.heap.size = g4 at *
  have HB4 := Lib.hid hb4
  have HK4 := Lib.hid hk4
  have HB34 := Lib.hid hb34
  clear hb4 hk4 hb34 HX HB3 HK3
  clear x
  go_loopw [46] (fun v wr => ∃ i : Int, 0 ≤ i ∧ i ≤ 6 ∧ v = .int .i64 i ∧ Keep W4.heap.size [] W4 wr) (fun v _ => 6 - (intOf v).toNat)
  case atStart => exact ⟨0, by omega, by omega, rfl, Keep.refl _ _ _⟩
  case round =>
    obtain ⟨i, hi0, hi6, rfl, hkr⟩ := hrel
    have hb := HB4.out.keep hkr HB4.out.lt (by simp)
    have hb3 := HB34.out.keep hkr HB34.out.lt (by simp)
    have c0 := hb.cell 0
    have c1 := hb.cell 1
    have c2 := hb.cell 2
    have c3 := hb.cell 3
    have c4 := hb.cell 4
    have c5 := hb.cell 5
    have c6 := hb.cell 6
    have c7 := hb.cell 7
    have c8 := hb.cell 8
    have c9 := hb.cell 9
    have c10 := hb.cell 10
    have c11 := hb.cell 11
    simp at c0 c1 c2 c3 c4 c5 c6 c7 c8 c9 c10 c11
    have HKR := Lib.hid hkr
    have HB := Lib.hid hb
    clear hkr hb
    have hc : i = 0 ∨ i = 1 ∨ i = 2 ∨ i = 3 ∨ i = 4 ∨ i = 5 ∨ i = 6 := by omega
    rcases hc with rfl | rfl | rfl | rfl | rfl | rfl | rfl
    · go_wp2_with fail
      have hb5 := Blk.new wr 44 #[.int .i64 0, .int .i64 4]
      have hk5 : Keep W4.heap.size [] W4 (wr.alloc (.cells #[.int .i64 0, .int .i64 4] 44)) := HKR.out.alloc HKR.out.size _
      generalize wr.alloc (.cells #[.int .i64 0, .int .i64 4] 44) = W5 at *
      generalize wr.heap.size = g5 at *
      have d0 : ∀ x : Ext W5, x.now.cell? ⟨g5, 0, none⟩ = some (.int .i64 0) := fun x => x.cell (by simpa using hb5.cell 0)
      have d1 : ∀ x : Ext W5, x.now.cell? ⟨g5, 1, none⟩ = some (.int .i64 4) := fun x => x.cell (by simpa using hb5.cell 1)
      have HK5 := Lib.hid hk5
      clear hb5 hk5 c0 c1 c2 c3 c4 c5 c6 c7 c8 c9 c10 c11
      refine wp_region_ext (by kernel_rfl) (by kernel_rfl) ?_
      repeat (first | (with_reducible refine wpQuiet_step (fun K hK => ?_); go_simp; with_reducible refine hK _ ?_; clear hK K) | quiet_step (fail))
      refine wpQuiet_nil ?_
      rintro _ ⟨x, rfl⟩
      have hx := x.keep
      have HX := Lib.hid hx
      clear hx d0 d1
      go_wp2
      exact ⟨⟨1, by omega, by omega, rfl, HK5.out.join HX.out HK5.out.size (by simp)⟩, by simp [intOf]⟩
    · go_wp2_with fail
      have hb5 := Blk.new wr 44 #[.int .i64 8, .int .i64 9]
      have hk5 : Keep W4.heap.size [] W4 (wr.alloc (.cells #[.int .i64 8, .int .i64 9] 44)) := HKR.out.alloc HKR.out.size _
      have hb45 := HB.out.alloc (.cells #[.int .i64 8, .int .i64 9] 44)
      generalize wr.alloc (.cells #[.int .i64 8, .int .i64 9] 44) = W5 at *
      generalize wr.heap.size = g5 at *
      have d0 : ∀ x : Ext W5, x.now.cell? ⟨g5, 0, none⟩ = some (.int .i64 8) := fun x => x.cell (by simpa using hb5.cell 0)
      have d1 : ∀ x : Ext W5, x.now.cell? ⟨g5, 1, none⟩ = some (.int .i64 9) := fun x => x.cell (by simpa using hb5.cell 1)
      have ew : IntKind.i64.wrap 0 = 0 := IntWalk.i64_in _ (by omega)
      have dp : ∀ x : Ext W5, x.now.cell? ⟨g4, 1, none⟩ = some (.int .i64 4) := fun x => x.cell (by simpa using hb45.cell 1)
      have HK5 := Lib.hid hk5
      clear hb5 hk5 hb45 c0 c1 c2 c3 c4 c5 c6 c7 c8 c9 c10 c11
      refine wp_region_ext (by kernel_rfl) (by kernel_rfl) ?_
      repeat (first | (with_reducible refine wpQuiet_step (fun K hK => ?_); go_simp; with_reducible refine hK _ ?_; clear hK K) | quiet_step (fail))
      refine wpQuiet_nil ?_
      rintro _ ⟨x, rfl⟩
      have hx := x.keep
      have HX := Lib.hid hx
      clear hx d0 d1 dp
      go_wp2
      exact ⟨⟨2, by omega, by omega, rfl, HK5.out.join HX.out HK5.out.size (by simp)⟩, by simp [intOf]⟩
    · go_wp2_with fail
      have hb5 := Blk.new wr 44 #[.int .i64 (lo 2), .int .i64 (hi 2)]
      have hk5 : Keep W4.heap.size [] W4 (wr.alloc (.cells #[.int .i64 (lo 2), .int .i64 (hi 2)] 44)) := HKR.out.alloc HKR.out.size _
      have hb45 := HB.out.alloc (.cells #[.int .i64 (lo 2), .int .i64 (hi 2)] 44)
      generalize wr.alloc (.cells #[.int .i64 (lo 2), .int .i64 (hi 2)] 44) = W5 at *
      generalize wr.heap.size = g5 at *
      have d0 : ∀ x : Ext W5, x.now.cell? ⟨g5, 0, none⟩ = some (.int .i64 (lo 2)) := fun x => x.cell (by simpa using hb5.cell 0)
      have d1 : ∀ x : Ext W5, x.now.cell? ⟨g5, 1, none⟩ = some (.int .i64 (hi 2)) := fun x => x.cell (by simpa using hb5.cell 1)
      have ew : IntKind.i64.wrap 1 = 1 := IntWalk.i64_in _ (by omega)
      have dp : ∀ x : Ext W5, x.now.cell? ⟨g4, 3, none⟩ = some (.int .i64 9) := fun x => x.cell (by simpa using hb45.cell 3)
      have ht : (lo 2).tmod 8 = 0 := Int.tmod_eq_zero_of_dvd (Int.dvd_of_emod_eq_zero (HROWS.out 2 (by omega)).1)
      have hlh : lo 2 < hi 2 := (HROWS.out 2 (by omega)).2.1
      have hpl : 9 ≤ lo 2 := by have := (HROWS.out 2 (by omega)).2.2 (by omega); simp only [Nat.reduceSub, y1] at this; exact this
      have HK5 := Lib.hid hk5
      clear hb5 hk5 hb45 c0 c1 c2 c3 c4 c5 c6 c7 c8 c9 c10 c11
      refine wp_region_ext (by kernel_rfl) (by kernel_rfl) ?_
      repeat (first | (with_reducible refine wpQuiet_step (fun K hK => ?_); go_simp; with_reducible refine hK _ ?_; clear hK K) | quiet_step (fail))
      refine wpQuiet_nil ?_
      rintro _ ⟨x, rfl⟩
      have hx := x.keep
      have HX := Lib.hid hx
      clear hx d0 d1 dp
      go_wp2
      exact ⟨⟨3, by omega, by omega, rfl, HK5.out.join HX.out HK5.out.size (by simp)⟩, by simp [intOf]⟩
    · go_wp2_with fail
      have hb5 := Blk.new wr 44 #[.int .i64 (lo 3), .int .i64 (hi 3)]
      have hk5 : Keep W4.heap.size [] W4 (wr.alloc (.cells #[.int .i64 (lo 3), .int .i64 (hi 3)] 44)) := HKR.out.alloc HKR.out.size _
      have hb45 := HB.out.alloc (.cells #[.int .i64 (lo 3), .int .i64 (hi 3)] 44)
      generalize wr.alloc (.cells #[.int .i64 (lo 3), .int .i64 (hi 3)] 44) = W5 at *
      generalize wr.heap.size = g5 at *
      have d0 : ∀ x : Ext W5, x.now.cell? ⟨g5, 0, none⟩ = some (.int .i64 (lo 3)) := fun x => x.cell (by simpa using hb5.cell 0)
      have d1 : ∀ x : Ext W5, x.now.cell? ⟨g5, 1, none⟩ = some (.int .i64 (hi 3)) := fun x => x.cell (by simpa using hb5.cell 1)
      have ew : IntKind.i64.wrap 2 = 2 := IntWalk.i64_in _ (by omega)
      have dp : ∀ x : Ext W5, x.now.cell? ⟨g4, 5, none⟩ = some (.int .i64 (hi 2)) := fun x => x.cell (by simpa using hb45.cell 5)
      have ht : (lo 3).tmod 8 = 0 := Int.tmod_eq_zero_of_dvd (Int.dvd_of_emod_eq_zero (HROWS.out 3 (by omega)).1)
      have hlh : lo 3 < hi 3 := (HROWS.out 3 (by omega)).2.1
      have hpl : (hi 2) ≤ lo 3 := by have := (HROWS.out 3 (by omega)).2.2 (by omega); simp only [Nat.reduceSub, y1] at this; exact this
      have HK5 := Lib.hid hk5
      clear hb5 hk5 hb45 c0 c1 c2 c3 c4 c5 c6 c7 c8 c9 c10 c11
      refine wp_region_ext (by kernel_rfl) (by kernel_rfl) ?_
      repeat (first | (with_reducible refine wpQuiet_step (fun K hK => ?_); go_simp; with_reducible refine hK _ ?_; clear hK K) | quiet_step (fail))
      refine wpQuiet_nil ?_
      rintro _ ⟨x, rfl⟩
      have hx := x.keep
      have HX := Lib.hid hx
      clear hx d0 d1 dp
      go_wp2
      exact ⟨⟨4, by omega, by omega, rfl, HK5.out.join HX.out HK5.out.size (by simp)⟩, by simp [intOf]⟩
    · go_wp2_with fail
      have hb5 := Blk.new wr 44 #[.int .i64 (lo 4), .int .i64 (hi 4)]
      have hk5 : Keep W4.heap.size [] W4 (wr.alloc (.cells #[.int .i64 (lo 4), .int .i64 (hi 4)] 44)) := HKR.out.alloc HKR.out.size _
      have hb45 := HB.out.alloc (.cells #[.int .i64 (lo 4), .int .i64 (hi 4)] 44)
      generalize wr.alloc (.cells #[.int .i64 (lo 4), .int .i64 (hi 4)] 44) = W5 at *
      generalize wr.heap.size = g5 at *
      have d0 : ∀ x : Ext W5, x.now.cell? ⟨g5, 0, none⟩ = some (.int .i64 (lo 4)) := fun x => x.cell (by simpa using hb5.cell 0)
      have d1 : ∀ x : Ext W5, x.now.cell? ⟨g5, 1, none⟩ = some (.int .i64 (hi 4)) := fun x => x.cell (by simpa using hb5.cell 1)
      have ew : IntKind.i64.wrap 3 = 3 := IntWalk.i64_in _ (by omega)
      have dp : ∀ x : Ext W5, x.now.cell? ⟨g4, 7, none⟩ = some (.int .i64 (hi 3)) := fun x => x.cell (by simpa using hb45.cell 7)
      have ht : (lo 4).tmod 8 = 0 := Int.tmod_eq_zero_of_dvd (Int.dvd_of_emod_eq_zero (HROWS.out 4 (by omega)).1)
      have hlh : lo 4 < hi 4 := (HROWS.out 4 (by omega)).2.1
      have hpl : (hi 3) ≤ lo 4 := by have := (HROWS.out 4 (by omega)).2.2 (by omega); simp only [Nat.reduceSub, y1] at this; exact this
      have HK5 := Lib.hid hk5
      clear hb5 hk5 hb45 c0 c1 c2 c3 c4 c5 c6 c7 c8 c9 c10 c11
      refine wp_region_ext (by kernel_rfl) (by kernel_rfl) ?_
      repeat (first | (with_reducible refine wpQuiet_step (fun K hK => ?_); go_simp; with_reducible refine hK _ ?_; clear hK K) | quiet_step (fail))
      refine wpQuiet_nil ?_
      rintro _ ⟨x, rfl⟩
      have hx := x.keep
      have HX := Lib.hid hx
      clear hx d0 d1 dp
      go_wp2
      exact ⟨⟨5, by omega, by omega, rfl, HK5.out.join HX.out HK5.out.size (by simp)⟩, by simp [intOf]⟩
    · go_wp2_with fail
      have hb5 := Blk.new wr 44 #[.int .i64 (lo 5), .int .i64 (hi 5)]
      have hk5 : Keep W4.heap.size [] W4 (wr.alloc (.cells #[.int .i64 (lo 5), .int .i64 (hi 5)] 44)) := HKR.out.alloc HKR.out.size _
      have hb45 := HB.out.alloc (.cells #[.int .i64 (lo 5), .int .i64 (hi 5)] 44)
      generalize wr.alloc (.cells #[.int .i64 (lo 5), .int .i64 (hi 5)] 44) = W5 at *
      generalize wr.heap.size = g5 at *
      have d0 : ∀ x : Ext W5, x.now.cell? ⟨g5, 0, none⟩ = some (.int .i64 (lo 5)) := fun x => x.cell (by simpa using hb5.cell 0)
      have d1 : ∀ x : Ext W5, x.now.cell? ⟨g5, 1, none⟩ = some (.int .i64 (hi 5)) := fun x => x.cell (by simpa using hb5.cell 1)
      have ew : IntKind.i64.wrap 4 = 4 := IntWalk.i64_in _ (by omega)
      have dp : ∀ x : Ext W5, x.now.cell? ⟨g4, 9, none⟩ = some (.int .i64 (hi 4)) := fun x => x.cell (by simpa using hb45.cell 9)
      have ht : (lo 5).tmod 8 = 0 := Int.tmod_eq_zero_of_dvd (Int.dvd_of_emod_eq_zero (HROWS.out 5 (by omega)).1)
      have hlh : lo 5 < hi 5 := (HROWS.out 5 (by omega)).2.1
      have hpl : (hi 4) ≤ lo 5 := by have := (HROWS.out 5 (by omega)).2.2 (by omega); simp only [Nat.reduceSub, y1] at this; exact this
      have HK5 := Lib.hid hk5
      clear hb5 hk5 hb45 c0 c1 c2 c3 c4 c5 c6 c7 c8 c9 c10 c11
      refine wp_region_ext (by kernel_rfl) (by kernel_rfl) ?_
      repeat (first | (with_reducible refine wpQuiet_step (fun K hK => ?_); go_simp; with_reducible refine hK _ ?_; clear hK K) | quiet_step (fail))
      refine wpQuiet_nil ?_
      rintro _ ⟨x, rfl⟩
      have hx := x.keep
      have HX := Lib.hid hx
      clear hx d0 d1 dp
      go_wp2
      exact ⟨⟨6, by omega, by omega, rfl, HK5.out.join HX.out HK5.out.size (by simp)⟩, by simp [intOf]⟩
    · go_wp2_with fail
      have hend := HEND.out
      have ht : A1.tmod 8 = 0 := Int.tmod_eq_zero_of_dvd (Int.dvd_of_emod_eq_zero hend.2.1)
      have h5 : hi 5 ≤ A1 := hend.1
      obtain ⟨U, hU⟩ : ∃ U, lo 3 + 1 = U := ⟨_, rfl⟩
      rw [hU] at hused
      have h6 : U < R0 := by rw [← hU]; exact hend.2.2.2
      have h7 : lo 3 < U := by omega
      have d0 : ∀ x : Ext wr, x.now.cell? ⟨g4, 11, none⟩ = some (.int .i64 (hi 5)) := fun x => x.cell c11
      have a0 : ∀ x : Ext wr, x.now.cell? ⟨g3, 0, none⟩ = some (.int .i64 la) := fun x => x.cell (by simpa using hb3.cell 0)
      have a1 : ∀ x : Ext wr, x.now.cell? ⟨g3, 1, none⟩ = some (.int .i64 ra) := fun x => x.cell (by simpa using hb3.cell 1)
      have a2 : ∀ x : Ext wr, x.now.cell? ⟨g3, 2, none⟩ = some (.int .i64 sa) := fun x => x.cell (by simpa using hb3.cell 2)
      clear hend hb3 c0 c1 c2 c3 c4 c5 c6 c7 c8 c9 c10 c11
      refine wp_region_ext (by kernel_rfl) (by kernel_rfl) ?_
      repeat (quiet_step (first
        | (go_at_call 23; with_reducible exact Calls.ext (hwo _))
        | (go_at_call 28; with_reducible exact Calls.ext (hused _))
        | (go_at_call 24; with_reducible exact Calls.ext (hact _))
        | (go_at_call 27; with_reducible exact Calls.ext (hroo0 _))))
      refine wpQuiet_nil ?_
      rintro _ ⟨x, rfl⟩
      have hx := x.keep
      have HX := Lib.hid hx
      clear hx d0 a0 a1 a2
      go_wp2
      go_ret
      have hk := HKR.out.join HX.out HKR.out.size (by simp)
      exact ⟨rfl, HK4.out.join hk HK4.out.size (by simp)⟩

theorem RegionApart.walk (l r s : Int) (b : (lowest .u16 ≤ l ∧ l ≤ greatest .u16) ∧ (lowest .u16 ≤ r ∧ r ≤ greatest .u16) ∧ (lowest .u16 ≤ s ∧ s ≤ greatest .u16)) (w : World) :
    Calls Try.prog 6 #[.agg #[.int .u16 l, .int .u16 r, .int .u16 s]] w fun e w' => e = .returned (.bool true) ∧ Below w.heap.size w w' := by
  simp [lowest, greatest] at b
  exact (RegionApart.core l r s w (by omega) (by omega) (by omega) (by omega) (by omega) (by omega)).mono fun e w' ⟨he, hk⟩ => ⟨he, hk.below⟩
end Go.Proofs.Ytanjmbjnpcekcaa
