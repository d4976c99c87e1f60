/-
  The walk of tumuluslaw03.RegionMore.
-/
import Derived.Test.YtanjmbjnpcekcaaOpen
import Derived.Test.YtanjmbjnpcekcaaReg
import Derived.Test.YtanjmbjnpcekcaaTwo
namespace Go.Proofs.Ytanjmbjnpcekcaa
open Go.RowKit Go.Shelf

theorem more_le (a b : Cfg) (hl : a.log ≤ b.log) (hr : a.roots ≤ b.roots) (hs : a.space ≤ b.space) :
    a.words ≤ b.words ∧ a.active ≤ b.active ∧ a.from_ 0 ≤ b.from_ 0 ∧ a.from_ 1 ≤ b.from_ 1 ∧ b.space ≤ b.from_ 1 - b.from_ 0 ∧ b.record b.log ≤ b.active ∧ b.root b.roots ≤ b.from_ 0 := by
  unfold Cfg.words Cfg.from_ Cfg.root Cfg.active Cfg.record lin
  omega

set_option maxRecDepth 100000 in
set_option maxHeartbeats 6000000 in
theorem RegionMore.core (l r s what more : Int) (w : World) (l0 : 0 ≤ l) (l1 : l ≤ 65535) (r0 : 0 ≤ r) (r1 : r ≤ 65535) (s0 : 0 ≤ s) (s1 : s ≤ 65535) (h0 : 0 ≤ what) (h1 : what ≤ 255) (m0 : 0 ≤ more) (m1 : more ≤ 255) :
    Calls Try.prog 5 #[.agg #[.int .u16 l, .int .u16 r, .int .u16 s], .int .u8 what, .int .u8 more] w fun e w' => e = .returned (.bool true) ∧ Keep w.heap.size [] w w' := by
  have hmk := fun w => make_any l r s w l0 l1 r0 r1 s0 s1
  unfold Cfg.val mkCfg at hmk
  simp only at hmk
  have hr6 : 0 ≤ r % 6 ∧ r % 6 ≤ 5 := by omega
  have hl12 : 0 ≤ l % 12 ∧ l % 12 ≤ 11 := by omega
  have hs90 : 0 ≤ s % 90 ∧ s % 90 ≤ 89 := by omega
  generalize r % 6 = r' at *
  generalize l % 12 = l' at *
  generalize s % 90 = s' at *
  obtain ⟨ra, hra⟩ : ∃ ra, 1 + r' = ra := ⟨_, rfl⟩
  obtain ⟨la, hla⟩ : ∃ la, ra + 2 + l' = la := ⟨_, rfl⟩
  obtain ⟨sa, hsa⟩ : ∃ sa, 8 + s' = sa := ⟨_, rfl⟩
  rw [hra, hla, hsa] at hmk
  have hb : 1 ≤ ra ∧ ra ≤ 6 ∧ ra + 2 ≤ la ∧ la ≤ ra + 13 ∧ 8 ≤ sa ∧ sa ≤ 97 := by omega
  clear hra hla hsa hr6 hl12 hs90
  go_enter Try.func5, Try.ntmps5
  go_wp2_with fail
  have hb3 := Blk.new w 39 #[.int .u16 l, .int .u16 r, .int .u16 s]
  have hk3 : Keep w.heap.size [] w (w.alloc (.cells #[.int .u16 l, .int .u16 r, .int .u16 s] 39)) := (Keep.refl _ _ _).alloc (Nat.le_refl _) _
  generalize w.alloc (.cells #[.int .u16 l, .int .u16 r, .int .u16 s] 39) = W0 at *
  refine (awake3_any W0).mono ?_
  rintro e W1 ⟨rfl, hk1⟩
  have hb1 := hb3.keep hk1 hb3.lt (by simp)
  have HB1 := Lib.hid hb1
  have HK1 : Hid (Keep w.heap.size [] w W1) := hk3.join hk1 hk3.size (by simp)
  clear hb3 hk3 hk1 hb1
  go_wp2_with fail
  refine wp_region_from (by kernel_rfl) (by kernel_rfl) (fun a0 L a w' => ∃ u7 u8 u11 u12 u13 u14 : Value, a = (((((a0.put (some 7) u7).put (some 8) u8).put (some 11) u11).put (some 12) u12).put (some 13) u13).put (some 14) u14 ∧
    TwoMade 34 L W1 w' (.agg #[.int .u16 l, .int .u16 r, .int .u16 s]) (.agg #[.int .i64 la, .int .i64 ra, .int .i64 sa]) #[.int .i64 la, .int .i64 ra, .int .i64 sa] #[.int .i64 0, .int .i64 0, .int .i64 0] u7 u8 u11 u12 u13 u14) ?_ ?_ ?_
  all_goals simp only [Act.put, List.setIfInBounds_toArray, List.set_cons_succ, List.set_cons_zero]
  · exact ⟨_, _, _, _, _, _, rfl, TwoMade.start ..⟩
  · rintro L a w' i ⟨u7, u8, u11, u12, u13, u14, rfl, hJ⟩ hi
    obtain ⟨hun, o, ho, hall⟩ := mem_ready.1 hi
    have hlen := (Array.getElem?_eq_some_iff.1 ho).1
    simp only [List.size_toArray, List.length_cons, List.length_nil] at hlen
    have hcs : i = 0 ∨ i = 1 ∨ i = 2 ∨ i = 3 ∨ i = 4 ∨ i = 5 ∨ i = 6 ∨ i = 7 := by omega
    have hbb := HB1.out.keep hJ.ext HB1.out.lt (by simp)
    have c0 := hbb.cell 0
    have c1 := hbb.cell 1
    have c2 := hbb.cell 2
    simp at c0 c1 c2
    have HBB := Lib.hid hbb
    have HJ := Lib.hid hJ
    clear hbb hJ hi hlen
    rcases hcs with rfl | rfl | rfl | rfl | rfl | rfl | rfl | rfl
    · refine wpOp_in rfl rfl ?_
      clear ho hall
      go_simp
      exact ⟨_, _, _, _, _, _, ⟨rfl, rfl, rfl, rfl, rfl, rfl⟩, HJ.out.s0⟩
    · obtain rfl : u11 = .agg #[.int .u16 l, .int .u16 r, .int .u16 s] := HJ.out.p0 (by injection ho with ho; subst ho; exact hall ⟨0, .data⟩ (by simp) rfl)
      refine wpOp_in rfl rfl ?_
      clear ho hall
      go_simp
      refine (hmk w').mono ?_
      rintro e w2 ⟨rfl, hk2⟩
      exact ⟨_, _, _, _, _, _, ⟨rfl, rfl, rfl, rfl, rfl, rfl⟩, (HJ.out.grow hk2).s1⟩
    · refine wpOp_in rfl rfl ?_
      clear ho hall
      go_simp
      exact ⟨_, _, _, _, _, _, ⟨rfl, rfl, rfl, rfl, rfl, rfl⟩, HJ.out.s2⟩
    · obtain rfl : u13 = .agg #[.int .u16 l, .int .u16 r, .int .u16 s] := HJ.out.p2 (by injection ho with ho; subst ho; exact hall ⟨2, .data⟩ (by simp) rfl)
      refine wpOp_in rfl rfl ?_
      clear ho hall
      go_simp
      refine (hmk w').mono ?_
      rintro e w2 ⟨rfl, hk2⟩
      exact ⟨_, _, _, _, _, _, ⟨rfl, rfl, rfl, rfl, rfl, rfl⟩, (HJ.out.grow hk2).s3⟩
    · refine wpOp_in rfl rfl ?_
      clear ho hall
      go_simp
      exact ⟨_, _, _, _, _, _, ⟨rfl, rfl, rfl, rfl, rfl, rfl⟩, HJ.out.s4 hun⟩
    · refine wpOp_in rfl rfl ?_
      clear ho hall
      go_simp
      exact ⟨_, _, _, _, _, _, ⟨rfl, rfl, rfl, rfl, rfl, rfl⟩, HJ.out.s5 hun⟩
    · have h4 : L.getD 4 false = true := by injection ho with ho; subst ho; exact hall ⟨4, .data⟩ (by simp) rfl
      obtain rfl : u12 = .agg #[.int .i64 la, .int .i64 ra, .int .i64 sa] := HJ.out.p1 (by injection ho with ho; subst ho; exact hall ⟨1, .data⟩ (by simp) rfl)
      obtain ⟨g, rfl, hg, hbg⟩ := HJ.out.p4 h4
      have hbg' : Blk w' g 34 #[.int .i64 0, .int .i64 0, .int .i64 0] := by rwa [getD_both hun] at hbg
      have z0 := hbg'.cell 0
      have z1 := hbg'.cell 1
      have z2 := hbg'.cell 2
      have f0 := hbg'.frozen 0
      have f1 := hbg'.frozen 1
      have f2 := hbg'.frozen 2
      simp at z0 z1 z2
      have HBG := Lib.hid hbg'
      refine wpOp_in rfl rfl ?_
      clear ho hall hbg hbg' c0 c1 c2
      go_simp
      have hb' := ((HBG.out.set_ 0 (.int .i64 la)).set_ 1 (.int .i64 ra)).set_ 2 (.int .i64 sa)
      exact ⟨_, _, _, _, _, _, ⟨rfl, rfl, rfl, rfl, rfl, rfl⟩, HJ.out.s6 h4 (by simpa using hb') ((((Keep.refl _ _ _).setCell (by simp) _).setCell (by simp) _).setCell (by simp) _) hg (set_self' hun)⟩
    · have h5 : L.getD 5 false = true := by injection ho with ho; subst ho; exact hall ⟨5, .data⟩ (by simp) rfl
      obtain rfl : u14 = .agg #[.int .i64 la, .int .i64 ra, .int .i64 sa] := HJ.out.p3 (by injection ho with ho; subst ho; exact hall ⟨3, .data⟩ (by simp) rfl)
      obtain ⟨g, rfl, hg, hbg⟩ := HJ.out.p5 h5
      have hbg' : Blk w' g 34 #[.int .i64 0, .int .i64 0, .int .i64 0] := by rwa [getD_both hun] at hbg
      have z0 := hbg'.cell 0
      have z1 := hbg'.cell 1
      have z2 := hbg'.cell 2
      have f0 := hbg'.frozen 0
      have f1 := hbg'.frozen 1
      have f2 := hbg'.frozen 2
      simp at z0 z1 z2
      have HBG := Lib.hid hbg'
      refine wpOp_in rfl rfl ?_
      clear ho hall hbg hbg' c0 c1 c2
      go_simp
      have hb' := ((HBG.out.set_ 0 (.int .i64 la)).set_ 1 (.int .i64 ra)).set_ 2 (.int .i64 sa)
      exact ⟨_, _, _, _, _, _, ⟨rfl, rfl, rfl, rfl, rfl, rfl⟩, HJ.out.s7 h5 (by simpa using hb') ((((Keep.refl _ _ _).setCell (by simp) _).setCell (by simp) _).setCell (by simp) _) hg (set_self' hun)⟩
  · rintro L a w2 ⟨u7, u8, u11, u12, u13, u14, rfl, hJ⟩ hr
    have hl : ∀ i, i < 8 → L.getD i false = true := fun i hi => hr i (by simpa using hi)
    obtain ⟨g7, rfl, hg7, hb7⟩ := hJ.p4 (hl 4 (by decide))
    obtain ⟨g8, rfl, hg8, hb8⟩ := hJ.p5 (hl 5 (by decide))
    have hne := hJ.p45 (hl 4 (by decide)) (hl 5 (by decide))
    rw [hl 6 (by decide), if_pos rfl] at hb7
    rw [hl 7 (by decide), if_pos rfl] at hb8
    have HK2 : Hid (Keep w.heap.size [] w w2) := HK1.out.join hJ.ext HK1.out.size (by simp)
    have HN : Hid (g8 ≠ g7) := by rintro rfl; exact hne rfl
    have HG : Hid (w.heap.size ≤ g8) := Nat.le_trans HK1.out.size hg8
    have HB7 := Lib.hid hb7
    have HB8 := Lib.hid hb8
    clear hJ hr hl hne hg7 hg8 HB1 HK1 hmk
    obtain ⟨b1, b2, b3, b4, b5, b6⟩ := hb
    have h3 : what % 3 = 0 ∨ what % 3 = 1 ∨ what % 3 = 2 := by omega
    have z0 := hb8.cell 0
    have z1 := hb8.cell 1
    have z2 := hb8.cell 2
    have f0 := hb8.frozen 0
    have f1 := hb8.frozen 1
    have f2 := hb8.frozen 2
    simp at z0 z1 z2
    clear hb7 hb8
    rcases h3 with h3 | h3 | h3
    · go_wp2_with fail
      obtain ⟨mb, hmb⟩ : ∃ mb, more % 20 = mb := ⟨_, rfl⟩
      have hm : 0 ≤ mb ∧ mb ≤ 19 := by omega
      simp only [hmb]
      have hbb : Blk (w2.setCell ⟨g8, 0, none⟩ (.int .i64 (la + mb))) g8 34 #[.int .i64 (la + mb), .int .i64 (ra), .int .i64 (sa)] := by simpa using (HB8.out.set_ 0 (.int .i64 (la + mb)))
      have hba := (HB7.out.far (p := ⟨g8, 0, none⟩) (fun e => HN.out e.symm) (.int .i64 (la + mb)))
      have hk := (HK2.out.setCell (p := ⟨g8, 0, none⟩) (fun h => by have := HG.out; simp at h; omega) (.int .i64 (la + mb)))
      generalize (w2.setCell ⟨g8, 0, none⟩ (.int .i64 (la + mb))) = W3 at *
      obtain ⟨lb, hlb⟩ : ∃ lb, la + mb = lb := ⟨_, rfl⟩
      obtain ⟨rb, hrb⟩ : ∃ rb, ra = rb := ⟨_, rfl⟩
      obtain ⟨sb, hsb⟩ : ∃ sb, sa = sb := ⟨_, rfl⟩
      rw [hlb, hrb, hsb] at hbb
      have hle : la ≤ lb ∧ ra ≤ rb ∧ sa ≤ sb ∧ rb + 2 ≤ lb ∧ rb ≤ 16 ∧ lb ≤ 60 ∧ sb ≤ 400 := by omega
      clear hm hmb hlb hrb hsb h3 z0 z1 z2 f0 f1 f2 HB8 HB7 HK2 HG HN
      have hsa : Cfg.Small ⟨la, ra, sa⟩ := ⟨by simp only; omega, by simp only; omega, by simp only; omega, by simp only; omega, by simp only; omega, by simp only; omega⟩
      have hsb : Cfg.Small ⟨lb, rb, sb⟩ := ⟨by simp only; omega, by simp only; omega, by simp only; omega, by simp only; omega, by simp only; omega, by simp only; omega⟩
      have hck := fun w => check_any ⟨lb, rb, sb⟩ w
      rw [errIf_yes lb rb sb (by omega)] at hck
      have hwa := fun w => wordsOf_any ⟨la, ra, sa⟩ w hsa
      have hwb := fun w => wordsOf_any ⟨lb, rb, sb⟩ w hsb
      have haa := fun w => active_any ⟨la, ra, sa⟩ w hsa
      have hab := fun w => active_any ⟨lb, rb, sb⟩ w hsb
      have hf0a := fun w => from_any ⟨la, ra, sa⟩ 0 w hsa (by decide) (by decide)
      have hf0b := fun w => from_any ⟨lb, rb, sb⟩ 0 w hsb (by decide) (by decide)
      have hf1a := fun w => from_any ⟨la, ra, sa⟩ 1 w hsa (by decide) (by decide)
      have hf1b := fun w => from_any ⟨lb, rb, sb⟩ 1 w hsb (by decide) (by decide)
      have hrec := fun w => record_any ⟨lb, rb, sb⟩ lb w (by omega) (by omega)
      have hroo := fun w => root_any ⟨lb, rb, sb⟩ rb w hsb (by omega) (by omega)
      have hq0 := from_le ⟨lb, rb, sb⟩ hsb 0 (by decide) (by decide)
      have hq1 := from_le ⟨lb, rb, sb⟩ hsb 1 (by decide) (by decide)
      obtain ⟨o1, o2, o3, o4, o5, o6, o7⟩ := more_le ⟨la, ra, sa⟩ ⟨lb, rb, sb⟩ hle.1 hle.2.1 hle.2.2.1
      simp only at o5 o6 o7
      generalize Cfg.words ⟨la, ra, sa⟩ = A1 at *
      generalize Cfg.words ⟨lb, rb, sb⟩ = B1 at *
      generalize Cfg.active ⟨la, ra, sa⟩ = A2 at *
      generalize Cfg.active ⟨lb, rb, sb⟩ = B2 at *
      generalize Cfg.from_ ⟨la, ra, sa⟩ 0 = A3 at *
      generalize Cfg.from_ ⟨lb, rb, sb⟩ 0 = B3 at *
      generalize Cfg.from_ ⟨la, ra, sa⟩ 1 = A4 at *
      generalize Cfg.from_ ⟨lb, rb, sb⟩ 1 = B4 at *
      generalize Cfg.record ⟨lb, rb, sb⟩ lb = R1 at *
      generalize Cfg.root ⟨lb, rb, sb⟩ rb = R2 at *
      have ew : IntKind.i64.wrap (B4 - B3) = B4 - B3 := IntWalk.i64_in _ (by omega)
      unfold Cfg.val at *
      simp only at *
      have a0 : ∀ x : Ext W3, x.now.cell? ⟨g7, 0, none⟩ = some (.int .i64 la) := fun x => x.cell (by simpa using hba.cell 0)
      have a1 : ∀ x : Ext W3, x.now.cell? ⟨g7, 1, none⟩ = some (.int .i64 ra) := fun x => x.cell (by simpa using hba.cell 1)
      have a2 : ∀ x : Ext W3, x.now.cell? ⟨g7, 2, none⟩ = some (.int .i64 sa) := fun x => x.cell (by simpa using hba.cell 2)
      have b0 : ∀ x : Ext W3, x.now.cell? ⟨g8, 0, none⟩ = some (.int .i64 lb) := fun x => x.cell (by simpa using hbb.cell 0)
      have b1 : ∀ x : Ext W3, x.now.cell? ⟨g8, 1, none⟩ = some (.int .i64 rb) := fun x => x.cell (by simpa using hbb.cell 1)
      have b2 : ∀ x : Ext W3, x.now.cell? ⟨g8, 2, none⟩ = some (.int .i64 sb) := fun x => x.cell (by simpa using hbb.cell 2)
      have HK := Lib.hid hk
      clear hba hbb hk hsa hsb hle
      refine wp_region_ext (by kernel_rfl) (by kernel_rfl) ?_
      repeat (quiet_step (first
        | (go_at_call 21; with_reducible exact Calls.ext (hck _))
        | (go_at_call 23; with_reducible exact Calls.ext (hwa _))
        | (go_at_call 23; with_reducible exact Calls.ext (hwb _))
        | (go_at_call 24; with_reducible exact Calls.ext (haa _))
        | (go_at_call 24; with_reducible exact Calls.ext (hab _))
        | (go_at_call 25; with_reducible exact Calls.ext (hf0a _))
        | (go_at_call 25; with_reducible exact Calls.ext (hf0b _))
        | (go_at_call 25; with_reducible exact Calls.ext (hf1a _))
        | (go_at_call 25; with_reducible exact Calls.ext (hf1b _))
        | (go_at_call 26; with_reducible exact Calls.ext (hrec _))
        | (go_at_call 27; with_reducible exact Calls.ext (hroo _))))
      refine wpQuiet_nil ?_
      rintro _ ⟨x, rfl⟩
      have hx := x.keep
      have HX := Lib.hid hx
      clear hx a0 a1 a2 b0 b1 b2
      go_wp2
      go_ret
      exact ⟨rfl, HK.out.join HX.out HK.out.size (by simp)⟩
    · go_wp2_with fail
      obtain ⟨mb, hmb⟩ : ∃ mb, more % 3 = mb := ⟨_, rfl⟩
      have hm : 0 ≤ mb ∧ mb ≤ 2 := by omega
      simp only [hmb]
      have hbb : Blk ((w2.setCell ⟨g8, 1, none⟩ (.int .i64 (ra + mb))).setCell ⟨g8, 0, none⟩ (.int .i64 (la + mb))) g8 34 #[.int .i64 (la + mb), .int .i64 (ra + mb), .int .i64 (sa)] := by simpa using ((HB8.out.set_ 1 (.int .i64 (ra + mb))).set_ 0 (.int .i64 (la + mb)))
      have hba := ((HB7.out.far (p := ⟨g8, 1, none⟩) (fun e => HN.out e.symm) (.int .i64 (ra + mb))).far (p := ⟨g8, 0, none⟩) (fun e => HN.out e.symm) (.int .i64 (la + mb)))
      have hk := ((HK2.out.setCell (p := ⟨g8, 1, none⟩) (fun h => by have := HG.out; simp at h; omega) (.int .i64 (ra + mb))).setCell (p := ⟨g8, 0, none⟩) (fun h => by have := HG.out; simp at h; omega) (.int .i64 (la + mb)))
      generalize ((w2.setCell ⟨g8, 1, none⟩ (.int .i64 (ra + mb))).setCell ⟨g8, 0, none⟩ (.int .i64 (la + mb))) = W3 at *
      obtain ⟨lb, hlb⟩ : ∃ lb, la + mb = lb := ⟨_, rfl⟩
      obtain ⟨rb, hrb⟩ : ∃ rb, ra + mb = rb := ⟨_, rfl⟩
      obtain ⟨sb, hsb⟩ : ∃ sb, sa = sb := ⟨_, rfl⟩
      rw [hlb, hrb, hsb] at hbb
      have hle : la ≤ lb ∧ ra ≤ rb ∧ sa ≤ sb ∧ rb + 2 ≤ lb ∧ rb ≤ 16 ∧ lb ≤ 60 ∧ sb ≤ 400 := by omega
      clear hm hmb hlb hrb hsb h3 z0 z1 z2 f0 f1 f2 HB8 HB7 HK2 HG HN
      have hsa : Cfg.Small ⟨la, ra, sa⟩ := ⟨by simp only; omega, by simp only; omega, by simp only; omega, by simp only; omega, by simp only; omega, by simp only; omega⟩
      have hsb : Cfg.Small ⟨lb, rb, sb⟩ := ⟨by simp only; omega, by simp only; omega, by simp only; omega, by simp only; omega, by simp only; omega, by simp only; omega⟩
      have hck := fun w => check_any ⟨lb, rb, sb⟩ w
      rw [errIf_yes lb rb sb (by omega)] at hck
      have hwa := fun w => wordsOf_any ⟨la, ra, sa⟩ w hsa
      have hwb := fun w => wordsOf_any ⟨lb, rb, sb⟩ w hsb
      have haa := fun w => active_any ⟨la, ra, sa⟩ w hsa
      have hab := fun w => active_any ⟨lb, rb, sb⟩ w hsb
      have hf0a := fun w => from_any ⟨la, ra, sa⟩ 0 w hsa (by decide) (by decide)
      have hf0b := fun w => from_any ⟨lb, rb, sb⟩ 0 w hsb (by decide) (by decide)
      have hf1a := fun w => from_any ⟨la, ra, sa⟩ 1 w hsa (by decide) (by decide)
      have hf1b := fun w => from_any ⟨lb, rb, sb⟩ 1 w hsb (by decide) (by decide)
      have hrec := fun w => record_any ⟨lb, rb, sb⟩ lb w (by omega) (by omega)
      have hroo := fun w => root_any ⟨lb, rb, sb⟩ rb w hsb (by omega) (by omega)
      have hq0 := from_le ⟨lb, rb, sb⟩ hsb 0 (by decide) (by decide)
      have hq1 := from_le ⟨lb, rb, sb⟩ hsb 1 (by decide) (by decide)
      obtain ⟨o1, o2, o3, o4, o5, o6, o7⟩ := more_le ⟨la, ra, sa⟩ ⟨lb, rb, sb⟩ hle.1 hle.2.1 hle.2.2.1
      simp only at o5 o6 o7
      generalize Cfg.words ⟨la, ra, sa⟩ = A1 at *
      generalize Cfg.words ⟨lb, rb, sb⟩ = B1 at *
      generalize Cfg.active ⟨la, ra, sa⟩ = A2 at *
      generalize Cfg.active ⟨lb, rb, sb⟩ = B2 at *
      generalize Cfg.from_ ⟨la, ra, sa⟩ 0 = A3 at *
      generalize Cfg.from_ ⟨lb, rb, sb⟩ 0 = B3 at *
      generalize Cfg.from_ ⟨la, ra, sa⟩ 1 = A4 at *
      generalize Cfg.from_ ⟨lb, rb, sb⟩ 1 = B4 at *
      generalize Cfg.record ⟨lb, rb, sb⟩ lb = R1 at *
      generalize Cfg.root ⟨lb, rb, sb⟩ rb = R2 at *
      have ew : IntKind.i64.wrap (B4 - B3) = B4 - B3 := IntWalk.i64_in _ (by omega)
      unfold Cfg.val at *
      simp only at *
      have a0 : ∀ x : Ext W3, x.now.cell? ⟨g7, 0, none⟩ = some (.int .i64 la) := fun x => x.cell (by simpa using hba.cell 0)
      have a1 : ∀ x : Ext W3, x.now.cell? ⟨g7, 1, none⟩ = some (.int .i64 ra) := fun x => x.cell (by simpa using hba.cell 1)
      have a2 : ∀ x : Ext W3, x.now.cell? ⟨g7, 2, none⟩ = some (.int .i64 sa) := fun x => x.cell (by simpa using hba.cell 2)
      have b0 : ∀ x : Ext W3, x.now.cell? ⟨g8, 0, none⟩ = some (.int .i64 lb) := fun x => x.cell (by simpa using hbb.cell 0)
      have b1 : ∀ x : Ext W3, x.now.cell? ⟨g8, 1, none⟩ = some (.int .i64 rb) := fun x => x.cell (by simpa using hbb.cell 1)
      have b2 : ∀ x : Ext W3, x.now.cell? ⟨g8, 2, none⟩ = some (.int .i64 sb) := fun x => x.cell (by simpa using hbb.cell 2)
      have HK := Lib.hid hk
      clear hba hbb hk hsa hsb hle
      refine wp_region_ext (by kernel_rfl) (by kernel_rfl) ?_
      repeat (quiet_step (first
        | (go_at_call 21; with_reducible exact Calls.ext (hck _))
        | (go_at_call 23; with_reducible exact Calls.ext (hwa _))
        | (go_at_call 23; with_reducible exact Calls.ext (hwb _))
        | (go_at_call 24; with_reducible exact Calls.ext (haa _))
        | (go_at_call 24; with_reducible exact Calls.ext (hab _))
        | (go_at_call 25; with_reducible exact Calls.ext (hf0a _))
        | (go_at_call 25; with_reducible exact Calls.ext (hf0b _))
        | (go_at_call 25; with_reducible exact Calls.ext (hf1a _))
        | (go_at_call 25; with_reducible exact Calls.ext (hf1b _))
        | (go_at_call 26; with_reducible exact Calls.ext (hrec _))
        | (go_at_call 27; with_reducible exact Calls.ext (hroo _))))
      refine wpQuiet_nil ?_
      rintro _ ⟨x, rfl⟩
      have hx := x.keep
      have HX := Lib.hid hx
      clear hx a0 a1 a2 b0 b1 b2
      go_wp2
      go_ret
      exact ⟨rfl, HK.out.join HX.out HK.out.size (by simp)⟩
    · go_wp2_with fail
      obtain ⟨mb, hmb⟩ : ∃ mb, more = mb := ⟨_, rfl⟩
      have hm : 0 ≤ mb ∧ mb ≤ 255 := by omega
      simp only [hmb]
      have hbb : Blk (w2.setCell ⟨g8, 2, none⟩ (.int .i64 (sa + mb))) g8 34 #[.int .i64 (la), .int .i64 (ra), .int .i64 (sa + mb)] := by simpa using (HB8.out.set_ 2 (.int .i64 (sa + mb)))
      have hba := (HB7.out.far (p := ⟨g8, 2, none⟩) (fun e => HN.out e.symm) (.int .i64 (sa + mb)))
      have hk := (HK2.out.setCell (p := ⟨g8, 2, none⟩) (fun h => by have := HG.out; simp at h; omega) (.int .i64 (sa + mb)))
      generalize (w2.setCell ⟨g8, 2, none⟩ (.int .i64 (sa + mb))) = W3 at *
      obtain ⟨lb, hlb⟩ : ∃ lb, la = lb := ⟨_, rfl⟩
      obtain ⟨rb, hrb⟩ : ∃ rb, ra = rb := ⟨_, rfl⟩
      obtain ⟨sb, hsb⟩ : ∃ sb, sa + mb = sb := ⟨_, rfl⟩
      rw [hlb, hrb, hsb] at hbb
      have hle : la ≤ lb ∧ ra ≤ rb ∧ sa ≤ sb ∧ rb + 2 ≤ lb ∧ rb ≤ 16 ∧ lb ≤ 60 ∧ sb ≤ 400 := by omega
      clear hm hmb hlb hrb hsb h3 z0 z1 z2 f0 f1 f2 HB8 HB7 HK2 HG HN
      have hsa : Cfg.Small ⟨la, ra, sa⟩ := ⟨by simp only; omega, by simp only; omega, by simp only; omega, by simp only; omega, by simp only; omega, by simp only; omega⟩
      have hsb : Cfg.Small ⟨lb, rb, sb⟩ := ⟨by simp only; omega, by simp only; omega, by simp only; omega, by simp only; omega, by simp only; omega, by simp only; omega⟩
      have hck := fun w => check_any ⟨lb, rb, sb⟩ w
      rw [errIf_yes lb rb sb (by omega)] at hck
      have hwa := fun w => wordsOf_any ⟨la, ra, sa⟩ w hsa
      have hwb := fun w => wordsOf_any ⟨lb, rb, sb⟩ w hsb
      have haa := fun w => active_any ⟨la, ra, sa⟩ w hsa
      have hab := fun w => active_any ⟨lb, rb, sb⟩ w hsb
      have hf0a := fun w => from_any ⟨la, ra, sa⟩ 0 w hsa (by decide) (by decide)
      have hf0b := fun w => from_any ⟨lb, rb, sb⟩ 0 w hsb (by decide) (by decide)
      have hf1a := fun w => from_any ⟨la, ra, sa⟩ 1 w hsa (by decide) (by decide)
      have hf1b := fun w => from_any ⟨lb, rb, sb⟩ 1 w hsb (by decide) (by decide)
      have hrec := fun w => record_any ⟨lb, rb, sb⟩ lb w (by omega) (by omega)
      have hroo := fun w => root_any ⟨lb, rb, sb⟩ rb w hsb (by omega) (by omega)
      have hq0 := from_le ⟨lb, rb, sb⟩ hsb 0 (by decide) (by decide)
      have hq1 := from_le ⟨lb, rb, sb⟩ hsb 1 (by decide) (by decide)
      obtain ⟨o1, o2, o3, o4, o5, o6, o7⟩ := more_le ⟨la, ra, sa⟩ ⟨lb, rb, sb⟩ hle.1 hle.2.1 hle.2.2.1
      simp only at o5 o6 o7
      generalize Cfg.words ⟨la, ra, sa⟩ = A1 at *
      generalize Cfg.words ⟨lb, rb, sb⟩ = B1 at *
      generalize Cfg.active ⟨la, ra, sa⟩ = A2 at *
      generalize Cfg.active ⟨lb, rb, sb⟩ = B2 at *
      generalize Cfg.from_ ⟨la, ra, sa⟩ 0 = A3 at *
      generalize Cfg.from_ ⟨lb, rb, sb⟩ 0 = B3 at *
      generalize Cfg.from_ ⟨la, ra, sa⟩ 1 = A4 at *
      generalize Cfg.from_ ⟨lb, rb, sb⟩ 1 = B4 at *
      generalize Cfg.record ⟨lb, rb, sb⟩ lb = R1 at *
      generalize Cfg.root ⟨lb, rb, sb⟩ rb = R2 at *
      have ew : IntKind.i64.wrap (B4 - B3) = B4 - B3 := IntWalk.i64_in _ (by omega)
      unfold Cfg.val at *
      simp only at *
      have a0 : ∀ x : Ext W3, x.now.cell? ⟨g7, 0, none⟩ = some (.int .i64 la) := fun x => x.cell (by simpa using hba.cell 0)
      have a1 : ∀ x : Ext W3, x.now.cell? ⟨g7, 1, none⟩ = some (.int .i64 ra) := fun x => x.cell (by simpa using hba.cell 1)
      have a2 : ∀ x : Ext W3, x.now.cell? ⟨g7, 2, none⟩ = some (.int .i64 sa) := fun x => x.cell (by simpa using hba.cell 2)
      have b0 : ∀ x : Ext W3, x.now.cell? ⟨g8, 0, none⟩ = some (.int .i64 lb) := fun x => x.cell (by simpa using hbb.cell 0)
      have b1 : ∀ x : Ext W3, x.now.cell? ⟨g8, 1, none⟩ = some (.int .i64 rb) := fun x => x.cell (by simpa using hbb.cell 1)
      have b2 : ∀ x : Ext W3, x.now.cell? ⟨g8, 2, none⟩ = some (.int .i64 sb) := fun x => x.cell (by simpa using hbb.cell 2)
      have HK := Lib.hid hk
      clear hba hbb hk hsa hsb hle
      refine wp_region_ext (by kernel_rfl) (by kernel_rfl) ?_
      repeat (quiet_step (first
        | (go_at_call 21; with_reducible exact Calls.ext (hck _))
        | (go_at_call 23; with_reducible exact Calls.ext (hwa _))
        | (go_at_call 23; with_reducible exact Calls.ext (hwb _))
        | (go_at_call 24; with_reducible exact Calls.ext (haa _))
        | (go_at_call 24; with_reducible exact Calls.ext (hab _))
        | (go_at_call 25; with_reducible exact Calls.ext (hf0a _))
        | (go_at_call 25; with_reducible exact Calls.ext (hf0b _))
        | (go_at_call 25; with_reducible exact Calls.ext (hf1a _))
        | (go_at_call 25; with_reducible exact Calls.ext (hf1b _))
        | (go_at_call 26; with_reducible exact Calls.ext (hrec _))
        | (go_at_call 27; with_reducible exact Calls.ext (hroo _))))
      refine wpQuiet_nil ?_
      rintro _ ⟨x, rfl⟩
      have hx := x.keep
      have HX := Lib.hid hx
      clear hx a0 a1 a2 b0 b1 b2
      go_wp2
      go_ret
      exact ⟨rfl, HK.out.join HX.out HK.out.size (by simp)⟩

theorem RegionMore.walk (l r s : Int) (b : (lowest .u16 ≤ l ∧ l ≤ greatest .u16) ∧ (lowest .u16 ≤ r ∧ r ≤ greatest .u16) ∧ (lowest .u16 ≤ s ∧ s ≤ greatest .u16)) (what : Int) (h0 : lowest .u8 ≤ what) (h1 : what ≤ greatest .u8) (more : Int) (m0 : lowest .u8 ≤ more) (m1 : more ≤ greatest .u8) (w : World) :
    Calls Try.prog 5 #[.agg #[.int .u16 l, .int .u16 r, .int .u16 s], .int .u8 what, .int .u8 more] w fun e w' => e = .returned (.bool true) ∧ Below w.heap.size w w' := by
  simp [lowest, greatest] at b h0 h1 m0 m1
  exact (RegionMore.core l r s what more w (by omega) (by omega) (by omega) (by omega) (by omega) (by omega) h0 h1 m0 m1).mono fun e w' ⟨he, hk⟩ => ⟨he, hk.below⟩
end Go.Proofs.Ytanjmbjnpcekcaa
