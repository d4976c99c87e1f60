/-
  Contracts of package region: a config by value.
  region.Config.Used.
-/
import Derived.Test.YtbdomdmnjclpdaaRel
import Derived.Test.YtbdomdmnjclpdaaAwk2
set_option maxRecDepth 100000
namespace Go.Proofs.Ytbdomdmnjclpdaa
open Go.RowKit Go.Shelf

structure Cfg where
  log : Int
  roots : Int
  space : Int
def Cfg.val (c : Cfg) : Value := .agg #[.int .i64 c.log, .int .i64 c.roots, .int .i64 c.space]
structure Cfg.Small (c : Cfg) : Prop where
  l0 : 0 ≤ c.log
  l1 : c.log ≤ 1000000
  r0 : 0 ≤ c.roots
  r1 : c.roots ≤ 1000000
  s0 : 0 ≤ c.space
  s1 : c.space ≤ 1000000

def lin (n : Int) : Int := (n + 7) / 8 * 8
def Cfg.record (_c : Cfg) (i : Int) : Int := 16 + 4 * i
def Cfg.active (c : Cfg) : Int := lin (16 + 4 * c.log)
def Cfg.root (c : Cfg) (i : Int) : Int := c.active + 2 + i
def Cfg.from_ (c : Cfg) (k : Int) : Int := lin (c.root c.roots) + k * lin c.space
def Cfg.words (c : Cfg) : Int := c.from_ 2

theorem lin_le (n : Int) : n ≤ lin n ∧ lin n ≤ n + 7 := by unfold lin; omega

set_option maxHeartbeats 400000 in
theorem lines_any (n : Int) (w : World) (h0 : 0 ≤ n) (h1 : n ≤ 1000000000000) :
    Calls Try.prog 33 #[.int .i64 n] w fun e w' => e = .returned (.int .i64 (lin n)) ∧ w = w' := by
  have e : lin n = (n + 8 - 1) / 8 * 8 := by unfold lin; omega
  rw [e]
  clear e
  go_enter Try.func33, Try.ntmps33
  go_wp2
  go_ret
  exact ⟨rfl, rfl⟩

set_option maxHeartbeats 400000 in
theorem record_any (c : Cfg) (i : Int) (w : World) (h0 : 0 ≤ i) (h1 : i ≤ 1000000000000) :
    Calls Try.prog 62 #[c.val, .int .i64 i] w fun e w' => e = .returned (.int .i64 (c.record i)) ∧ Keep w.heap.size [] w w' := by
  unfold Cfg.val Cfg.record
  go_enter Try.func62, Try.ntmps62
  go_wp2
  go_ret
  exact ⟨rfl, (Keep.refl _ _ _).alloc (Nat.le_refl _) _⟩

set_option maxHeartbeats 400000 in
theorem active_any (c : Cfg) (w : World) (h : c.Small) :
    Calls Try.prog 49 #[c.val] w fun e w' => e = .returned (.int .i64 c.active) ∧ Keep w.heap.size [] w w' := by
  obtain ⟨l0, l1, r0, r1, s0, s1⟩ := h
  have hr := fun w => record_any c c.log w l0 (by omega)
  have hli := fun w => lines_any (c.record c.log) w (by unfold Cfg.record; omega) (by unfold Cfg.record; omega)
  have HE : Hid (c.active = lin (c.record c.log)) := rfl
  unfold Cfg.val at *
  go_enter Try.func49, Try.ntmps49
  go_wp2_with fail
  refine (hr _).mono ?_
  rintro e w1 ⟨rfl, hk⟩
  have HK := Lib.hid hk
  clear hk
  go_wp2_with fail
  refine (hli _).mono ?_
  rintro e w2 ⟨rfl, rfl⟩
  go_wp2
  go_ret
  exact ⟨rfl, ((Keep.refl _ _ _).alloc (Nat.le_refl _) _).join HK.out (by simp) (by simp)⟩

theorem active_le (c : Cfg) (h : c.Small) : 16 ≤ c.active ∧ c.active ≤ 5000000 := by
  have := lin_le (16 + 4 * c.log)
  have := h.l0
  have := h.l1
  unfold Cfg.active
  omega

set_option maxHeartbeats 400000 in
theorem root_any (c : Cfg) (i : Int) (w : World) (h : c.Small) (h0 : 0 ≤ i) (h1 : i ≤ 1000000000000) :
    Calls Try.prog 28 #[c.val, .int .i64 i] w fun e w' => e = .returned (.int .i64 (c.root i)) ∧ Keep w.heap.size [] w w' := by
  have ha := fun w => active_any c w h
  obtain ⟨a0, a1⟩ := active_le c h
  unfold Cfg.root
  generalize c.active = ac at *
  unfold Cfg.val at *
  clear h
  go_enter Try.func28, Try.ntmps28
  go_wp2_with fail
  refine (ha _).mono ?_
  rintro e w1 ⟨rfl, hk⟩
  have HK := Lib.hid hk
  clear hk
  go_wp2
  go_ret
  exact ⟨rfl, ((Keep.refl _ _ _).alloc (Nat.le_refl _) _).join HK.out (by simp) (by simp)⟩

set_option maxHeartbeats 400000 in
theorem from_any (c : Cfg) (k : Int) (w : World) (h : c.Small) (h0 : 0 ≤ k) (h1 : k ≤ 1000) :
    Calls Try.prog 18 #[c.val, .int .i64 k] w fun e w' => e = .returned (.int .i64 (c.from_ k)) ∧ Keep w.heap.size [] w w' := by
  have hr := fun w => root_any c c.roots w h h.r0 (by have := h.r1; omega)
  obtain ⟨a0, a1⟩ := active_le c h
  obtain ⟨l0, l1, r0, r1, s0, s1⟩ := h
  have hli1 := fun w => lines_any (c.root c.roots) w (by unfold Cfg.root; omega) (by unfold Cfg.root; omega)
  have hli2 := fun w => lines_any c.space w (by omega) (by omega)
  have b1 := lin_le (c.root c.roots)
  have b2 := lin_le c.space
  have hm0 : 0 ≤ k * lin c.space := Int.mul_nonneg h0 (by omega)
  have hm1 : k * lin c.space ≤ 1000 * 1000007 := Int.le_trans (Int.mul_le_mul_of_nonneg_right h1 (by omega)) (by omega)
  have hro : 0 ≤ c.root c.roots ∧ c.root c.roots ≤ 10000000 := by unfold Cfg.root; omega
  unfold Cfg.from_
  generalize c.root c.roots = ro at *
  generalize lin ro = lr at *
  generalize lin c.space = ls at *
  obtain ⟨b11, b12⟩ := b1
  obtain ⟨b21, b22⟩ := b2
  obtain ⟨hro0, hro1⟩ := hro
  have em : IntKind.i64.wrap (k * ls) = k * ls := IntWalk.i64_in _ (by omega)
  have es : IntKind.i64.wrap (lr + k * ls) = lr + k * ls := IntWalk.i64_in _ (by omega)
  unfold Cfg.val at *
  go_enter Try.func18, Try.ntmps18
  go_wp2_with fail
  have hb := Blk.new w 30 #[.int .i64 c.log, .int .i64 c.roots, .int .i64 c.space]
  have hk : Keep w.heap.size [] w (w.alloc (.cells #[.int .i64 c.log, .int .i64 c.roots, .int .i64 c.space] 30)) := (Keep.refl _ _ _).alloc (Nat.le_refl _) _
  have hs : w.heap.size < (w.alloc (.cells #[.int .i64 c.log, .int .i64 c.roots, .int .i64 c.space] 30)).heap.size := by simp
  generalize w.alloc (.cells #[.int .i64 c.log, .int .i64 c.roots, .int .i64 c.space] 30) = W1 at *
  have c0 : ∀ x : Ext W1, x.now.cell? ⟨w.heap.size, 0, none⟩ = some (.int .i64 c.log) := fun x => x.cell (by simpa using hb.cell 0)
  have c1 : ∀ x : Ext W1, x.now.cell? ⟨w.heap.size, 1, none⟩ = some (.int .i64 c.roots) := fun x => x.cell (by simpa using hb.cell 1)
  have c2 : ∀ x : Ext W1, x.now.cell? ⟨w.heap.size, 2, none⟩ = some (.int .i64 c.space) := fun x => x.cell (by simpa using hb.cell 2)
  have HK := Lib.hid hk
  have HS := Lib.hid hs
  clear hb hk hs
  refine wp_region_ext (by kernel_rfl) (by kernel_rfl) ?_
  repeat (quiet_step (first | (go_at_call 28; exact Calls.ext (hr _)) | (go_at_call 33; exact Calls.ext_same (hli1 _)) | (go_at_call 33; exact Calls.ext_same (hli2 _))))
  refine wpQuiet_nil ?_
  rintro _ ⟨x, rfl⟩
  have hx := x.keep
  have HX := Lib.hid hx
  clear hx c0 c1 c2
  go_wp2
  go_ret
  exact ⟨rfl, HK.out.join HX.out HK.out.size (by simp)⟩

theorem from_le (c : Cfg) (h : c.Small) (k : Int) (h0 : 0 ≤ k) (h1 : k ≤ 1000) : 0 ≤ c.from_ k ∧ c.from_ k ≤ 2000000000 := by
  obtain ⟨a0, a1⟩ := active_le c h
  obtain ⟨l0, l1, r0, r1, s0, s1⟩ := h
  have b1 := lin_le (c.root c.roots)
  have b2 := lin_le c.space
  have hm0 : 0 ≤ k * lin c.space := Int.mul_nonneg h0 (by omega)
  have hm1 : k * lin c.space ≤ 1000 * 1000007 := Int.le_trans (Int.mul_le_mul_of_nonneg_right h1 (by omega)) (by omega)
  have hro : 0 ≤ c.root c.roots ∧ c.root c.roots ≤ 10000000 := by unfold Cfg.root; omega
  unfold Cfg.from_
  omega

set_option maxHeartbeats 400000 in
theorem wordsOf_any (c : Cfg) (w : World) (h : c.Small) :
    Calls Try.prog 60 #[c.val] w fun e w' => e = .returned (.int .i64 c.words) ∧ Keep w.heap.size [] w w' := by
  have hf := fun w => from_any c 2 w h (by omega) (by omega)
  unfold Cfg.words
  generalize c.from_ 2 = r at *
  unfold Cfg.val at *
  clear h
  go_enter Try.func60, Try.ntmps60
  go_wp2_with fail
  refine (hf _).mono ?_
  rintro e w1 ⟨rfl, hk⟩
  have HK := Lib.hid hk
  clear hk
  go_wp2
  go_ret
  exact ⟨rfl, ((Keep.refl _ _ _).alloc (Nat.le_refl _) _).join HK.out (by simp) (by simp)⟩

/-- May it be? -/
def Cfg.okB (c : Cfg) : Bool := decide (1 ≤ c.roots ∧ c.roots ≤ 16 ∧ c.roots + 2 ≤ c.log ∧ c.log ≤ 200 ∧ 8 ≤ c.space ∧ c.space ≤ 4096)
def errIf (b : Bool) : Int := if b then 0 else 1

theorem errIf_yes (l r s : Int) (h : 1 ≤ r ∧ r ≤ 16 ∧ r + 2 ≤ l ∧ l ≤ 200 ∧ 8 ≤ s ∧ s ≤ 4096) : errIf (Cfg.okB ⟨l, r, s⟩) = 0 := by
  simp only [errIf, Cfg.okB, h, and_self, decide_true, if_true]
theorem errIf_no (l r s : Int) (h : ¬ (1 ≤ r ∧ r ≤ 16 ∧ r + 2 ≤ l ∧ l ≤ 200 ∧ 8 ≤ s ∧ s ≤ 4096)) : errIf (Cfg.okB ⟨l, r, s⟩) = 1 := by
  simp only [errIf, Cfg.okB, h, decide_false, Bool.false_eq_true, if_false]

set_option maxHeartbeats 1000000 in
theorem check_any (c : Cfg) (w : World) :
    Calls Try.prog 68 #[c.val] w fun e w' => e = .returned (.int .i64 (errIf c.okB)) ∧ Keep w.heap.size [] w w' := by
  obtain ⟨l, r, s⟩ := c
  unfold Cfg.val
  simp only
  by_cases h1 : r < 1
  · have e : errIf (Cfg.okB ⟨l, r, s⟩) = 1 := by simp [errIf, Cfg.okB]; omega
    rw [e]
    clear e
    go_enter Try.func68, Try.ntmps68
    go_wp2
    go_ret
    exact ⟨rfl, (Keep.refl _ _ _).alloc (Nat.le_refl _) _⟩
  by_cases h2 : 16 < r
  · have e : errIf (Cfg.okB ⟨l, r, s⟩) = 1 := by simp [errIf, Cfg.okB]; omega
    rw [e]
    clear e
    go_enter Try.func68, Try.ntmps68
    go_wp2
    go_ret
    exact ⟨rfl, (Keep.refl _ _ _).alloc (Nat.le_refl _) _⟩
  by_cases h3 : l < r + 2
  · have e : errIf (Cfg.okB ⟨l, r, s⟩) = 1 := by simp [errIf, Cfg.okB]; omega
    rw [e]
    clear e
    go_enter Try.func68, Try.ntmps68
    go_wp2
    go_ret
    exact ⟨rfl, (Keep.refl _ _ _).alloc (Nat.le_refl _) _⟩
  by_cases h4 : 200 < l
  · have e : errIf (Cfg.okB ⟨l, r, s⟩) = 1 := by simp [errIf, Cfg.okB]; omega
    rw [e]
    clear e
    go_enter Try.func68, Try.ntmps68
    go_wp2
    go_ret
    exact ⟨rfl, (Keep.refl _ _ _).alloc (Nat.le_refl _) _⟩
  by_cases h5 : s < 8
  · have e : errIf (Cfg.okB ⟨l, r, s⟩) = 1 := by simp [errIf, Cfg.okB]; omega
    rw [e]
    clear e
    go_enter Try.func68, Try.ntmps68
    go_wp2
    go_ret
    exact ⟨rfl, (Keep.refl _ _ _).alloc (Nat.le_refl _) _⟩
  by_cases h6 : 4096 < s
  · have e : errIf (Cfg.okB ⟨l, r, s⟩) = 1 := by simp [errIf, Cfg.okB]; omega
    rw [e]
    clear e
    go_enter Try.func68, Try.ntmps68
    go_wp2
    go_ret
    exact ⟨rfl, (Keep.refl _ _ _).alloc (Nat.le_refl _) _⟩
  · have e : errIf (Cfg.okB ⟨l, r, s⟩) = 0 := by simp [errIf, Cfg.okB]; omega
    rw [e]
    clear e
    go_enter Try.func68, Try.ntmps68
    go_wp2
    go_ret
    exact ⟨rfl, (Keep.refl _ _ _).alloc (Nat.le_refl _) _⟩

/-- The config that Make makes of three small numbers. -/
def mkCfg (l r s : Int) : Cfg := ⟨1 + r % 6 + 2 + l % 12, 1 + r % 6, 8 + s % 90⟩

set_option maxHeartbeats 400000 in
theorem make_any (l r s : Int) (w : World) (l0 : 0 ≤ l) (l1 : l ≤ 65535) (r0 : 0 ≤ r) (r1 : r ≤ 65535) (s0 : 0 ≤ s) (s1 : s ≤ 65535) :
    Calls Try.prog 42 #[.agg #[.int .u16 l, .int .u16 r, .int .u16 s]] w fun e w' => e = .returned (mkCfg l r s).val ∧ Keep w.heap.size [] w w' := by
  unfold Cfg.val mkCfg
  simp only
  go_enter Try.func42, Try.ntmps42
  go_wp2
  exact bodyPost_ret (v := .agg #[.int .i64 (1 + r % 6 + 2 + l % 12), .int .i64 (1 + r % 6), .int .i64 (8 + s % 90)]) (by simp [results, Try.results42, go_sem]) rfl ⟨rfl, ((Keep.refl _ _ _).alloc (Nat.le_refl _) _).alloc (by simp) _⟩

set_option maxHeartbeats 1000000 in
theorem awake3_any (w : World) :
    Calls Try.prog 94 #[] w fun e w' => e = .returned (.bool true) ∧ Keep w.heap.size [] w w' := by
  have hsm : Cfg.Small ⟨3, 1, 8⟩ := ⟨by decide, by decide, by decide, by decide, by decide, by decide⟩
  have hck := fun w => check_any ⟨3, 1, 8⟩ w
  have hac := fun w => active_any ⟨3, 1, 8⟩ w hsm
  have hfr := fun w => from_any ⟨3, 1, 8⟩ 0 w hsm (by decide) (by decide)
  have hwo := fun w => wordsOf_any ⟨3, 1, 8⟩ w hsm
  rw [show errIf (Cfg.okB ⟨3, 1, 8⟩) = 0 by decide] at hck
  rw [show Cfg.active ⟨3, 1, 8⟩ = 32 by decide] at hac
  rw [show Cfg.from_ ⟨3, 1, 8⟩ 0 = 40 by decide] at hfr
  rw [show Cfg.words ⟨3, 1, 8⟩ = 56 by decide] at hwo
  unfold Cfg.val at *
  simp only at *
  clear hsm
  go_enter Try.func94, Try.ntmps94
  go_wp2_with fail
  refine (awake2_any w).mono ?_
  rintro e w1 ⟨rfl, hk1⟩
  have HK1 := Lib.hid hk1
  clear hk1
  go_wp2_with fail
  have hb1 := Blk.new w1 30 #[.int .i64 3, .int .i64 1, .int .i64 8]
  have hk2 : Keep w.heap.size [] w (w1.alloc (.cells #[.int .i64 3, .int .i64 1, .int .i64 8] 30)) := HK1.out.alloc HK1.out.size _
  generalize w1.alloc (.cells #[.int .i64 3, .int .i64 1, .int .i64 8] 30) = W2 at *
  refine (hck W2).mono ?_
  rintro e w3 ⟨rfl, hk3⟩
  have hb3 := hb1.keep hk3 hb1.lt (by simp)
  have HK3 : Hid (Keep w.heap.size [] w w3) := hk2.join hk3 hk2.size (by simp)
  have HB3 := Lib.hid hb3
  have c0 := hb3.cell 0
  have c1 := hb3.cell 1
  have c2 := hb3.cell 2
  simp at c0 c1 c2
  clear hk3 hb3 hb1 hk2
  go_wp2_with fail
  refine (hac w3).mono ?_
  rintro e w4 ⟨rfl, hk4⟩
  have hb4 := HB3.out.keep hk4 HB3.out.lt (by simp)
  have HK4 : Hid (Keep w.heap.size [] w w4) := HK3.out.join hk4 HK3.out.size (by simp)
  have HB4 := Lib.hid hb4
  clear c0 c1 c2
  have c0 := hb4.cell 0
  have c1 := hb4.cell 1
  have c2 := hb4.cell 2
  simp at c0 c1 c2
  clear hk4 hb4
  go_wp2_with fail
  refine (hfr w4).mono ?_
  rintro e w5 ⟨rfl, hk5⟩
  have hb5 := HB4.out.keep hk5 HB4.out.lt (by simp)
  have HK5 : Hid (Keep w.heap.size [] w w5) := HK4.out.join hk5 HK4.out.size (by simp)
  clear c0 c1 c2
  have c0 := hb5.cell 0
  have c1 := hb5.cell 1
  have c2 := hb5.cell 2
  simp at c0 c1 c2
  clear hk5 hb5
  go_wp2_with fail
  refine (hwo w5).mono ?_
  rintro e w6 ⟨rfl, hk6⟩
  have HK6 : Hid (Keep w.heap.size [] w w6) := HK5.out.join hk6 HK5.out.size (by simp)
  clear hk6 c0 c1 c2
  go_wp2
  go_ret
  exact ⟨rfl, HK6.out⟩
end Go.Proofs.Ytbdomdmnjclpdaa
set_option maxRecDepth 100000
namespace Go.Proofs.Ytbdomdmnjclpdaa
open Go.RowKit Go.Shelf

set_option maxHeartbeats 400000 in
theorem usedAt_any (c : Cfg) (w : World) (h : c.Small) :
    Calls Try.prog 50 #[c.val] w fun e w' => e = .returned (.int .i64 (c.active + 1)) ∧ Keep w.heap.size [] w w' := by
  have ha := fun w => active_any c w h
  obtain ⟨a0, a1⟩ := active_le c h
  generalize c.active = ac at *
  unfold Cfg.val at *
  clear h
  go_enter Try.func50, Try.ntmps50
  go_wp2_with fail
  refine (ha _).mono ?_
  rintro e w1 ⟨rfl, hk⟩
  have HK := Lib.hid hk
  clear hk
  go_wp2
  go_ret
  exact ⟨rfl, ((Keep.refl _ _ _).alloc (Nat.le_refl _) _).join HK.out (by simp) (by simp)⟩

end Go.Proofs.Ytbdomdmnjclpdaa
