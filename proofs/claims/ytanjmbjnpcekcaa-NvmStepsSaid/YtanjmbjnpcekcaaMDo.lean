/-
  tumuluslaw02.M.Do: a step, on a device, and by definition.
-/
import Derived.Test.YtanjmbjnpcekcaaM
set_option linter.unusedSimpArgs false
set_option linter.unusedVariables false
namespace Go.Proofs.Ytanjmbjnpcekcaa
open Go.RowKit Go.Shelf

set_option maxHeartbeats 400000 in
theorem flush_out (d : DevI) (s : St) (i : Int) (w : World) (h : Dev w d s) (hi : ¬ (0 ≤ i ∧ i < s.now.length)) :
    Calls Try.prog 30 #[.pointer (some ⟨d.b, 0, none⟩), .int .i64 i] w fun e w' => e = .returned (.int .i64 1) ∧ w = w' := by
  have hhas := has_any d s i w h
  have e : inN s.now.length i = false := by simp only [inN, Bool.and_eq_false_iff, decide_eq_false_iff_not]; omega
  rw [e] at hhas
  clear h hi e
  go_enter Try.func30, Try.ntmps30
  go_wp2_with fail
  refine hhas.mono ?_
  rintro e w' ⟨rfl, rfl⟩
  go_wp2
  go_ret
  simp

/-- Which word a step means. -/
def At (n : Nat) (at_ i : Int) : Prop := (n = 0 ∧ at_ - 3 = i) ∨ (0 < n ∧ at_ ≤ 10 ∧ at_ - 3 = i) ∨ (0 < n ∧ 10 < at_ ∧ at_.tmod n = i)

def DidM (w : World) (d : DevI) (m : MI) (s' : St) (e : Ending) (w' : World) : Prop := e = .returned (.bool true) ∧ ∃ t', Dev w' d s' ∧ MOf w' m s' t' ∧ Keep w.heap.size (d.blocks ++ m.blocks) w w'
def CutM (w : World) (d : DevI) (m : MI) (s : St) (e : Ending) (w' : World) : Prop := e = offE ∧ ∃ t', Dev w' d s ∧ MOf w' m s t' ∧ Keep w.heap.size (d.blocks ++ m.blocks) w w'

theorem MOf.congr {w : World} {m : MI} {s s' : St} {t : List Int} (h : MOf w m s t) (h1 : s'.now = s.now) (h2 : s'.kept = s.kept) (h3 : s'.q = s.q) : MOf w m s' t := by
  obtain ⟨l, u, now, kept, q⟩ := s
  obtain ⟨l', u', now', kept', q'⟩ := s'
  simp only at h1 h2 h3
  subst h1 h2 h3
  exact ⟨h.blk, h.now, h.kept, h.to, h.is, h.tl, h.isTo, h.lk, h.l8, h.small, h.nodup⟩

theorem MOf.setNow {w : World} {m : MI} {s : St} {t : List Int} (h : MOf w m s t) {k : Nat} (_hk : k < s.now.length) (v : Int) :
    MOf (w.setCell ⟨m.nb, k, none⟩ (.int .u64 v)) m { s with now := s.now.set k v } t := by
  have hn := h.nodup
  simp only [MI.blocks, List.nodup_cons, List.mem_cons, not_or, List.not_mem_nil, not_false_eq_true, and_true] at hn
  exact { h with
    blk := by simpa using h.blk.far (p := ⟨m.nb, k, none⟩) (by simp; omega) _
    now := by simpa [uw, List.map_set] using h.now.set_ k (.int .u64 v)
    kept := by simpa using h.kept.far (p := ⟨m.nb, k, none⟩) (by simp; omega) _
    to := by simpa using h.to.far (p := ⟨m.nb, k, none⟩) (by simp; omega) _
    is := by simpa [isL] using h.is.far (p := ⟨m.nb, k, none⟩) (by simp; omega) _
    tl := by simpa using h.tl
    isTo := by simpa using h.isTo
    lk := by simpa using h.lk
    l8 := by simpa using h.l8
    small := by simpa using h.small }

set_option maxRecDepth 100000 in
set_option maxHeartbeats 2000000 in
theorem do_store (d : DevI) (m : MI) (s : St) (t : List Int) (dO at_ v bt : Int) (k : Nat) (w : World) (hd : Dev w d s) (hm : MOf w m s t) (hap : ∀ j ∈ m.blocks, j ∉ d.blocks)
    (d0 : 0 ≤ dO) (d1 : dO ≤ 255) (a0 : 0 ≤ at_) (a1 : at_ ≤ 255) (hq : dO % 7 ≤ 3) (hA : At s.now.length at_ k) (hk : k < s.now.length) :
    Calls Try.prog 38 #[.pointer (some ⟨m.b, 0, none⟩), .pointer (some ⟨d.b, 0, none⟩), .agg #[.int .u8 dO, .int .u8 at_, .int .u64 v, .int .u64 bt]] w fun e w' =>
      (¬ s.goes ∧ DidM w d m (s.store k v) e w') ∨ (s.goes ∧ CutM w d m s e w') := by
  have hkw : Keep w.heap.size [] w (w.alloc (.cells #[.int .u8 dO, .int .u8 at_, .int .u64 v, .int .u64 bt] 58)) := (Keep.refl _ _ _).alloc (Nat.le_refl _) _
  obtain ⟨hc0, hc1, hc2, hc3⟩ := (hm.of_new hkw).cells
  have hsm := hm.small
  have hsmI : (s.now.length : Int) ≤ 1099511627776 := by omega
  obtain ⟨q, hqq⟩ : ∃ q, dO % 7 = q := ⟨_, rfl⟩
  rw [hqq] at hq
  have q0 : 0 ≤ q := by omega
  have q4 : (q == 4) = false := by rw [beq_eq_false_iff_ne]; omega
  have q5 : (q == 5) = false := by rw [beq_eq_false_iff_ne]; omega
  have q6 : (q == 6) = false := by rw [beq_eq_false_iff_ne]; omega
  have hkI : (k : Int) < s.now.length := by omega
  have hkl : k < s.now.length := hk
  have hst := fun w hd => store_in d s k v w hd hk
  have HD := Lib.hid hd
  have HM := Lib.hid hm
  have HAP := Lib.hid hap
  have HKW := Lib.hid hkw
  have HB0 := Lib.hid (Blk.new w 58 #[.int .u8 dO, .int .u8 at_, .int .u64 v, .int .u64 bt])
  have HWD : Hid (w.heap.size ∉ d.blocks) := fun h => Nat.lt_irrefl _ (hd.lt _ h)
  clear hd hm hap hkw
  rcases hA with ⟨h1, h2⟩ | ⟨h1, h2, h3⟩ | ⟨h1, h2, h3⟩
  · omega
  all_goals
    have hp : (0 : Int) < s.now.length := by omega
    go_enter Try.func38, Try.ntmps38
    go_wp2_with fail
    generalize w.alloc (.cells #[.int .u8 dO, .int .u8 at_, .int .u64 v, .int .u64 bt] 58) = w0 at *
    refine (hst _ (HD.out.of_new HKW.out)).mono ?_
    rintro e w1 (⟨hg, rfl, hd1, hk1⟩ | ⟨hg, rfl, hd1, hk1⟩)
    · have hb1 := HB0.out.keep hk1 HB0.out.lt HWD.out
      have hm1 := (HM.out.of_new HKW.out).keep hk1 (fun j hj => ⟨(HM.out.of_new HKW.out).lt j hj, HAP.out j hj⟩)
      have c2 := hb1.cell 2
      simp at c2
      obtain ⟨y0, y1, y2, y3⟩ := hm1.cells
      have hw : w1.cell? ⟨m.nb, k, none⟩ = some (.int .u64 s.now[k]) := by
        rw [hm1.now.cell, getElem?_toArray_uw]; simp [hk]
      have hf := hm1.now.frozen k
      have HD1 := Lib.hid hd1
      have HM1 := Lib.hid hm1
      have HK1 := Lib.hid hk1
      clear hd1 hm1 hk1 hb1 hc0 hc1 hc2 hc3 hst
      go_wp2_with fail
      refine wp_region_still_tail 8 (by kernel_rfl) (by kernel_rfl) ?_
      simp only [List.take_succ_cons, List.take_zero, List.drop_succ_cons, List.drop_zero]
      repeat still_step
      refine wpStill_nil ?_
      go_wp2
      go_ret
      refine .inl ⟨hg, rfl, t, ?_, ?_, ?_⟩
      · refine (HD1.out.heap (w' := w1.drew) rfl).same fun j hj => Below.heap_setCell _ _ _ _ (fun e => ?_)
        exact HAP.out m.nb (by simp [MI.blocks]) (by have e : j = m.nb := e; exact e ▸ hj)
      · have := (HM1.out.heap (w' := w1.drew) rfl).setNow hk v
        exact this.congr rfl rfl rfl
      · have hkk := (HKW.out.sub (S' := d.blocks ++ m.blocks) (by simp)).join HK1.out HKW.out.size (by intro j _ hj; simp [hj])
        exact hkk.drew.setCell (by intro _; simp [MI.blocks]) _
    · have hm1 := (HM.out.of_new HKW.out).keep hk1 (fun j hj => ⟨(HM.out.of_new HKW.out).lt j hj, HAP.out j hj⟩)
      have HD1 := Lib.hid hd1
      have HM1 := Lib.hid hm1
      have HK1 := Lib.hid hk1
      clear hd1 hm1 hk1 hc0 hc1 hc2 hc3 hst
      unfold offE
      go_wp2
      exact ⟨rfl, .inr ⟨hg, rfl, t, HD1.out, HM1.out, (HKW.out.sub (S' := d.blocks ++ m.blocks) (by simp)).join HK1.out HKW.out.size (by intro j _ hj; simp [hj])⟩⟩
end Go.Proofs.Ytanjmbjnpcekcaa
