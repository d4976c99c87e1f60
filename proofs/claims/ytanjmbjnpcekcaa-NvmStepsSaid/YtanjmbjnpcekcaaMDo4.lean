/-
  tumuluslaw02.M.Do: a fence.
-/
import Derived.Test.YtanjmbjnpcekcaaMDo3
set_option linter.unusedSimpArgs false
set_option linter.unusedVariables false
namespace Go.Proofs.Ytanjmbjnpcekcaa
open Go.RowKit Go.Shelf

theorem fenced_getD (kept : List Int) (q : Nat → Option (List Int)) (x : Nat) (h : x < kept.length) : (fenced kept q).getD x 0 = match q (x / 8) with | some l => l.getD (x % 8) 0 | none => kept.getD x 0 := by
  simp [fenced, List.getD_eq_getElem?_getD, h]
  cases q (x / 8) <;> rfl

theorem fence_of {w : World} {m : MI} {s : St} {t : List Int} (h : MOf w m s t) {w' : World} {j : Nat} (hj : j = s.now.length)
    (hm : MMem w' m s.now.length (fun x => s.now.getD x 0) (fun x => if x < j ∧ (s.q (x / 8)).isSome = true then t.getD x 0 else s.kept.getD x 0) (fun x => t.getD x 0) (fun x => if x < j then false else (s.q (x / 8)).isSome)) :
    ∃ t', MOf w' m s.fence t' := by
  refine ⟨_, hm.of s.fence rfl (by simp [St.fence, fenced_length, h.lk]) h.l8 h.small (fun _ _ => rfl) ?_ ?_ ?_⟩
  · intro x hx
    have : s.fence.kept = fenced s.kept s.q := rfl
    rw [this, fenced_getD _ _ _ (by rw [h.lk]; exact hx)]
    cases hq : s.q (x / 8) with
    | none => rw [if_neg (by simp)]
    | some l => rw [if_pos ⟨by omega, rfl⟩]; exact h.isTo x l hx hq
  · intro x hx
    rw [if_pos (by omega)]; rfl
  · intro x l hx hq
    cases hq

/-- Some word is meant. -/
theorem at_some (n : Nat) (at_ : Int) : ∃ i, At n at_ i := by
  unfold At
  by_cases h : n = 0
  · exact ⟨_, .inl ⟨h, rfl⟩⟩
  · by_cases h2 : at_ ≤ 10
    · exact ⟨_, .inr (.inl ⟨by omega, h2, rfl⟩)⟩
    · exact ⟨_, .inr (.inr ⟨by omega, by omega, rfl⟩)⟩

set_option maxRecDepth 100000 in
set_option maxHeartbeats 4000000 in
theorem do_fence (d : DevI) (m : MI) (s : St) (t : List Int) (dO at_ v bt : Int) (w : World) (hd : Dev w d s) (hm : MOf w m s t) (hap : ∀ j ∈ m.blocks, j ∉ d.blocks)
    (d0 : 0 ≤ dO) (d1 : dO ≤ 255) (a0 : 0 ≤ at_) (a1 : at_ ≤ 255) (hq : dO % 7 = 5) :
    Calls Try.prog 38 #[.pointer (some ⟨m.b, 0, none⟩), .pointer (some ⟨d.b, 0, none⟩), .agg #[.int .u8 dO, .int .u8 at_, .int .u64 v, .int .u64 bt]] w fun e w' =>
      (¬ s.goes ∧ DidM w d m s.fence e w') ∨ (s.goes ∧ CutM w d m s e w') := by
  obtain ⟨i, hA⟩ := at_some s.now.length at_
  have hkw : Keep w.heap.size [] w (w.alloc (.cells #[.int .u8 dO, .int .u8 at_, .int .u64 v, .int .u64 bt] 58)) := (Keep.refl _ _ _).alloc (Nat.le_refl _) _
  obtain ⟨hc0, hc1, hc2, hc3⟩ := (hm.of_new hkw).cells
  have hsm := hm.small
  have hsmI : (s.now.length : Int) ≤ 1099511627776 := by omega
  have hst := fun w hd => fence_any d s w hd
  have hnd := hm.nodup
  simp only [MI.blocks, List.nodup_cons, List.mem_cons, not_or, List.not_mem_nil, not_false_eq_true, and_true] at hnd
  have HD := Lib.hid hd
  have HM := Lib.hid hm
  have HAP := Lib.hid hap
  have HKW := Lib.hid hkw
  have HWD : Hid (w.heap.size ∉ d.blocks) := fun h => Nat.lt_irrefl _ (hd.lt _ h)
  clear hd hm hap hkw hnd
  have hin : 0 < s.now.length ∧ 10 < at_ ∧ at_.tmod s.now.length = i → 0 ≤ i ∧ i < s.now.length := by
    rintro ⟨g1, g2, g3⟩
    rw [Int.tmod_eq_emod_of_nonneg a0] at g3
    have e1 := Int.emod_lt_of_pos at_ (b := s.now.length) (by omega)
    have e2 := Int.emod_nonneg at_ (b := s.now.length) (by omega)
    rw [g3] at e1 e2
    exact ⟨e2, e1⟩
  have hcase : i < 0 ∨ (0 ≤ i ∧ i < (s.now.length : Int)) ∨ (0 ≤ i ∧ (s.now.length : Int) ≤ i) := by omega
  rcases hA with ⟨h1, h2⟩ | ⟨h1, h2, h3⟩ | ⟨h1, h2, h3⟩
  rotate_left 2
  · have hin := hin ⟨h1, h2, h3⟩
    have hp : (0 : Int) < s.now.length := by omega
    obtain ⟨hcase, hcase2⟩ := hin
    clear h1
    go_enter Try.func38, Try.ntmps38
    go_wp2_with fail
    generalize w.alloc (.cells #[.int .u8 dO, .int .u8 at_, .int .u64 v, .int .u64 bt] 58) = w0 at *
    refine (hst _ (HD.out.of_new HKW.out)).mono ?_
    rintro e w1 (⟨hg, rfl, hd1, hk1⟩ | ⟨hg, rfl, hd1, hk1⟩)
    · have hm1 := (HM.out.of_new HKW.out).keep hk1 (fun j hj => ⟨(HM.out.of_new HKW.out).lt j hj, HAP.out j hj⟩)
      obtain ⟨x0, x1, x2, x3⟩ := hm1.cells
      have HD1 := Lib.hid hd1
      have HM1 := Lib.hid hm1
      have HK1 := Lib.hid hk1
      have HMM := Lib.hid hm1.mem
      clear hd1 hm1 hk1 hc0 hc1 hc2 hc3 hst
      go_wp2_with fail
      go_loopw [118] (fun v wr => ∃ j : Nat, j ≤ s.now.length ∧ v = .int .i64 (j : Int) ∧ Keep w1.heap.size [m.kb, m.ib] w1 wr ∧
        MMem wr m s.now.length (fun x => s.now.getD x 0) (fun x => if x < j ∧ (s.q (x / 8)).isSome = true then t.getD x 0 else s.kept.getD x 0) (fun x => t.getD x 0) (fun x => if x < j then false else (s.q (x / 8)).isSome)) (fun v _ => s.now.length - (intOf v).toNat)
      case atStart =>
        refine ⟨0, by omega, rfl, Keep.refl _ _ _, HMM.out.congr (fun _ _ => rfl) (fun x _ => ?_) (fun _ _ => rfl) (fun x _ => ?_)⟩
        · rw [if_neg (by omega)]
        · rw [if_neg (by omega)]
      case round =>
        obtain ⟨j, hj, rfl, hkr, hmr⟩ := hrel
        clear x0 x1 x2 x3
        by_cases hlt : j < s.now.length
        · have hxI : (j : Int) < s.now.length := by omega
          obtain ⟨y0, y1, y2, y3⟩ := hmr.cells
          obtain ⟨_, zK, zT, zI⟩ := hmr.at_ hlt
          obtain ⟨vT, hvT⟩ : ∃ vT, t.getD j 0 = vT := ⟨_, rfl⟩
          obtain ⟨vK, hvK⟩ : ∃ vK, (if j < j ∧ (s.q (j / 8)).isSome = true then t.getD j 0 else s.kept.getD j 0) = vK := ⟨_, rfl⟩
          simp only [hvT] at zT
          simp only [hvK] at zK
          rw [if_neg (by omega)] at zI
          have fK := hmr.kept.frozen j
          have hm2 := hmr.setK hlt vT
          obtain ⟨_, _, _, zI2⟩ := hm2.at_ hlt
          rw [if_neg (by omega)] at zI2
          have fI := hm2.is.frozen j
          have HMR := Lib.hid hmr
          have HKR := Lib.hid hkr
          have HVT := Lib.hid hvT
          clear hmr hkr hm2 hvT hvK
          cases hs : (s.q (j / 8)).isSome with
          | true =>
            rw [hs] at zI zI2
            have HS := Lib.hid hs
            clear hs
            go_wp2_with fail
            go_big_region
            go_wp2
            refine ⟨⟨j + 1, by omega, by go_num, ?_, ?_⟩, by simp [intOf]; omega⟩
            · exact ((HKR.out.setCell (by simp) _).setCell (by simp) _).drew
            · have hset := ((HMR.out.setK hlt vT).setI j false).heap (w' := ((wr.setCell ⟨m.kb, j, none⟩ (.int .u64 vT)).setCell ⟨m.ib, j, none⟩ (.bool false)).drew) rfl
              refine hset.congr (fun _ _ => rfl) (fun z _ => ?_) (fun _ _ => rfl) (fun z _ => ?_)
              · by_cases hz : z = j
                · subst hz; rw [if_pos rfl, if_pos ⟨by omega, HS.out⟩, HVT.out]
                · rw [if_neg hz]
                  by_cases hz2 : z < j
                  · simp only [hz2, show z < j + 1 by omega]
                  · simp only [hz2, show ¬ z < j + 1 by omega]
              · by_cases hz : z = j
                · subst hz; rw [if_pos rfl, if_pos (by omega)]
                · rw [if_neg hz]
                  by_cases hz2 : z < j
                  · rw [if_pos hz2, if_pos (by omega)]
                  · rw [if_neg hz2, if_neg (by omega)]
          | false =>
            rw [hs] at zI
            have HS := Lib.hid hs
            clear hs
            go_wp2
            refine ⟨⟨j + 1, by omega, by go_num, HKR.out, ?_⟩, by simp [intOf]; omega⟩
            refine HMR.out.congr (fun _ _ => rfl) (fun z _ => ?_) (fun _ _ => rfl) (fun z _ => ?_)
            · by_cases hz : z = j
              · subst hz; rw [if_neg (by omega), if_neg (by rw [HS.out]; simp)]
              · by_cases hz2 : z < j
                · simp only [hz2, show z < j + 1 by omega]
                · simp only [hz2, show ¬ z < j + 1 by omega]
            · by_cases hz : z = j
              · subst hz; rw [if_neg (by omega), if_pos (by omega)]; exact HS.out
              · by_cases hz2 : z < j
                · rw [if_pos hz2, if_pos (by omega)]
                · rw [if_neg hz2, if_neg (by omega)]
        · have hje : j = s.now.length := by omega
          have HMR := Lib.hid hmr
          have HKR := Lib.hid hkr
          have hxI : (s.now.length : Int) ≤ j := by omega
          have HJE := Lib.hid hje
          clear hmr hkr hje
          go_wp2
          go_ret
          obtain ⟨t', ht'⟩ := fence_of HM1.out HJE.out HMR.out
          refine .inl ⟨hg, rfl, t', HD1.out.keep HKR.out (fun j hj => ⟨HD1.out.lt j hj, fun h => ?_⟩), ht', ?_⟩
          · simp only [List.mem_cons, List.not_mem_nil, or_false] at h
            rcases h with rfl | rfl
            · exact HAP.out m.kb (by simp [MI.blocks]) hj
            · exact HAP.out m.ib (by simp [MI.blocks]) hj
          · have h1 := (HKW.out.sub (S' := d.blocks ++ m.blocks) (by simp)).join HK1.out HKW.out.size (by intro j _ hj; simp [hj])
            exact h1.join HKR.out h1.size (by intro j _ hj; simp only [List.mem_cons, List.not_mem_nil, or_false] at hj; rcases hj with rfl | rfl <;> simp [MI.blocks])
    · have hm1 := (HM.out.of_new HKW.out).keep hk1 (fun j hj => ⟨(HM.out.of_new HKW.out).lt j hj, HAP.out j hj⟩)
      have HD1 := Lib.hid hd1
      have HM1 := Lib.hid hm1
      have HK1 := Lib.hid hk1
      clear hd1 hm1 hk1 hc0 hc1 hc2 hc3 hst
      unfold offE
      go_wp2
      exact ⟨rfl, .inr ⟨hg, rfl, t, HD1.out, HM1.out, (HKW.out.sub (S' := d.blocks ++ m.blocks) (by simp)).join HK1.out HKW.out.size (by intro j _ hj; simp [hj])⟩⟩
  all_goals clear hin
  all_goals
    rcases hcase with hcase | ⟨hcase, hcase2⟩ | ⟨hcase, hcase2⟩
  all_goals first | (exfalso; omega) | skip
  all_goals
    first
      | have hp : (0 : Int) < s.now.length := by omega
      | (have hp : ((0 : Int) < s.now.length) = False := by rw [eq_iff_iff, iff_false]; omega
         have hp2 : (0 < s.now.length) = False := by rw [eq_iff_iff, iff_false]; omega)
    clear h1
    go_enter Try.func38, Try.ntmps38
    go_wp2_with fail
    generalize w.alloc (.cells #[.int .u8 dO, .int .u8 at_, .int .u64 v, .int .u64 bt] 58) = w0 at *
    refine (hst _ (HD.out.of_new HKW.out)).mono ?_
    rintro e w1 (⟨hg, rfl, hd1, hk1⟩ | ⟨hg, rfl, hd1, hk1⟩)
    · have hm1 := (HM.out.of_new HKW.out).keep hk1 (fun j hj => ⟨(HM.out.of_new HKW.out).lt j hj, HAP.out j hj⟩)
      obtain ⟨x0, x1, x2, x3⟩ := hm1.cells
      have HD1 := Lib.hid hd1
      have HM1 := Lib.hid hm1
      have HK1 := Lib.hid hk1
      have HMM := Lib.hid hm1.mem
      clear hd1 hm1 hk1 hc0 hc1 hc2 hc3 hst
      go_wp2_with fail
      go_loopw [118] (fun v wr => ∃ j : Nat, j ≤ s.now.length ∧ v = .int .i64 (j : Int) ∧ Keep w1.heap.size [m.kb, m.ib] w1 wr ∧
        MMem wr m s.now.length (fun x => s.now.getD x 0) (fun x => if x < j ∧ (s.q (x / 8)).isSome = true then t.getD x 0 else s.kept.getD x 0) (fun x => t.getD x 0) (fun x => if x < j then false else (s.q (x / 8)).isSome)) (fun v _ => s.now.length - (intOf v).toNat)
      case atStart =>
        refine ⟨0, by omega, rfl, Keep.refl _ _ _, HMM.out.congr (fun _ _ => rfl) (fun x _ => ?_) (fun _ _ => rfl) (fun x _ => ?_)⟩
        · rw [if_neg (by omega)]
        · rw [if_neg (by omega)]
      case round =>
        obtain ⟨j, hj, rfl, hkr, hmr⟩ := hrel
        clear x0 x1 x2 x3
        by_cases hlt : j < s.now.length
        · have hxI : (j : Int) < s.now.length := by omega
          obtain ⟨y0, y1, y2, y3⟩ := hmr.cells
          obtain ⟨_, zK, zT, zI⟩ := hmr.at_ hlt
          obtain ⟨vT, hvT⟩ : ∃ vT, t.getD j 0 = vT := ⟨_, rfl⟩
          obtain ⟨vK, hvK⟩ : ∃ vK, (if j < j ∧ (s.q (j / 8)).isSome = true then t.getD j 0 else s.kept.getD j 0) = vK := ⟨_, rfl⟩
          simp only [hvT] at zT
          simp only [hvK] at zK
          rw [if_neg (by omega)] at zI
          have fK := hmr.kept.frozen j
          have hm2 := hmr.setK hlt vT
          obtain ⟨_, _, _, zI2⟩ := hm2.at_ hlt
          rw [if_neg (by omega)] at zI2
          have fI := hm2.is.frozen j
          have HMR := Lib.hid hmr
          have HKR := Lib.hid hkr
          have HVT := Lib.hid hvT
          clear hmr hkr hm2 hvT hvK
          cases hs : (s.q (j / 8)).isSome with
          | true =>
            rw [hs] at zI zI2
            have HS := Lib.hid hs
            clear hs
            go_wp2_with fail
            go_big_region
            go_wp2
            refine ⟨⟨j + 1, by omega, by go_num, ?_, ?_⟩, by simp [intOf]; omega⟩
            · exact ((HKR.out.setCell (by simp) _).setCell (by simp) _).drew
            · have hset := ((HMR.out.setK hlt vT).setI j false).heap (w' := ((wr.setCell ⟨m.kb, j, none⟩ (.int .u64 vT)).setCell ⟨m.ib, j, none⟩ (.bool false)).drew) rfl
              refine hset.congr (fun _ _ => rfl) (fun z _ => ?_) (fun _ _ => rfl) (fun z _ => ?_)
              · by_cases hz : z = j
                · subst hz; rw [if_pos rfl, if_pos ⟨by omega, HS.out⟩, HVT.out]
                · rw [if_neg hz]
                  by_cases hz2 : z < j
                  · simp only [hz2, show z < j + 1 by omega]
                  · simp only [hz2, show ¬ z < j + 1 by omega]
              · by_cases hz : z = j
                · subst hz; rw [if_pos rfl, if_pos (by omega)]
                · rw [if_neg hz]
                  by_cases hz2 : z < j
                  · rw [if_pos hz2, if_pos (by omega)]
                  · rw [if_neg hz2, if_neg (by omega)]
          | false =>
            rw [hs] at zI
            have HS := Lib.hid hs
            clear hs
            go_wp2
            refine ⟨⟨j + 1, by omega, by go_num, HKR.out, ?_⟩, by simp [intOf]; omega⟩
            refine HMR.out.congr (fun _ _ => rfl) (fun z _ => ?_) (fun _ _ => rfl) (fun z _ => ?_)
            · by_cases hz : z = j
              · subst hz; rw [if_neg (by omega), if_neg (by rw [HS.out]; simp)]
              · by_cases hz2 : z < j
                · simp only [hz2, show z < j + 1 by omega]
                · simp only [hz2, show ¬ z < j + 1 by omega]
            · by_cases hz : z = j
              · subst hz; rw [if_neg (by omega), if_pos (by omega)]; exact HS.out
              · by_cases hz2 : z < j
                · rw [if_pos hz2, if_pos (by omega)]
                · rw [if_neg hz2, if_neg (by omega)]
        · have hje : j = s.now.length := by omega
          have HMR := Lib.hid hmr
          have HKR := Lib.hid hkr
          have hxI : (s.now.length : Int) ≤ j := by omega
          have HJE := Lib.hid hje
          clear hmr hkr hje
          go_wp2
          go_ret
          obtain ⟨t', ht'⟩ := fence_of HM1.out HJE.out HMR.out
          refine .inl ⟨hg, rfl, t', HD1.out.keep HKR.out (fun j hj => ⟨HD1.out.lt j hj, fun h => ?_⟩), ht', ?_⟩
          · simp only [List.mem_cons, List.not_mem_nil, or_false] at h
            rcases h with rfl | rfl
            · exact HAP.out m.kb (by simp [MI.blocks]) hj
            · exact HAP.out m.ib (by simp [MI.blocks]) hj
          · have h1 := (HKW.out.sub (S' := d.blocks ++ m.blocks) (by simp)).join HK1.out HKW.out.size (by intro j _ hj; simp [hj])
            exact h1.join HKR.out h1.size (by intro j _ hj; simp only [List.mem_cons, List.not_mem_nil, or_false] at hj; rcases hj with rfl | rfl <;> simp [MI.blocks])
    · have hm1 := (HM.out.of_new HKW.out).keep hk1 (fun j hj => ⟨(HM.out.of_new HKW.out).lt j hj, HAP.out j hj⟩)
      have HD1 := Lib.hid hd1
      have HM1 := Lib.hid hm1
      have HK1 := Lib.hid hk1
      clear hd1 hm1 hk1 hc0 hc1 hc2 hc3 hst
      unfold offE
      go_wp2
      exact ⟨rfl, .inr ⟨hg, rfl, t, HD1.out, HM1.out, (HKW.out.sub (S' := d.blocks ++ m.blocks) (by simp)).join HK1.out HKW.out.size (by intro j _ hj; simp [hj])⟩⟩
end Go.Proofs.Ytanjmbjnpcekcaa
