/-
  tumuluslaw02.M.Do: a crash.
-/
import Derived.Test.YtanjmbjnpcekcaaMDo4
set_option linter.unusedSimpArgs false
set_option linter.unusedVariables false
namespace Go.Proofs.Ytanjmbjnpcekcaa
open Go.RowKit Go.Shelf

/-- What the crash's own variables hold. -/
structure CJ (g1 g2 g3 : Nat) (cs : Array Value) (i : Nat) (w : World) : Prop where
  right : Blk w g1 4 #[.bool true]
  last : Blk w g2 3 #[.int .i64 ((i : Int) - 1)]
  step : Blk w g3 58 cs

set_option maxHeartbeats 1000000 in
theorem crash_one (k : Nat) (g1 g2 g3 : Nat) (dO at_ v bt : Int) (w : World) (b0 : 0 ≤ bt) (b1 : bt ≤ 18446744073709551615) (hk : k ≤ 1099511627776) (h12 : g1 ≠ g2) (h13 : g1 ≠ g3) (h23 : g2 ≠ g3) (h : CJ g1 g2 g3 #[.int .u8 dO, .int .u8 at_, .int .u64 v, .int .u64 bt] k w) :
    Calls Try.prog 54 #[.int .i64 k, .pointer (some ⟨g1, 0, none⟩), .pointer (some ⟨g2, 0, none⟩), .pointer (some ⟨g3, 0, none⟩)] w fun e w' =>
      e = .returned (.int .u8 (choiceOf bt k)) ∧ CJ g1 g2 g3 #[.int .u8 dO, .int .u8 at_, .int .u64 v, .int .u64 bt] (k + 1) w' ∧ Keep w.heap.size [g1, g2] w w' := by
  have hch := fun w => choice_any bt k w b0 b1 hk
  have c1 := h.right.cell 0
  have c2 := h.last.cell 0
  have c3 := h.step.cell 3
  have f1 := h.right.frozen 0
  have hl2 := h.last.far (p := ⟨g1, 0, none⟩) (fun e => h12 e.symm) (.bool true)
  have f2 := hl2.frozen 0
  have d2 := hl2.cell 0
  have hs2 := (h.step.far (p := ⟨g1, 0, none⟩) (fun e => h13 e.symm) (.bool true)).far (p := ⟨g2, 0, none⟩) (fun e => h23 e.symm) (.int .i64 k)
  have d3 := hs2.cell 3
  simp at c1 c2 c3 d2 d3
  have hw : IntKind.i64.wrap ((k : Int) - 1 + 1) = (k : Int) := by rw [IntWalk.i64_in _ (by omega)]; omega
  have H := Lib.hid h
  have hkI : (k : Int) ≤ 1099511627776 := by omega
  clear h hl2 hs2
  go_enter Try.func54, Try.ntmps54
  go_wp2_with fail
  refine (hch _).mono ?_
  rintro e w' ⟨rfl, rfl⟩
  go_wp2
  go_ret
  refine ⟨rfl, ⟨?_, ?_, ?_⟩, ?_⟩
  · have := (H.out.right.set_ 0 (.bool true)).far (p := ⟨g2, 0, none⟩) h12 (.int .i64 k)
    simpa using this
  · have := (H.out.last.far (p := ⟨g1, 0, none⟩) (fun e => h12 e.symm) (.bool true)).set_ 0 (.int .i64 k)
    have e : ((k + 1 : Nat) : Int) - 1 = (k : Int) := by omega
    rw [e]
    simpa using this
  · exact (H.out.step.far (p := ⟨g1, 0, none⟩) (fun e => h13 e.symm) (.bool true)).far (p := ⟨g2, 0, none⟩) (fun e => h23 e.symm) (.int .i64 k)
  · exact ((Keep.refl _ _ _).setCell (by simp) _).setCell (by simp) _

theorem chooses_do (g1 g2 g3 : Nat) (dO at_ v bt : Int) (n : Nat) (B : List Nat) (b0 : 0 ≤ bt) (b1 : bt ≤ 18446744073709551615) (hn : n ≤ 1099511627776) (h12 : g1 ≠ g2) (h13 : g1 ≠ g3) (h23 : g2 ≠ g3) (hg1 : g1 ∉ B) (hg2 : g2 ∉ B) (hg3 : g3 ∉ B) :
    Chooses 54 #[.pointer (some ⟨g1, 0, none⟩), .pointer (some ⟨g2, 0, none⟩), .pointer (some ⟨g3, 0, none⟩)] (choiceOf bt) n (CJ g1 g2 g3 #[.int .u8 dO, .int .u8 at_, .int .u64 v, .int .u64 bt]) [g1, g2] B :=
  ⟨enters_of Try.func54 (by kernel_rfl) rfl, fun k w hk hJ => crash_one k g1 g2 g3 dO at_ v bt w b0 b1 (by omega) h12 h13 h23 hJ, fun k => by have := choiceOf_small bt k; omega,
    fun _ _ _ hJ hk => ⟨hJ.right.keep hk hJ.right.lt hg1, hJ.last.keep hk hJ.last.lt hg2, hJ.step.keep hk hJ.step.lt hg3⟩, by
      intro k hk; simp only [List.mem_cons, List.not_mem_nil, or_false] at hk; rcases hk with rfl | rfl <;> assumption⟩

theorem crash_of {w : World} {m : MI} {s : St} {t : List Int} (h : MOf w m s t) {w' : World} {ch : Nat → Int}
    (hm : MMem w' m s.now.length (fun x => left s ch x) (fun x => left s ch x) (fun x => t.getD x 0) (fun x => false)) :
    ∃ t', MOf w' m (s.crash ch) t' := by
  have hl : (leftTo s ch s.now.length).length = s.now.length := leftTo_length _ _ _
  have hg : ∀ x, x < s.now.length → left s ch x = (leftTo s ch s.now.length).getD x 0 := fun x hx => by
    rw [List.getD_eq_getElem?_getD, leftTo_get, if_pos hx, if_pos hx]; rfl
  refine ⟨_, hm.of (s.crash ch) hl hl ?_ ?_ hg hg ?_ ?_⟩
  · obtain ⟨j, hj⟩ := h.l8
    exact ⟨j, by rw [← hj]; exact hl⟩
  · have : (s.crash ch).now.length = s.now.length := hl
    rw [this]; exact h.small
  · intro x _; rfl
  · intro x l _ hq; cases hq
theorem left_to {s : St} {ch : Nat → Int} {j : Nat} {x : Int} (h : ch j % 3 = 1) (hs : (s.q (j / 8)).isSome = true) (hx : ∀ l, s.q (j / 8) = some l → x = l.getD (j % 8) 0) : left s ch j = x := by
  unfold left
  rw [if_pos h]
  cases hq : s.q (j / 8) with
  | none => rw [hq] at hs; cases hs
  | some l => exact (hx l hq).symm
theorem left_kept {s : St} {ch : Nat → Int} {j : Nat} (h : ch j % 3 = 1) (hs : (s.q (j / 8)).isSome = false) : left s ch j = s.kept.getD j 0 := by
  unfold left
  rw [if_pos h]
  cases hq : s.q (j / 8) with
  | none => rfl
  | some l => rw [hq] at hs; cases hs
theorem left_now {s : St} {ch : Nat → Int} {j : Nat} (h : ch j % 3 = 2) : left s ch j = s.now.getD j 0 := by
  unfold left
  rw [if_neg (by omega), if_pos h]
theorem left_same {s : St} {ch : Nat → Int} {j : Nat} (h : ch j % 3 = 0) : left s ch j = s.kept.getD j 0 := by
  unfold left
  rw [if_neg (by omega), if_neg (by omega)]

set_option maxRecDepth 100000 in
set_option maxHeartbeats 4000000 in
theorem do_crash (d : DevI) (m : MI) (s : St) (t : List Int) (dO at_ v bt : Int) (w : World) (hd : Dev w d s) (hm : MOf w m s t) (hap : ∀ j ∈ m.blocks, j ∉ d.blocks)
    (d0 : 0 ≤ dO) (d1 : dO ≤ 255) (a0 : 0 ≤ at_) (a1 : at_ ≤ 255) (hq : dO % 7 = 6) (b0 : 0 ≤ bt) (b1 : bt ≤ 18446744073709551615) :
    Calls Try.prog 38 #[.pointer (some ⟨m.b, 0, none⟩), .pointer (some ⟨d.b, 0, none⟩), .agg #[.int .u8 dO, .int .u8 at_, .int .u64 v, .int .u64 bt]] w fun e w' =>
      DidM w d m (s.crash (choiceOf bt)) e w' := by
  obtain ⟨i, hA⟩ := at_some s.now.length at_
  have hkw : Keep w.heap.size [] w (w.alloc (.cells #[.int .u8 dO, .int .u8 at_, .int .u64 v, .int .u64 bt] 58)) := (Keep.refl _ _ _).alloc (Nat.le_refl _) _
  obtain ⟨hc0, hc1, hc2, hc3⟩ := (hm.of_new hkw).cells
  have hsm := hm.small
  have hsmI : (s.now.length : Int) ≤ 1099511627776 := by omega
  have hmf : ∀ (fn : Fn) (first cap : Array Value) (w : World), (Instr.makeFunc fn first cap).run Try.prog w = .ok (.func fn first cap) w := fun _ _ _ _ => rfl
  have hnd := hm.nodup
  simp only [MI.blocks, List.nodup_cons, List.mem_cons, not_or, List.not_mem_nil, not_false_eq_true, and_true] at hnd
  have hkw3 : Keep w.heap.size [] w (((w.alloc (.cells #[.int .u8 dO, .int .u8 at_, .int .u64 v, .int .u64 bt] 58)).alloc (.cells #[.int .i64 (-1)] 3)).alloc (.cells #[.bool true] 4)) := (((Keep.refl w.heap.size [] w).alloc (Nat.le_refl _) _).alloc (by simp) _).alloc (by simp; omega) _
  have hcj : CJ (w.heap.size + 1 + 1) (w.heap.size + 1) w.heap.size #[.int .u8 dO, .int .u8 at_, .int .u64 v, .int .u64 bt] 0 (((w.alloc (.cells #[.int .u8 dO, .int .u8 at_, .int .u64 v, .int .u64 bt] 58)).alloc (.cells #[.int .i64 (-1)] 3)).alloc (.cells #[.bool true] 4)) := by
    refine ⟨?_, ?_, ((Blk.new w 58 _).alloc _).alloc _⟩
    · have := Blk.new ((w.alloc (.cells #[.int .u8 dO, .int .u8 at_, .int .u64 v, .int .u64 bt] 58)).alloc (.cells #[.int .i64 (-1)] 3)) 4 #[.bool true]
      rwa [World.size_alloc, World.size_alloc] at this
    · have := (Blk.new (w.alloc (.cells #[.int .u8 dO, .int .u8 at_, .int .u64 v, .int .u64 bt] 58)) 3 #[.int .i64 (-1)]).alloc (.cells #[.bool true] 4)
      rw [World.size_alloc] at this
      exact this
  have HCJ := Lib.hid hcj
  have HM3 := Lib.hid (hm.of_new hkw3)
  have HD3 := Lib.hid (hd.of_new hkw3)
  have HKW3 := Lib.hid hkw3
  have HS3 : Hid (w.heap.size + 1 + 1 < (((w.alloc (.cells #[.int .u8 dO, .int .u8 at_, .int .u64 v, .int .u64 bt] 58)).alloc (.cells #[.int .i64 (-1)] 3)).alloc (.cells #[.bool true] 4)).heap.size) := hcj.right.lt
  have HML : Hid (∀ j ∈ m.blocks, j < w.heap.size) := hm.lt
  have HDL : Hid (∀ j ∈ d.blocks, j < w.heap.size) := hd.lt
  clear hkw3 hcj
  have HD := Lib.hid hd
  have HM := Lib.hid hm
  have HAP := Lib.hid hap
  have HKW := Lib.hid hkw
  have HWD : Hid (w.heap.size ∉ d.blocks) := fun h => Nat.lt_irrefl _ (hd.lt _ h)
  clear hd hm hap hkw hnd
  have hin : 0 < s.now.length ∧ 10 < at_ ∧ at_.tmod s.now.length = i → 0 ≤ i ∧ i < s.now.length := by
    rintro ⟨g1, g2, g3⟩
    rw [Int.tmod_eq_emod_of_nonneg a0] at g3
    have e1 := Int.emod_lt_of_pos at_ (b := s.now.length) (by omega)
    have e2 := Int.emod_nonneg at_ (b := s.now.length) (by omega)
    rw [g3] at e1 e2
    exact ⟨e2, e1⟩
  have hcase : i < 0 ∨ (0 ≤ i ∧ i < (s.now.length : Int)) ∨ (0 ≤ i ∧ (s.now.length : Int) ≤ i) := by omega
  rcases hA with ⟨h1, h2⟩ | ⟨h1, h2, h3⟩ | ⟨h1, h2, h3⟩
  rotate_left 2
  · have hin := hin ⟨h1, h2, h3⟩
    have hp : (0 : Int) < s.now.length := by omega
    obtain ⟨hcase, hcase2⟩ := hin
    clear h1
    go_enter Try.func38, Try.ntmps38
    go_wp2_with fail
    generalize (((w.alloc (.cells #[.int .u8 dO, .int .u8 at_, .int .u64 v, .int .u64 bt] 58)).alloc (.cells #[.int .i64 (-1)] 3)).alloc (.cells #[.bool true] 4)) = w0 at *
    refine (crash_any d s 54 #[.pointer (some ⟨w.heap.size + 1 + 1, 0, none⟩), .pointer (some ⟨w.heap.size + 1, 0, none⟩), .pointer (some ⟨w.heap.size, 0, none⟩)] (choiceOf bt) _ [w.heap.size + 1 + 1, w.heap.size + 1] w0 HD3.out
      (chooses_do (w.heap.size + 1 + 1) (w.heap.size + 1) w.heap.size dO at_ v bt s.now.length d.blocks b0 b1 hsm (by omega) (by omega) (by omega) (fun h => by have := HDL.out _ h; omega) (fun h => by have := HDL.out _ h; omega) (fun h => by have := HDL.out _ h; omega)) HCJ.out
      (by have := HS3.out; intro k hk; simp only [List.mem_cons, List.not_mem_nil, or_false] at hk; omega)).mono ?_
    rintro e w1 ⟨rfl, hd1, hj1, hk1⟩
    have hm1 := HM3.out.keep hk1 (fun j hj => ⟨HM3.out.lt j hj, fun h => by
      have h1 := HML.out j hj
      simp only [List.mem_append, List.mem_cons, List.not_mem_nil, or_false] at h
      rcases h with h | h | h
      · exact HAP.out j hj h
      · omega
      · omega⟩)
    obtain ⟨x0, x1, x2, x3⟩ := hm1.cells
    have hch := fun j w hj => choice_any bt j w b0 b1 hj
    have HD1 := Lib.hid hd1
    have HM1 := Lib.hid hm1
    have HJ1 := Lib.hid hj1
    have HK1 := Lib.hid hk1
    have HMM := Lib.hid hm1.mem
    have HGA : Hid (∀ j ∈ m.blocks, w.heap.size + 1 + 1 ≠ j ∧ w.heap.size + 1 ≠ j ∧ w.heap.size ≠ j) := fun j hj => by have := HML.out j hj; omega
    clear hd1 hm1 hk1 hj1 hc0 hc1 hc2 hc3
    go_wp2_with fail
    go_loopw [158] (fun v' wr => ∃ j : Nat, j ≤ s.now.length ∧ v' = .int .i64 (j : Int) ∧ Keep w1.heap.size [m.kb, m.ib] w1 wr ∧ CJ (w.heap.size + 1 + 1) (w.heap.size + 1) w.heap.size #[.int .u8 dO, .int .u8 at_, .int .u64 v, .int .u64 bt] s.now.length wr ∧
      MMem wr m s.now.length (fun x => s.now.getD x 0) (fun x => if x < j then left s (choiceOf bt) x else s.kept.getD x 0) (fun x => t.getD x 0) (fun x => if x < j then false else (s.q (x / 8)).isSome)) (fun v' _ => s.now.length - (intOf v').toNat)
    case atStart =>
      refine ⟨0, by omega, rfl, Keep.refl _ _ _, HJ1.out, HMM.out.congr (fun _ _ => rfl) (fun x _ => ?_) (fun _ _ => rfl) (fun x _ => ?_)⟩
      · rw [if_neg (by omega)]
      · rw [if_neg (by omega)]
    case round =>
      obtain ⟨j, hj, rfl, hkr, hjr, hmr⟩ := hrel
      clear x0 x1 x2 x3
      by_cases hlt : j < s.now.length
      · have hxI : (j : Int) < s.now.length := by omega
        obtain ⟨y0, y1, y2, y3⟩ := hmr.cells
        obtain ⟨zN, zK, zT, zI⟩ := hmr.at_ hlt
        obtain ⟨vT, hvT⟩ : ∃ vT, t.getD j 0 = vT := ⟨_, rfl⟩
        obtain ⟨vN, hvN⟩ : ∃ vN, s.now.getD j 0 = vN := ⟨_, rfl⟩
        obtain ⟨vK, hvK⟩ : ∃ vK, (if j < j then left s (choiceOf bt) j else s.kept.getD j 0) = vK := ⟨_, rfl⟩
        simp only [hvT] at zT
        simp only [hvN] at zN
        simp only [hvK] at zK
        rw [if_neg (by omega)] at zI
        have fK := hmr.kept.frozen j
        have fI0 := hmr.is.frozen j
        have s3 := hjr.step.cell 3
        simp at s3
        have hc0 := choiceOf_small bt j
        obtain ⟨cz, hcz⟩ : ∃ cz, choiceOf bt j = cz := ⟨_, rfl⟩
        have hch := fun w => hch j w (by omega)
        rw [hcz] at hch hc0
        obtain ⟨cz0, cz1⟩ := hc0
        have HMR := Lib.hid hmr
        have HKR := Lib.hid hkr
        have HJR := Lib.hid hjr
        have HVT := Lib.hid hvT
        have HVN := Lib.hid hvN
        have HCZ := Lib.hid hcz
        clear hmr hkr hjr hvT hvK hvN hcz
        go_wp2_with fail
        refine (hch _).mono ?_
        rintro e w' ⟨rfl, rfl⟩
        clear hch
        have h3 : cz % 3 = 0 ∨ cz % 3 = 1 ∨ cz % 3 = 2 := by omega
        rcases h3 with h3 | h3 | h3
        · have ht3 : cz.tmod 3 = 0 := by rw [Int.tmod_eq_emod_of_nonneg cz0]; exact h3
          go_wp2
          refine ⟨⟨j + 1, by omega, by go_num, (HKR.out.setCell (by simp) _), ⟨HJR.out.right.far (p := ⟨m.ib, j, none⟩) (HGA.out m.ib (by simp [MI.blocks])).1 _, HJR.out.last.far (p := ⟨m.ib, j, none⟩) (HGA.out m.ib (by simp [MI.blocks])).2.1 _, HJR.out.step.far (p := ⟨m.ib, j, none⟩) (HGA.out m.ib (by simp [MI.blocks])).2.2 _⟩, ?_⟩, by simp [intOf]; omega⟩
          refine (HMR.out.setI j false).congr (fun _ _ => rfl) (fun z _ => ?_) (fun _ _ => rfl) (fun z _ => ?_)
          · by_cases hz : z = j
            · subst hz; rw [if_neg (by omega), if_pos (by omega), left_same (by rw [HCZ.out]; exact h3)]
            · skip
              by_cases hz2 : z < j
              · rw [if_pos hz2, if_pos (by omega)]
              · rw [if_neg hz2, if_neg (by omega)]
          · by_cases hz : z = j
            · subst hz; rw [if_pos rfl, if_pos (by omega)]
            · rw [if_neg hz]
              by_cases hz2 : z < j
              · rw [if_pos hz2, if_pos (by omega)]
              · rw [if_neg hz2, if_neg (by omega)]
        · have ht3 : cz.tmod 3 = 1 := by rw [Int.tmod_eq_emod_of_nonneg cz0]; exact h3
          cases hs : (s.q (j / 8)).isSome with
          | true =>
            rw [hs] at zI
            have HS := Lib.hid hs
            clear hs
            have hm2 := HMR.out.setK hlt vT
            obtain ⟨_, _, _, zI2⟩ := hm2.at_ hlt
            obtain ⟨_, _, _, y32⟩ := hm2.cells
            have fI := hm2.is.frozen j
            clear hm2
            go_wp2_with fail
            go_big_region
            go_wp2
            have hset := ((HMR.out.setK hlt vT).heap (w' := (wr.setCell ⟨m.kb, j, none⟩ (.int .u64 vT)).drew) rfl).setI j false
            have cj1 := ((HJR.out.right.far (p := ⟨m.kb, j, none⟩) (HGA.out m.kb (by simp [MI.blocks])).1 (.int .u64 vT)).drew.far (p := ⟨m.ib, j, none⟩) (HGA.out m.ib (by simp [MI.blocks])).1 (.bool false))
            have cj2 := ((HJR.out.last.far (p := ⟨m.kb, j, none⟩) (HGA.out m.kb (by simp [MI.blocks])).2.1 (.int .u64 vT)).drew.far (p := ⟨m.ib, j, none⟩) (HGA.out m.ib (by simp [MI.blocks])).2.1 (.bool false))
            have cj3 := ((HJR.out.step.far (p := ⟨m.kb, j, none⟩) (HGA.out m.kb (by simp [MI.blocks])).2.2 (.int .u64 vT)).drew.far (p := ⟨m.ib, j, none⟩) (HGA.out m.ib (by simp [MI.blocks])).2.2 (.bool false))
            refine ⟨⟨j + 1, by omega, by go_num, ((HKR.out.setCell (by simp) _).drew.setCell (by simp) _), ⟨cj1, cj2, cj3⟩, ?_⟩, by simp [intOf]; omega⟩
            refine hset.congr (fun _ _ => rfl) (fun z _ => ?_) (fun _ _ => rfl) (fun z _ => ?_)
            · by_cases hz : z = j
              · subst hz; rw [if_pos rfl, if_pos (by omega), left_to (x := vT) (by rw [HCZ.out]; exact h3) HS.out (fun l hl => by rw [← HVT.out]; exact HM1.out.isTo z l hlt hl)]
              · rw [if_neg hz]
                by_cases hz2 : z < j
                · rw [if_pos hz2, if_pos (by omega)]
                · rw [if_neg hz2, if_neg (by omega)]
            · by_cases hz : z = j
              · subst hz; rw [if_pos rfl, if_pos (by omega)]
              · rw [if_neg hz]
                by_cases hz2 : z < j
                · rw [if_pos hz2, if_pos (by omega)]
                · rw [if_neg hz2, if_neg (by omega)]
          | false =>
            rw [hs] at zI
            have HS := Lib.hid hs
            clear hs
            go_wp2
            refine ⟨⟨j + 1, by omega, by go_num, (HKR.out.setCell (by simp) _), ⟨HJR.out.right.far (p := ⟨m.ib, j, none⟩) (HGA.out m.ib (by simp [MI.blocks])).1 _, HJR.out.last.far (p := ⟨m.ib, j, none⟩) (HGA.out m.ib (by simp [MI.blocks])).2.1 _, HJR.out.step.far (p := ⟨m.ib, j, none⟩) (HGA.out m.ib (by simp [MI.blocks])).2.2 _⟩, ?_⟩, by simp [intOf]; omega⟩
            refine (HMR.out.setI j false).congr (fun _ _ => rfl) (fun z _ => ?_) (fun _ _ => rfl) (fun z _ => ?_)
            · by_cases hz : z = j
              · subst hz; rw [if_neg (by omega), if_pos (by omega), left_kept (by rw [HCZ.out]; exact h3) HS.out]
              · skip
                by_cases hz2 : z < j
                · rw [if_pos hz2, if_pos (by omega)]
                · rw [if_neg hz2, if_neg (by omega)]
            · by_cases hz : z = j
              · subst hz; rw [if_pos rfl, if_pos (by omega)]
              · rw [if_neg hz]
                by_cases hz2 : z < j
                · rw [if_pos hz2, if_pos (by omega)]
                · rw [if_neg hz2, if_neg (by omega)]
        · have ht3 : cz.tmod 3 = 2 := by rw [Int.tmod_eq_emod_of_nonneg cz0]; exact h3
          have hm2 := HMR.out.setK hlt vN
          obtain ⟨_, _, _, zI2⟩ := hm2.at_ hlt
          obtain ⟨_, _, _, y32⟩ := hm2.cells
          have fI := hm2.is.frozen j
          clear hm2
          go_wp2_with fail
          go_big_region
          go_wp2
          have hset := ((HMR.out.setK hlt vN).heap (w' := (wr.setCell ⟨m.kb, j, none⟩ (.int .u64 vN)).drew) rfl).setI j false
          have cj1 := ((HJR.out.right.far (p := ⟨m.kb, j, none⟩) (HGA.out m.kb (by simp [MI.blocks])).1 (.int .u64 vN)).drew.far (p := ⟨m.ib, j, none⟩) (HGA.out m.ib (by simp [MI.blocks])).1 (.bool false))
          have cj2 := ((HJR.out.last.far (p := ⟨m.kb, j, none⟩) (HGA.out m.kb (by simp [MI.blocks])).2.1 (.int .u64 vN)).drew.far (p := ⟨m.ib, j, none⟩) (HGA.out m.ib (by simp [MI.blocks])).2.1 (.bool false))
          have cj3 := ((HJR.out.step.far (p := ⟨m.kb, j, none⟩) (HGA.out m.kb (by simp [MI.blocks])).2.2 (.int .u64 vN)).drew.far (p := ⟨m.ib, j, none⟩) (HGA.out m.ib (by simp [MI.blocks])).2.2 (.bool false))
          refine ⟨⟨j + 1, by omega, by go_num, ((HKR.out.setCell (by simp) _).drew.setCell (by simp) _), ⟨cj1, cj2, cj3⟩, ?_⟩, by simp [intOf]; omega⟩
          refine hset.congr (fun _ _ => rfl) (fun z _ => ?_) (fun _ _ => rfl) (fun z _ => ?_)
          · by_cases hz : z = j
            · subst hz; rw [if_pos rfl, if_pos (by omega), left_now (by rw [HCZ.out]; exact h3), HVN.out]
            · rw [if_neg hz]
              by_cases hz2 : z < j
              · rw [if_pos hz2, if_pos (by omega)]
              · rw [if_neg hz2, if_neg (by omega)]
          · by_cases hz : z = j
            · subst hz; rw [if_pos rfl, if_pos (by omega)]
            · rw [if_neg hz]
              by_cases hz2 : z < j
              · rw [if_pos hz2, if_pos (by omega)]
              · rw [if_neg hz2, if_neg (by omega)]
      · have hje : j = s.now.length := by omega
        obtain ⟨y0, y1, y2, y3⟩ := hmr.cells
        have hmr' := hmr.congr (N' := fun x => s.now.getD x 0) (K' := left s (choiceOf bt)) (T' := fun x => t.getD x 0) (I' := fun _ => false) (fun _ _ => rfl) (fun x hx => by rw [if_pos (by omega)]) (fun _ _ => rfl) (fun x hx => by rw [if_pos (by omega)])
        obtain ⟨w4, hcp, hb4, hk4, hs4⟩ := copy_blk (P := Try.prog) (dT := 22) (sT := 22) (ty := 3) underlying_words size_word (w := wr.drew) (Blk.drew hmr'.now) (some ⟨m.nb, 0, none⟩) (some ⟨m.kb, 0, none⟩) s.now.length s.now.length s.now.length (s.now.length + m.kx.length) 0
          (uw (row s.now.length (left s (choiceOf bt)))) (by simp [uw, row_length]) (fun _ => ⟨rfl, _, _, rfl, fun j v hv => by
            rw [Nat.zero_add, World.cell?_drew, hmr'.kept.cell]
            have hj := (List.getElem?_eq_some_iff.1 hv).1
            simp only [List.getElem?_toArray]
            rw [List.getElem?_append_left hj]
            exact hv⟩) (by simp [uw, row_length]) (uw_one _)
        have hkk : Keep wr.heap.size [m.nb] wr w4 := hk4.undrew
        have hgn := HGA.out m.nb (by simp [MI.blocks])
        have hj4 : CJ (w.heap.size + 1 + 1) (w.heap.size + 1) w.heap.size #[.int .u8 dO, .int .u8 at_, .int .u64 v, .int .u64 bt] s.now.length w4 :=
          ⟨hjr.right.keep hkk hjr.right.lt (by simpa using hgn.1), hjr.last.keep hkk hjr.last.lt (by simpa using hgn.2.1), hjr.step.keep hkk hjr.step.lt (by simpa using hgn.2.2)⟩
        have r1 := hj4.right.cell 0
        have r2 := hj4.last.cell 0
        simp at r1 r2
        have hw4 : IntKind.i64.wrap ((s.now.length : Int) - 1) = (s.now.length : Int) - 1 := IntWalk.i64_in _ (by omega)
        have hxI : (s.now.length : Int) ≤ j := by omega
        have HMR := Lib.hid hmr'
        have HKR := Lib.hid hkr
        have HB4 := Lib.hid hb4
        have HKK := Lib.hid hkk
        clear hmr hmr' hkr hjr hje hb4 hk4 hs4 hkk hj4 hgn
        go_wp2_with fail
        refine wp_region_still_tail 8 (by kernel_rfl) (by kernel_rfl) ?_
        simp only [List.take_succ_cons, List.take_zero, List.drop_succ_cons, List.drop_zero]
        repeat still_step
        refine wpStill_nil ?_
        go_wp2
        go_ret
        have hnd := HMR.out.nodup
        simp only [MI.blocks, List.nodup_cons, List.mem_cons, not_or, List.not_mem_nil, not_false_eq_true, and_true] at hnd
        have e : ∀ k ∈ m.blocks, k ≠ m.nb → w4.heap[k]? = wr.heap[k]? := fun k hm hne => HKK.out.block k (HMR.out.lt k hm) (by simpa using hne)
        have e := fun k hk => e k (by simp only [MI.blocks, List.mem_cons, List.not_mem_nil, or_false]; exact hk)
        have hb := HB4.out
        have hsp : splice (uw (row s.now.length fun x => s.now.getD x 0)) 0 (uw (row s.now.length (left s (choiceOf bt)))) = uw (row s.now.length (left s (choiceOf bt))) := by
          simp [splice, uw, row_length]
        simp only [hsp] at hb
        have hmm : MMem w4 m s.now.length (left s (choiceOf bt)) (left s (choiceOf bt)) (fun x => t.getD x 0) (fun _ => false) :=
          ⟨(e m.b (by simp) (by omega)).trans HMR.out.blk, hb, (e m.kb (by simp) (by omega)).trans HMR.out.kept, (e m.tb (by simp) (by omega)).trans HMR.out.to, (e m.ib (by simp) (by omega)).trans HMR.out.is, HMR.out.nodup⟩
        obtain ⟨t', ht'⟩ := crash_of HM1.out hmm
        have hkw4 : Keep w1.heap.size [m.kb, m.ib, m.nb] w1 w4 := (HKR.out.sub (by intro k _ h; simp at h; rcases h with h | h <;> simp [h])).join HKK.out HKR.out.size (by intro k _ h; simp at h; simp [h])
        refine ⟨rfl, t', HD1.out.keep hkw4 (fun j hj => ⟨HD1.out.lt j hj, fun h => ?_⟩), ht', ?_⟩
        · simp only [List.mem_cons, List.not_mem_nil, or_false] at h
          rcases h with rfl | rfl | rfl
          · exact HAP.out m.kb (by simp [MI.blocks]) hj
          · exact HAP.out m.ib (by simp [MI.blocks]) hj
          · exact HAP.out m.nb (by simp [MI.blocks]) hj
        · have h1 := (HKW3.out.sub (S' := d.blocks ++ m.blocks) (by simp)).join HK1.out HKW3.out.size (by
            intro j hj' hj
            simp only [List.mem_append, List.mem_cons, List.not_mem_nil, or_false] at hj
            rcases hj with hj | hj | hj
            · simp [hj]
            · omega
            · omega)
          exact h1.join hkw4 h1.size (by intro j _ hj; simp only [List.mem_cons, List.not_mem_nil, or_false] at hj; rcases hj with rfl | rfl | rfl <;> simp [MI.blocks])
  all_goals clear hin
  all_goals
    rcases hcase with hcase | ⟨hcase, hcase2⟩ | ⟨hcase, hcase2⟩
  all_goals first | (exfalso; omega) | skip
  all_goals
    first
      | have hp : (0 : Int) < s.now.length := by omega
      | (have hp : ((0 : Int) < s.now.length) = False := by rw [eq_iff_iff, iff_false]; omega
         have hp2 : (0 < s.now.length) = False := by rw [eq_iff_iff, iff_false]; omega)
    clear h1
    go_enter Try.func38, Try.ntmps38
    go_wp2_with fail
    generalize (((w.alloc (.cells #[.int .u8 dO, .int .u8 at_, .int .u64 v, .int .u64 bt] 58)).alloc (.cells #[.int .i64 (-1)] 3)).alloc (.cells #[.bool true] 4)) = w0 at *
    refine (crash_any d s 54 #[.pointer (some ⟨w.heap.size + 1 + 1, 0, none⟩), .pointer (some ⟨w.heap.size + 1, 0, none⟩), .pointer (some ⟨w.heap.size, 0, none⟩)] (choiceOf bt) _ [w.heap.size + 1 + 1, w.heap.size + 1] w0 HD3.out
      (chooses_do (w.heap.size + 1 + 1) (w.heap.size + 1) w.heap.size dO at_ v bt s.now.length d.blocks b0 b1 hsm (by omega) (by omega) (by omega) (fun h => by have := HDL.out _ h; omega) (fun h => by have := HDL.out _ h; omega) (fun h => by have := HDL.out _ h; omega)) HCJ.out
      (by have := HS3.out; intro k hk; simp only [List.mem_cons, List.not_mem_nil, or_false] at hk; omega)).mono ?_
    rintro e w1 ⟨rfl, hd1, hj1, hk1⟩
    have hm1 := HM3.out.keep hk1 (fun j hj => ⟨HM3.out.lt j hj, fun h => by
      have h1 := HML.out j hj
      simp only [List.mem_append, List.mem_cons, List.not_mem_nil, or_false] at h
      rcases h with h | h | h
      · exact HAP.out j hj h
      · omega
      · omega⟩)
    obtain ⟨x0, x1, x2, x3⟩ := hm1.cells
    have hch := fun j w hj => choice_any bt j w b0 b1 hj
    have HD1 := Lib.hid hd1
    have HM1 := Lib.hid hm1
    have HJ1 := Lib.hid hj1
    have HK1 := Lib.hid hk1
    have HMM := Lib.hid hm1.mem
    have HGA : Hid (∀ j ∈ m.blocks, w.heap.size + 1 + 1 ≠ j ∧ w.heap.size + 1 ≠ j ∧ w.heap.size ≠ j) := fun j hj => by have := HML.out j hj; omega
    clear hd1 hm1 hk1 hj1 hc0 hc1 hc2 hc3
    go_wp2_with fail
    go_loopw [158] (fun v' wr => ∃ j : Nat, j ≤ s.now.length ∧ v' = .int .i64 (j : Int) ∧ Keep w1.heap.size [m.kb, m.ib] w1 wr ∧ CJ (w.heap.size + 1 + 1) (w.heap.size + 1) w.heap.size #[.int .u8 dO, .int .u8 at_, .int .u64 v, .int .u64 bt] s.now.length wr ∧
      MMem wr m s.now.length (fun x => s.now.getD x 0) (fun x => if x < j then left s (choiceOf bt) x else s.kept.getD x 0) (fun x => t.getD x 0) (fun x => if x < j then false else (s.q (x / 8)).isSome)) (fun v' _ => s.now.length - (intOf v').toNat)
    case atStart =>
      refine ⟨0, by omega, rfl, Keep.refl _ _ _, HJ1.out, HMM.out.congr (fun _ _ => rfl) (fun x _ => ?_) (fun _ _ => rfl) (fun x _ => ?_)⟩
      · rw [if_neg (by omega)]
      · rw [if_neg (by omega)]
    case round =>
      obtain ⟨j, hj, rfl, hkr, hjr, hmr⟩ := hrel
      clear x0 x1 x2 x3
      by_cases hlt : j < s.now.length
      · have hxI : (j : Int) < s.now.length := by omega
        obtain ⟨y0, y1, y2, y3⟩ := hmr.cells
        obtain ⟨zN, zK, zT, zI⟩ := hmr.at_ hlt
        obtain ⟨vT, hvT⟩ : ∃ vT, t.getD j 0 = vT := ⟨_, rfl⟩
        obtain ⟨vN, hvN⟩ : ∃ vN, s.now.getD j 0 = vN := ⟨_, rfl⟩
        obtain ⟨vK, hvK⟩ : ∃ vK, (if j < j then left s (choiceOf bt) j else s.kept.getD j 0) = vK := ⟨_, rfl⟩
        simp only [hvT] at zT
        simp only [hvN] at zN
        simp only [hvK] at zK
        rw [if_neg (by omega)] at zI
        have fK := hmr.kept.frozen j
        have fI0 := hmr.is.frozen j
        have s3 := hjr.step.cell 3
        simp at s3
        have hc0 := choiceOf_small bt j
        obtain ⟨cz, hcz⟩ : ∃ cz, choiceOf bt j = cz := ⟨_, rfl⟩
        have hch := fun w => hch j w (by omega)
        rw [hcz] at hch hc0
        obtain ⟨cz0, cz1⟩ := hc0
        have HMR := Lib.hid hmr
        have HKR := Lib.hid hkr
        have HJR := Lib.hid hjr
        have HVT := Lib.hid hvT
        have HVN := Lib.hid hvN
        have HCZ := Lib.hid hcz
        clear hmr hkr hjr hvT hvK hvN hcz
        go_wp2_with fail
        refine (hch _).mono ?_
        rintro e w' ⟨rfl, rfl⟩
        clear hch
        have h3 : cz % 3 = 0 ∨ cz % 3 = 1 ∨ cz % 3 = 2 := by omega
        rcases h3 with h3 | h3 | h3
        · have ht3 : cz.tmod 3 = 0 := by rw [Int.tmod_eq_emod_of_nonneg cz0]; exact h3
          go_wp2
          refine ⟨⟨j + 1, by omega, by go_num, (HKR.out.setCell (by simp) _), ⟨HJR.out.right.far (p := ⟨m.ib, j, none⟩) (HGA.out m.ib (by simp [MI.blocks])).1 _, HJR.out.last.far (p := ⟨m.ib, j, none⟩) (HGA.out m.ib (by simp [MI.blocks])).2.1 _, HJR.out.step.far (p := ⟨m.ib, j, none⟩) (HGA.out m.ib (by simp [MI.blocks])).2.2 _⟩, ?_⟩, by simp [intOf]; omega⟩
          refine (HMR.out.setI j false).congr (fun _ _ => rfl) (fun z _ => ?_) (fun _ _ => rfl) (fun z _ => ?_)
          · by_cases hz : z = j
            · subst hz; rw [if_neg (by omega), if_pos (by omega), left_same (by rw [HCZ.out]; exact h3)]
            · skip
              by_cases hz2 : z < j
              · rw [if_pos hz2, if_pos (by omega)]
              · rw [if_neg hz2, if_neg (by omega)]
          · by_cases hz : z = j
            · subst hz; rw [if_pos rfl, if_pos (by omega)]
            · rw [if_neg hz]
              by_cases hz2 : z < j
              · rw [if_pos hz2, if_pos (by omega)]
              · rw [if_neg hz2, if_neg (by omega)]
        · have ht3 : cz.tmod 3 = 1 := by rw [Int.tmod_eq_emod_of_nonneg cz0]; exact h3
          cases hs : (s.q (j / 8)).isSome with
          | true =>
            rw [hs] at zI
            have HS := Lib.hid hs
            clear hs
            have hm2 := HMR.out.setK hlt vT
            obtain ⟨_, _, _, zI2⟩ := hm2.at_ hlt
            obtain ⟨_, _, _, y32⟩ := hm2.cells
            have fI := hm2.is.frozen j
            clear hm2
            go_wp2_with fail
            go_big_region
            go_wp2
            have hset := ((HMR.out.setK hlt vT).heap (w' := (wr.setCell ⟨m.kb, j, none⟩ (.int .u64 vT)).drew) rfl).setI j false
            have cj1 := ((HJR.out.right.far (p := ⟨m.kb, j, none⟩) (HGA.out m.kb (by simp [MI.blocks])).1 (.int .u64 vT)).drew.far (p := ⟨m.ib, j, none⟩) (HGA.out m.ib (by simp [MI.blocks])).1 (.bool false))
            have cj2 := ((HJR.out.last.far (p := ⟨m.kb, j, none⟩) (HGA.out m.kb (by simp [MI.blocks])).2.1 (.int .u64 vT)).drew.far (p := ⟨m.ib, j, none⟩) (HGA.out m.ib (by simp [MI.blocks])).2.1 (.bool false))
            have cj3 := ((HJR.out.step.far (p := ⟨m.kb, j, none⟩) (HGA.out m.kb (by simp [MI.blocks])).2.2 (.int .u64 vT)).drew.far (p := ⟨m.ib, j, none⟩) (HGA.out m.ib (by simp [MI.blocks])).2.2 (.bool false))
            refine ⟨⟨j + 1, by omega, by go_num, ((HKR.out.setCell (by simp) _).drew.setCell (by simp) _), ⟨cj1, cj2, cj3⟩, ?_⟩, by simp [intOf]; omega⟩
            refine hset.congr (fun _ _ => rfl) (fun z _ => ?_) (fun _ _ => rfl) (fun z _ => ?_)
            · by_cases hz : z = j
              · subst hz; rw [if_pos rfl, if_pos (by omega), left_to (x := vT) (by rw [HCZ.out]; exact h3) HS.out (fun l hl => by rw [← HVT.out]; exact HM1.out.isTo z l hlt hl)]
              · rw [if_neg hz]
                by_cases hz2 : z < j
                · rw [if_pos hz2, if_pos (by omega)]
                · rw [if_neg hz2, if_neg (by omega)]
            · by_cases hz : z = j
              · subst hz; rw [if_pos rfl, if_pos (by omega)]
              · rw [if_neg hz]
                by_cases hz2 : z < j
                · rw [if_pos hz2, if_pos (by omega)]
                · rw [if_neg hz2, if_neg (by omega)]
          | false =>
            rw [hs] at zI
            have HS := Lib.hid hs
            clear hs
            go_wp2
            refine ⟨⟨j + 1, by omega, by go_num, (HKR.out.setCell (by simp) _), ⟨HJR.out.right.far (p := ⟨m.ib, j, none⟩) (HGA.out m.ib (by simp [MI.blocks])).1 _, HJR.out.last.far (p := ⟨m.ib, j, none⟩) (HGA.out m.ib (by simp [MI.blocks])).2.1 _, HJR.out.step.far (p := ⟨m.ib, j, none⟩) (HGA.out m.ib (by simp [MI.blocks])).2.2 _⟩, ?_⟩, by simp [intOf]; omega⟩
            refine (HMR.out.setI j false).congr (fun _ _ => rfl) (fun z _ => ?_) (fun _ _ => rfl) (fun z _ => ?_)
            · by_cases hz : z = j
              · subst hz; rw [if_neg (by omega), if_pos (by omega), left_kept (by rw [HCZ.out]; exact h3) HS.out]
              · skip
                by_cases hz2 : z < j
                · rw [if_pos hz2, if_pos (by omega)]
                · rw [if_neg hz2, if_neg (by omega)]
            · by_cases hz : z = j
              · subst hz; rw [if_pos rfl, if_pos (by omega)]
              · rw [if_neg hz]
                by_cases hz2 : z < j
                · rw [if_pos hz2, if_pos (by omega)]
                · rw [if_neg hz2, if_neg (by omega)]
        · have ht3 : cz.tmod 3 = 2 := by rw [Int.tmod_eq_emod_of_nonneg cz0]; exact h3
          have hm2 := HMR.out.setK hlt vN
          obtain ⟨_, _, _, zI2⟩ := hm2.at_ hlt
          obtain ⟨_, _, _, y32⟩ := hm2.cells
          have fI := hm2.is.frozen j
          clear hm2
          go_wp2_with fail
          go_big_region
          go_wp2
          have hset := ((HMR.out.setK hlt vN).heap (w' := (wr.setCell ⟨m.kb, j, none⟩ (.int .u64 vN)).drew) rfl).setI j false
          have cj1 := ((HJR.out.right.far (p := ⟨m.kb, j, none⟩) (HGA.out m.kb (by simp [MI.blocks])).1 (.int .u64 vN)).drew.far (p := ⟨m.ib, j, none⟩) (HGA.out m.ib (by simp [MI.blocks])).1 (.bool false))
          have cj2 := ((HJR.out.last.far (p := ⟨m.kb, j, none⟩) (HGA.out m.kb (by simp [MI.blocks])).2.1 (.int .u64 vN)).drew.far (p := ⟨m.ib, j, none⟩) (HGA.out m.ib (by simp [MI.blocks])).2.1 (.bool false))
          have cj3 := ((HJR.out.step.far (p := ⟨m.kb, j, none⟩) (HGA.out m.kb (by simp [MI.blocks])).2.2 (.int .u64 vN)).drew.far (p := ⟨m.ib, j, none⟩) (HGA.out m.ib (by simp [MI.blocks])).2.2 (.bool false))
          refine ⟨⟨j + 1, by omega, by go_num, ((HKR.out.setCell (by simp) _).drew.setCell (by simp) _), ⟨cj1, cj2, cj3⟩, ?_⟩, by simp [intOf]; omega⟩
          refine hset.congr (fun _ _ => rfl) (fun z _ => ?_) (fun _ _ => rfl) (fun z _ => ?_)
          · by_cases hz : z = j
            · subst hz; rw [if_pos rfl, if_pos (by omega), left_now (by rw [HCZ.out]; exact h3), HVN.out]
            · rw [if_neg hz]
              by_cases hz2 : z < j
              · rw [if_pos hz2, if_pos (by omega)]
              · rw [if_neg hz2, if_neg (by omega)]
          · by_cases hz : z = j
            · subst hz; rw [if_pos rfl, if_pos (by omega)]
            · rw [if_neg hz]
              by_cases hz2 : z < j
              · rw [if_pos hz2, if_pos (by omega)]
              · rw [if_neg hz2, if_neg (by omega)]
      · have hje : j = s.now.length := by omega
        obtain ⟨y0, y1, y2, y3⟩ := hmr.cells
        have hmr' := hmr.congr (N' := fun x => s.now.getD x 0) (K' := left s (choiceOf bt)) (T' := fun x => t.getD x 0) (I' := fun _ => false) (fun _ _ => rfl) (fun x hx => by rw [if_pos (by omega)]) (fun _ _ => rfl) (fun x hx => by rw [if_pos (by omega)])
        obtain ⟨w4, hcp, hb4, hk4, hs4⟩ := copy_blk (P := Try.prog) (dT := 22) (sT := 22) (ty := 3) underlying_words size_word (w := wr.drew) (Blk.drew hmr'.now) (some ⟨m.nb, 0, none⟩) (some ⟨m.kb, 0, none⟩) s.now.length s.now.length s.now.length (s.now.length + m.kx.length) 0
          (uw (row s.now.length (left s (choiceOf bt)))) (by simp [uw, row_length]) (fun _ => ⟨rfl, _, _, rfl, fun j v hv => by
            rw [Nat.zero_add, World.cell?_drew, hmr'.kept.cell]
            have hj := (List.getElem?_eq_some_iff.1 hv).1
            simp only [List.getElem?_toArray]
            rw [List.getElem?_append_left hj]
            exact hv⟩) (by simp [uw, row_length]) (uw_one _)
        have hkk : Keep wr.heap.size [m.nb] wr w4 := hk4.undrew
        have hgn := HGA.out m.nb (by simp [MI.blocks])
        have hj4 : CJ (w.heap.size + 1 + 1) (w.heap.size + 1) w.heap.size #[.int .u8 dO, .int .u8 at_, .int .u64 v, .int .u64 bt] s.now.length w4 :=
          ⟨hjr.right.keep hkk hjr.right.lt (by simpa using hgn.1), hjr.last.keep hkk hjr.last.lt (by simpa using hgn.2.1), hjr.step.keep hkk hjr.step.lt (by simpa using hgn.2.2)⟩
        have r1 := hj4.right.cell 0
        have r2 := hj4.last.cell 0
        simp at r1 r2
        have hw4 : IntKind.i64.wrap ((s.now.length : Int) - 1) = (s.now.length : Int) - 1 := IntWalk.i64_in _ (by omega)
        have hxI : (s.now.length : Int) ≤ j := by omega
        have HMR := Lib.hid hmr'
        have HKR := Lib.hid hkr
        have HB4 := Lib.hid hb4
        have HKK := Lib.hid hkk
        clear hmr hmr' hkr hjr hje hb4 hk4 hs4 hkk hj4 hgn
        go_wp2_with fail
        refine wp_region_still_tail 8 (by kernel_rfl) (by kernel_rfl) ?_
        simp only [List.take_succ_cons, List.take_zero, List.drop_succ_cons, List.drop_zero]
        repeat still_step
        refine wpStill_nil ?_
        go_wp2
        go_ret
        have hnd := HMR.out.nodup
        simp only [MI.blocks, List.nodup_cons, List.mem_cons, not_or, List.not_mem_nil, not_false_eq_true, and_true] at hnd
        have e : ∀ k ∈ m.blocks, k ≠ m.nb → w4.heap[k]? = wr.heap[k]? := fun k hm hne => HKK.out.block k (HMR.out.lt k hm) (by simpa using hne)
        have e := fun k hk => e k (by simp only [MI.blocks, List.mem_cons, List.not_mem_nil, or_false]; exact hk)
        have hb := HB4.out
        have hsp : splice (uw (row s.now.length fun x => s.now.getD x 0)) 0 (uw (row s.now.length (left s (choiceOf bt)))) = uw (row s.now.length (left s (choiceOf bt))) := by
          simp [splice, uw, row_length]
        simp only [hsp] at hb
        have hmm : MMem w4 m s.now.length (left s (choiceOf bt)) (left s (choiceOf bt)) (fun x => t.getD x 0) (fun _ => false) :=
          ⟨(e m.b (by simp) (by omega)).trans HMR.out.blk, hb, (e m.kb (by simp) (by omega)).trans HMR.out.kept, (e m.tb (by simp) (by omega)).trans HMR.out.to, (e m.ib (by simp) (by omega)).trans HMR.out.is, HMR.out.nodup⟩
        obtain ⟨t', ht'⟩ := crash_of HM1.out hmm
        have hkw4 : Keep w1.heap.size [m.kb, m.ib, m.nb] w1 w4 := (HKR.out.sub (by intro k _ h; simp at h; rcases h with h | h <;> simp [h])).join HKK.out HKR.out.size (by intro k _ h; simp at h; simp [h])
        refine ⟨rfl, t', HD1.out.keep hkw4 (fun j hj => ⟨HD1.out.lt j hj, fun h => ?_⟩), ht', ?_⟩
        · simp only [List.mem_cons, List.not_mem_nil, or_false] at h
          rcases h with rfl | rfl | rfl
          · exact HAP.out m.kb (by simp [MI.blocks]) hj
          · exact HAP.out m.ib (by simp [MI.blocks]) hj
          · exact HAP.out m.nb (by simp [MI.blocks]) hj
        · have h1 := (HKW3.out.sub (S' := d.blocks ++ m.blocks) (by simp)).join HK1.out HKW3.out.size (by
            intro j hj' hj
            simp only [List.mem_append, List.mem_cons, List.not_mem_nil, or_false] at hj
            rcases hj with hj | hj | hj
            · simp [hj]
            · omega
            · omega)
          exact h1.join hkw4 h1.size (by intro j _ hj; simp only [List.mem_cons, List.not_mem_nil, or_false] at hj; rcases hj with rfl | rfl | rfl <;> simp [MI.blocks])
end Go.Proofs.Ytanjmbjnpcekcaa
