/-
  tumuluslaw02.M.Do: a flush.
-/
import Derived.Test.YtanjmbjnpcekcaaMDo2
set_option linter.unusedSimpArgs false
set_option linter.unusedVariables false
namespace Go.Proofs.Ytanjmbjnpcekcaa
open Go.RowKit Go.Shelf

theorem line_getD (xs : List Int) (b x : Nat) (h : x / 8 = b) : (line xs b).getD (x % 8) 0 = xs.getD x 0 := by
  simp only [line, List.getD_eq_getElem?_getD, List.getElem?_take, List.getElem?_drop]
  rw [if_pos (by omega), show 8 * b + x % 8 = x by omega]

theorem flush_of {w : World} {m : MI} {s : St} {t : List Int} {k : Nat} (h : MOf w m s t) {w' : World} (hk : k < s.now.length)
    (hm : MMem w' m s.now.length (fun x => s.now.getD x 0) (fun x => s.kept.getD x 0) (fun x => if 8 * (k / 8) ≤ x ∧ x < 8 * (k / 8) + 8 then s.now.getD x 0 else t.getD x 0) (fun x => if 8 * (k / 8) ≤ x ∧ x < 8 * (k / 8) + 8 then true else (s.q (x / 8)).isSome)) :
    ∃ t', MOf w' m (s.flush k) t' := by
  refine ⟨_, hm.of (s.flush k) rfl h.lk h.l8 h.small (fun _ _ => rfl) (fun _ _ => rfl) ?_ ?_⟩
  · intro x hx
    simp only [St.flush, St.tick]
    by_cases hc : x / 8 = k / 8
    · rw [if_pos (by omega), if_pos hc]; rfl
    · rw [if_neg (by omega), if_neg hc]
  · intro x l hx hq
    simp only [St.flush, St.tick] at hq
    by_cases hc : x / 8 = k / 8
    · rw [if_pos hc] at hq
      injection hq with hq
      subst hq
      rw [if_pos (by omega), line_getD _ _ _ hc]
    · rw [if_neg hc] at hq
      rw [if_neg (by omega)]
      exact h.isTo x l hx hq

set_option maxRecDepth 100000 in
set_option maxHeartbeats 2000000 in
theorem do_flush (d : DevI) (m : MI) (s : St) (t : List Int) (dO at_ v bt : Int) (k : Nat) (w : World) (hd : Dev w d s) (hm : MOf w m s t) (hap : ∀ j ∈ m.blocks, j ∉ d.blocks)
    (d0 : 0 ≤ dO) (d1 : dO ≤ 255) (a0 : 0 ≤ at_) (a1 : at_ ≤ 255) (hq : dO % 7 = 4) (hA : At s.now.length at_ k) (hk : k < s.now.length) :
    Calls Try.prog 38 #[.pointer (some ⟨m.b, 0, none⟩), .pointer (some ⟨d.b, 0, none⟩), .agg #[.int .u8 dO, .int .u8 at_, .int .u64 v, .int .u64 bt]] w fun e w' =>
      (¬ s.goes ∧ DidM w d m (s.flush k) e w') ∨ (s.goes ∧ CutM w d m s e w') := by
  have hkw : Keep w.heap.size [] w (w.alloc (.cells #[.int .u8 dO, .int .u8 at_, .int .u64 v, .int .u64 bt] 58)) := (Keep.refl _ _ _).alloc (Nat.le_refl _) _
  obtain ⟨hc0, hc1, hc2, hc3⟩ := (hm.of_new hkw).cells
  have hsm := hm.small
  have hsmI : (s.now.length : Int) ≤ 1099511627776 := by omega
  have hkI : (k : Int) < s.now.length := by omega
  have hst := fun w hd => flush_in d s k w hd hk
  obtain ⟨n8, hn8⟩ := hm.l8
  have hnd := hm.nodup
  simp only [MI.blocks, List.nodup_cons, List.mem_cons, not_or, List.not_mem_nil, not_false_eq_true, and_true] at hnd
  obtain ⟨b, hb⟩ : ∃ b, b = k / 8 := ⟨_, rfl⟩
  obtain ⟨o, ho⟩ : ∃ o, o = 8 * b := ⟨_, rfl⟩
  have e0 : (k : Int) / 8 = (b : Int) := by omega
  have e1 : IntKind.i64.wrap ((b : Int) * 8) = (o : Int) := by rw [IntWalk.i64_in _ (by omega)]; omega
  have hlo : (o : Int) + 8 ≤ s.now.length := by omega
  have HN8 := Lib.hid hn8
  have Hb := Lib.hid hb
  have Ho := Lib.hid ho
  have HT : Hid (m.tb ≠ m.ib ∧ m.tb ≠ m.b ∧ m.ib ≠ m.b ∧ m.nb ≠ m.tb ∧ m.nb ≠ m.ib) := by
    refine ⟨?_, ?_, ?_, ?_, ?_⟩ <;> omega
  have HD := Lib.hid hd
  have HM := Lib.hid hm
  have HAP := Lib.hid hap
  have HKW := Lib.hid hkw
  have HB0 := Lib.hid (Blk.new w 58 #[.int .u8 dO, .int .u8 at_, .int .u64 v, .int .u64 bt])
  have HWD : Hid (w.heap.size ∉ d.blocks) := fun h => Nat.lt_irrefl _ (hd.lt _ h)
  clear hd hm hap hkw hn8 hnd hb ho
  rcases hA with ⟨h1, h2⟩ | ⟨h1, h2, h3⟩ | ⟨h1, h2, h3⟩
  · omega
  all_goals
    have hp : (0 : Int) < s.now.length := by omega
    go_enter Try.func38, Try.ntmps38
    go_wp2_with fail
    generalize w.alloc (.cells #[.int .u8 dO, .int .u8 at_, .int .u64 v, .int .u64 bt] 58) = w0 at *
    refine (hst _ (HD.out.of_new HKW.out)).mono ?_
    rintro e w1 (⟨hg, rfl, hd1, hk1⟩ | ⟨hg, rfl, hd1, hk1⟩)
    · have hm1 := (HM.out.of_new HKW.out).keep hk1 (fun j hj => ⟨(HM.out.of_new HKW.out).lt j hj, HAP.out j hj⟩)
      have HD1 := Lib.hid hd1
      have HM1 := Lib.hid hm1
      have HK1 := Lib.hid hk1
      have HMM := Lib.hid hm1.mem
      clear hd1 hm1 hk1 hc0 hc1 hc2 hc3 hst
      go_wp2_with fail
      go_loopw [11] (fun v wr => ∃ j : Nat, j ≤ 8 ∧ v = .int .i64 ((o + j : Nat) : Int) ∧ Keep w1.heap.size [m.tb, m.ib] w1 wr ∧
        MMem wr m s.now.length (fun x => s.now.getD x 0) (fun x => s.kept.getD x 0) (fun x => if o ≤ x ∧ x < o + j then s.now.getD x 0 else t.getD x 0) (fun x => if o ≤ x ∧ x < o + j then true else (s.q (x / 8)).isSome)) (fun v _ => o + 8 - (intOf v).toNat)
      case atStart =>
        refine ⟨0, by omega, rfl, Keep.refl _ _ _, HMM.out.congr (fun _ _ => rfl) (fun _ _ => rfl) (fun x _ => ?_) (fun x _ => ?_)⟩
        · rw [if_neg (by omega)]
        · rw [if_neg (by omega)]
      case round =>
        obtain ⟨j, hj, rfl, hkr, hmr⟩ := hrel
        have hnI : (s.now.length : Int) ≤ 1099511627776 := by omega
        by_cases hlt : j < 8
        · obtain ⟨x, hx⟩ : ∃ x, o + j = x := ⟨_, rfl⟩
          rw [hx]
          have hxn : x < s.now.length := by omega
          have hxI : (x : Int) < s.now.length := by omega
          have hx8 : (x : Int) < (o : Int) + 8 := by omega
          obtain ⟨y0, y1, y2, y3⟩ := hmr.cells
          obtain ⟨zN, _, zT, zI⟩ := hmr.at_ hxn
          obtain ⟨vN, hvN⟩ : ∃ vN, s.now.getD x 0 = vN := ⟨_, rfl⟩
          simp only [hvN] at zN
          have fT := hmr.to.frozen x
          have hm2 := hmr.setT x vN
          obtain ⟨_, _, _, zI2⟩ := hm2.at_ hxn
          obtain ⟨_, _, _, y32⟩ := hm2.cells
          have fI := hm2.is.frozen x
          have HMR := Lib.hid hmr
          have HKR := Lib.hid hkr
          have HX := Lib.hid hx
          have HVN := Lib.hid hvN
          clear hmr hkr hm2 hx hvN
          go_wp2_with fail
          go_big_region
          go_wp2
          have hx := HX.out
          refine ⟨⟨j + 1, by omega, by go_num, ?_, ?_⟩, by simp [intOf]; omega⟩
          · exact ((HKR.out.setCell (by simp) _).setCell (by simp) _).drew
          · have hset := ((HMR.out.setT x vN).setI x true).heap (w' := ((wr.setCell ⟨m.tb, x, none⟩ (.int .u64 vN)).setCell ⟨m.ib, x, none⟩ (.bool true)).drew) rfl
            refine hset.congr (fun _ _ => rfl) (fun _ _ => rfl) (fun z _ => ?_) (fun z _ => ?_)
            · by_cases hz : z = x
              · subst hz; rw [if_pos rfl, if_pos (by omega), HVN.out]
              · rw [if_neg hz]
                by_cases hz2 : o ≤ z ∧ z < o + j
                · rw [if_pos hz2, if_pos (by omega)]
                · rw [if_neg hz2, if_neg (by omega)]
            · by_cases hz : z = x
              · subst hz; rw [if_pos rfl, if_pos (by omega)]
              · rw [if_neg hz]
                by_cases hz2 : o ≤ z ∧ z < o + j
                · rw [if_pos hz2, if_pos (by omega)]
                · rw [if_neg hz2, if_neg (by omega)]
        · obtain rfl : j = 8 := by omega
          have HMR := Lib.hid hmr
          have HKR := Lib.hid hkr
          clear hmr hkr
          go_wp2
          go_ret
          have hmr := HMR.out
          rw [Ho.out, Hb.out] at hmr
          obtain ⟨t', ht'⟩ := flush_of HM1.out hk hmr
          refine .inl ⟨hg, rfl, t', HD1.out.keep HKR.out (fun j hj => ⟨HD1.out.lt j hj, fun h => ?_⟩), ht', ?_⟩
          · simp only [List.mem_cons, List.not_mem_nil, or_false] at h
            rcases h with rfl | rfl
            · exact HAP.out m.tb (by simp [MI.blocks]) hj
            · exact HAP.out m.ib (by simp [MI.blocks]) hj
          · have h1 := (HKW.out.sub (S' := d.blocks ++ m.blocks) (by simp)).join HK1.out HKW.out.size (by intro j _ hj; simp [hj])
            exact h1.join HKR.out h1.size (by intro j _ hj; simp only [List.mem_cons, List.not_mem_nil, or_false] at hj; rcases hj with rfl | rfl <;> simp [MI.blocks])
    · have hm1 := (HM.out.of_new HKW.out).keep hk1 (fun j hj => ⟨(HM.out.of_new HKW.out).lt j hj, HAP.out j hj⟩)
      have HD1 := Lib.hid hd1
      have HM1 := Lib.hid hm1
      have HK1 := Lib.hid hk1
      clear hd1 hm1 hk1 hc0 hc1 hc2 hc3 hst
      unfold offE
      go_wp2
      exact ⟨rfl, .inr ⟨hg, rfl, t, HD1.out, HM1.out, (HKW.out.sub (S' := d.blocks ++ m.blocks) (by simp)).join HK1.out HKW.out.size (by intro j _ hj; simp [hj])⟩⟩
end Go.Proofs.Ytanjmbjnpcekcaa
