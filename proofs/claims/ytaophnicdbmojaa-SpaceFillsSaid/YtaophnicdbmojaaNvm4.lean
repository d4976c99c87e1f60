/-
  Device.Crash: each word is what was kept, what was to be kept, or what stood.
-/
import Derived.Test.YtaophnicdbmojaaNvm3
set_option maxRecDepth 100000
namespace Go.Proofs.Ytaophnicdbmojaa
open Go.RowKit Go.Shelf

/-- What a choice leaves of a word. -/
def left (s : St) (ch : Nat → Int) (j : Nat) : Int :=
  if ch j % 3 = 1 then (match s.q (j / 8) with | some l => l.getD (j % 8) 0 | none => s.kept.getD j 0)
  else if ch j % 3 = 2 then s.now.getD j 0 else s.kept.getD j 0
/-- What is kept when the words ahead of i are left. -/
def leftTo (s : St) (ch : Nat → Int) (i : Nat) : List Int := (List.range s.now.length).map fun j => if j < i then left s ch j else s.kept.getD j 0
def St.crash (s : St) (ch : Nat → Int) : St := { s with now := leftTo s ch s.now.length, kept := leftTo s ch s.now.length, q := fun _ => none }

theorem leftTo_length (s : St) (ch : Nat → Int) (i : Nat) : (leftTo s ch i).length = s.now.length := by simp [leftTo]
theorem leftTo_get (s : St) (ch : Nat → Int) (i j : Nat) : (leftTo s ch i)[j]? = if j < s.now.length then some (if j < i then left s ch j else s.kept.getD j 0) else none := by
  simp only [leftTo, List.getElem?_map]
  by_cases h : j < s.now.length
  · simp [h]
  · simp [h]
theorem leftTo_zero (s : St) (ch : Nat → Int) (hl : s.kept.length = s.now.length) : leftTo s ch 0 = s.kept := by
  apply List.ext_getElem?
  intro j
  rw [leftTo_get]
  by_cases h : j < s.now.length
  · simp [h, List.getElem?_eq_getElem (show j < s.kept.length by omega)]
  · rw [if_neg h, List.getElem?_eq_none (by omega)]
theorem leftTo_set (s : St) (ch : Nat → Int) (i : Nat) (v : Int) (hv : left s ch i = v) : (leftTo s ch i).set i v = leftTo s ch (i + 1) := by
  apply List.ext_getElem?
  intro j
  rw [List.getElem?_set, leftTo_get, leftTo_get, leftTo_length]
  by_cases hij : i = j
  · subst hij
    by_cases h : i < s.now.length
    · simp [h, hv]
    · simp [h]
  · simp only [hij, if_false]
    by_cases h : j < s.now.length
    · simp only [h, if_true]
      by_cases h2 : j < i
      · simp [h2, show j < i + 1 by omega]
      · simp [h2, show ¬ j < i + 1 by omega]
    · simp [h]
theorem leftTo_same (s : St) (ch : Nat → Int) (i : Nat) (hi : i < s.now.length) (hv : left s ch i = s.kept.getD i 0) : leftTo s ch (i + 1) = leftTo s ch i := by
  rw [← leftTo_set s ch i _ hv]
  apply List.ext_getElem?
  intro j
  rw [List.getElem?_set, leftTo_get, leftTo_length]
  by_cases hij : i = j
  · subst hij; simp [hi]
  · simp [hij]

/-- What a call of the choice does: its answer; what its own variables hold; what else it keeps. -/
structure Chooses (G : FuncId) (cap : Array Value) (ch : Nat → Int) (n : Nat) (J : Nat → World → Prop) (C B : List Nat) : Prop where
  enters : Enters Try.prog G
  call : ∀ k w, k < n → J k w → Calls Try.prog G (#[.int .i64 (k : Nat)] ++ cap) w fun e w' => e = .returned (.int .u8 (ch k)) ∧ J (k + 1) w' ∧ Keep w.heap.size C w w'
  small : ∀ k, 0 ≤ ch k ∧ ch k ≤ 255
  stays : ∀ k w w', J k w → Keep w.heap.size B w w' → J k w'
  apart : ∀ k ∈ C, k ∉ B

theorem kept_cell {w : World} {d : DevI} {s : St} (h : Dev w d s) {k : Nat} (hk : k < s.now.length) : ∃ v, w.cell? ⟨d.kb, k, none⟩ = some (.int .u64 v) := by
  have hl := h.lk
  refine ⟨s.kept[k], ?_⟩
  rw [h.kept.cell]
  simp only [List.getElem?_toArray]
  rw [List.getElem?_append_left (by simp [uw]; omega)]
  simp [uw]

theorem Dev.setKeptCell {w : World} {d : DevI} {s : St} (h : Dev w d s) {k : Nat} (hk : k < s.now.length) (v : Int) :
    Dev (w.setCell ⟨d.kb, k, none⟩ (.int .u64 v)) d { s with kept := s.kept.set k v } := by
  refine h.setKept ((Keep.refl _ _ _).setCell (by simp) _) ?_ (by simpa using h.lk)
  have hl := h.lk
  have := h.kept.set_ k (.int .u64 v)
  have e : (uw s.kept ++ d.kx).toArray.setIfInBounds k (.int .u64 v) = (uw (s.kept.set k v) ++ d.kx).toArray := by
    simp only [List.setIfInBounds_toArray]
    congr 1
    rw [List.set_append_left _ _ (by simp [uw]; omega)]
    simp [uw, List.map_set]
  rw [e] at this
  exact this

structure CInv (w : World) (d : DevI) (s : St) (ch : Nat → Int) (J : Nat → World → Prop) (C : List Nat) (i : Nat) (wr : World) : Prop where
  dev : Dev wr d { s with kept := leftTo s ch i }
  j : J i wr
  keep : Keep w.heap.size (d.blocks ++ C) w wr

theorem zero_line (w : World) : (zeroValue 136).run Try.prog w = .ok (.agg #[.int .u64 0, .int .u64 0, .int .u64 0, .int .u64 0, .int .u64 0, .int .u64 0, .int .u64 0, .int .u64 0]) w := by kernel_rfl

set_option maxRecDepth 100000 in
set_option maxHeartbeats 2000000 in
theorem crash_any (d : DevI) (s : St) (G : FuncId) (cap : Array Value) (ch : Nat → Int) (J : Nat → World → Prop) (C : List Nat) (w : World) (h : Dev w d s) (hC : Chooses G cap ch s.now.length J C d.blocks) (hJ : J 0 w) (hlow : ∀ k ∈ C, k < w.heap.size) :
    Calls Try.prog 90 #[.pointer (some ⟨d.b, 0, none⟩), .func (.func G) #[] cap] w fun e w' =>
      e = .returned (.tuple #[]) ∧ Dev w' d (s.crash ch) ∧ J s.now.length w' ∧ Keep w.heap.size (d.blocks ++ C) w w' := by
  obtain ⟨hc0, hc1, hc2, hc3⟩ := h.cells
  have hsm := h.small
  have H := Lib.hid h
  have HJ := Lib.hid hJ
  have HC := Lib.hid hC
  clear h hJ hC
  go_enter Try.func90, Try.ntmps90
  go_wp2_with fail
  go_loopw [12] (fun v wr => ∃ i : Nat, i ≤ s.now.length ∧ v = .int .i64 i ∧ CInv w d s ch J C i wr) (fun v _ => s.now.length - (intOf v).toNat)
  case atStart =>
    exact ⟨0, Nat.zero_le _, rfl, by rw [leftTo_zero s ch H.out.lk]; exact H.out, HJ.out, Keep.refl _ _ _⟩
  case round =>
    obtain ⟨i, hi, rfl, hI⟩ := hrel
    clear hc0 hc1 hc2 hc3
    obtain ⟨hr0, hr1, hr2, hr3⟩ := hI.dev.cells
    simp only at hr1 hr2
    by_cases hlt : i < s.now.length
    · obtain ⟨m, hm⟩ : ∃ m, m = i / 8 := ⟨_, rfl⟩
      have e0 : (i : Int) / 8 = (m : Int) := by omega
      obtain ⟨b0, b1, b2, b3, b4, b5, b6, b7, okb, hlk, hok⟩ : ∃ (b0 b1 b2 b3 b4 b5 b6 b7 : Int) (okb : Bool),
          (Instr.lookup 105 (.map (some d.qb)) (.int .i64 m) true).run Try.prog wr = .ok (.tuple #[.agg #[.int .u64 b0, .int .u64 b1, .int .u64 b2, .int .u64 b3, .int .u64 b4, .int .u64 b5, .int .u64 b6, .int .u64 b7], .bool okb]) wr ∧
          s.q m = if okb then some [b0, b1, b2, b3, b4, b5, b6, b7] else none := by
        have hl := lookup_ok (P := Try.prog) hI.dev.queue.1 underlying_queue underlying_int (m : Int) (zero_line wr)
        cases hq : s.q m with
        | none =>
          refine ⟨0, 0, 0, 0, 0, 0, 0, 0, false, ?_, rfl⟩
          rw [hl]; simp [qmap, hq]
        | some l =>
          obtain ⟨a0, a1, a2, a3, a4, a5, a6, a7, rfl⟩ := list8 (hI.dev.queue.2 m l hq).1
          refine ⟨a0, a1, a2, a3, a4, a5, a6, a7, true, ?_, rfl⟩
          rw [hl]; simp [qmap, hq, uw]
      have hlt' : (i : Int) < s.now.length := by omega
      have HI := Lib.hid hI
      have HM := Lib.hid hm
      have HOK := Lib.hid hok
      clear hI hm hok
      go_wp2_with fail
      have hb8 := Blk.new wr 136 #[Value.int .u64 b0, .int .u64 b1, .int .u64 b2, .int .u64 b3, .int .u64 b4, .int .u64 b5, .int .u64 b6, .int .u64 b7]
      have hk4 : Keep wr.heap.size [] wr (wr.alloc (.cells #[Value.int .u64 b0, .int .u64 b1, .int .u64 b2, .int .u64 b3, .int .u64 b4, .int .u64 b5, .int .u64 b6, .int .u64 b7] 136)) := (Keep.refl _ _ _).alloc (Nat.le_refl _) _
      generalize wr.alloc (.cells #[Value.int .u64 b0, .int .u64 b1, .int .u64 b2, .int .u64 b3, .int .u64 b4, .int .u64 b5, .int .u64 b6, .int .u64 b7] 136) = W4 at *
      have hj4 : J i W4 := HC.out.stays _ _ _ HI.out.j (hk4.sub (by simp))
      rw [HC.out.enters, Oper.upon_enter]
      refine (HC.out.call i W4 hlt hj4).mono ?_
      rintro e w5 ⟨rfl, hj5, hk5⟩
      have hd4 := HI.out.dev.of_new hk4
      have hd5 : Dev w5 d { s with kept := leftTo s ch i } := hd4.keep hk5 fun k hk => ⟨hd4.lt k hk, fun hc => HC.out.apart k hc hk⟩
      have h85 : Blk w5 wr.heap.size 136 #[Value.int .u64 b0, .int .u64 b1, .int .u64 b2, .int .u64 b3, .int .u64 b4, .int .u64 b5, .int .u64 b6, .int .u64 b7] :=
        hb8.keep hk5 hb8.lt (fun hc => by have := hlow _ hc; have := HI.out.keep.size; omega)
      have hkw : Keep w.heap.size (d.blocks ++ C) w w5 := HI.out.keep.trans ((hk4.mono HI.out.keep.size (by simp)).trans (hk5.mono (Nat.le_trans HI.out.keep.size hk4.size) (by intro k _ hm; simp [hm])))
      obtain ⟨hs0, hs1, hs2, hs3⟩ := hd5.cells
      simp only at hs1 hs2
      have hsmall := HC.out.small i
      have hch0 : 0 ≤ ch i := hsmall.1
      have hch1 : ch i ≤ 255 := hsmall.2
      have H85 := Lib.hid h85
      have HD5 := Lib.hid hd5
      have HJ5 := Lib.hid hj5
      have HKW := Lib.hid hkw
      clear hb8 hk4 hj4 hj5 hk5 hd4 hd5 h85 hkw hr0 hr1 hr2 hr3 hlk hsmall
      have h3 : ch i % 3 = 0 ∨ ch i % 3 = 1 ∨ ch i % 3 = 2 := by omega
      rcases h3 with h3 | h3 | h3
      · go_wp2
        go_roundw
        case rel =>
          refine ⟨i + 1, by omega, by go_num, ?_, HJ5.out, HKW.out⟩
          rw [leftTo_same s ch i hlt (by unfold left; rw [if_neg (by omega), if_neg (by omega)])]
          exact HD5.out
        case measure => simp [intOf]; omega
      · cases okb with
        | false =>
          go_wp2
          refine ⟨⟨i + 1, by omega, by go_num, ?_, HJ5.out, HKW.out⟩, by simp [intOf]; omega⟩
          rw [leftTo_same s ch i hlt (by
            have hq := HOK.out
            rw [HM.out] at hq
            simp only [Bool.false_eq_true, if_false] at hq
            unfold left
            rw [if_pos h3, hq])]
          exact HD5.out
        | true =>
          go_wp2
          obtain ⟨r, hr⟩ : ∃ r, r = i % 8 := ⟨_, rfl⟩
          have er : (i : Int).tmod 8 = (r : Int) := by rw [Int.tmod_eq_emod_of_nonneg (by omega)]; omega
          have hr8 : (r : Int) < 8 := by omega
          have hr8' : r < 8 := by omega
          obtain ⟨bv, hbv⟩ : ∃ bv, bv = [b0, b1, b2, b3, b4, b5, b6, b7].getD r 0 := ⟨_, rfl⟩
          have hcell : w5.cell? ⟨wr.heap.size, r, none⟩ = some (.int .u64 bv) := by
            rw [H85.out.cell, hbv, List.getD_eq_getElem?_getD]
            have h1 : r = 0 ∨ r = 1 ∨ r = 2 ∨ r = 3 ∨ r = 4 ∨ r = 5 ∨ r = 6 ∨ r = 7 := by omega
            rcases h1 with h1 | h1 | h1 | h1 | h1 | h1 | h1 | h1 <;> subst h1 <;> rfl
          have hlf : left s ch i = bv := by
            have hq := HOK.out
            rw [HM.out] at hq
            simp only [if_true] at hq
            unfold left
            rw [if_pos h3, hq, ← hr, hbv]
          obtain ⟨kv, hkc⟩ := kept_cell HD5.out (k := i) hlt
          have hkz := HD5.out.kept.frozen i
          have HLF := Lib.hid hlf
          clear hbv hr hlf
          refine wp_region_still_tail 10 (by kernel_rfl) (by kernel_rfl) ?_
          simp only [List.take_succ_cons, List.take_zero, List.drop_succ_cons, List.drop_zero]
          repeat still_step
          refine wpStill_nil ?_
          go_wp2
          refine ⟨⟨i + 1, by omega, by go_num, ?_, ?_, ?_⟩, by simp [intOf]; omega⟩
          · rw [← leftTo_set s ch i _ HLF.out]
            exact (HD5.out.heap (w' := w5.drew) rfl).setKeptCell (k := i) hlt bv
          · exact HC.out.stays _ _ _ HJ5.out (((Keep.refl w5.heap.size d.blocks w5).drew).setCell (by simp [DevI.blocks]) _)
          · exact HKW.out.drew.setCell (by simp [DevI.blocks]) _
      · obtain ⟨kv, hkc⟩ := kept_cell HD5.out (k := i) hlt
        have hkz := HD5.out.kept.frozen i
        have hnc := now_cell HD5.out (i := i) hlt
        simp only at hnc
        go_wp2
        refine wp_region_still_tail 13 (by kernel_rfl) (by kernel_rfl) ?_
        simp only [List.take_succ_cons, List.take_zero, List.drop_succ_cons, List.drop_zero]
        repeat still_step
        refine wpStill_nil ?_
        go_wp2
        have hlf : left s ch i = s.now[i] := by
          unfold left
          rw [if_neg (by omega), if_pos h3]
          simp [hlt]
        refine ⟨⟨i + 1, by omega, by go_num, ?_, ?_, ?_⟩, by simp [intOf]; omega⟩
        · rw [← leftTo_set s ch i _ hlf]
          exact (HD5.out.heap (w' := w5.drew) rfl).setKeptCell (k := i) hlt s.now[i]
        · exact HC.out.stays _ _ _ HJ5.out (((Keep.refl w5.heap.size d.blocks w5).drew).setCell (by simp [DevI.blocks]) _)
        · exact HKW.out.drew.setCell (by simp [DevI.blocks]) _
    · obtain rfl : i = s.now.length := by omega
      obtain ⟨w3, hcl, hm3, hk3, hs3⟩ := clear_keep (P := Try.prog) hI.dev.queue.1 underlying_queue 0
      have hnn : ((s.now.length : Int) < s.now.length) = False := by simp
      have hd3 : Dev w3 d { s with kept := leftTo s ch s.now.length, q := fun _ => none } := by
        refine hI.dev.setQueue hk3 ⟨?_, by intro j l hj; cases hj⟩
        have h0 : qmap (fun _ => none) = fun _ => none := by funext k; simp [qmap]
        rw [h0]
        exact hm3
      obtain ⟨hs0, hs1, hs2, hs3'⟩ := hd3.cells
      simp only at hs1 hs2
      have HI := Lib.hid hI
      have HD3 := Lib.hid hd3
      have HK3 := Lib.hid hk3
      clear hI hm3 hk3 hd3 hs3
      obtain ⟨w4, hcp, hb4, hk4, hs4⟩ := copy_blk (P := Try.prog) (dT := 26) (sT := 26) (ty := 3) underlying_words size_word (w := w3.drew) (Blk.drew HD3.out.now) (some ⟨d.nb, 0, none⟩) (some ⟨d.kb, 0, none⟩) s.now.length s.now.length s.now.length (s.now.length + d.kx.length) 0
        (uw (leftTo s ch s.now.length)) (by simp [uw, leftTo_length]) (fun _ => ⟨rfl, _, _, rfl, fun j v hv => by
          rw [Nat.zero_add, World.cell?_drew, HD3.out.kept.cell]
          have hj := (List.getElem?_eq_some_iff.1 hv).1
          simp only [List.getElem?_toArray]
          rw [List.getElem?_append_left hj]
          exact hv⟩) (by simp [uw, leftTo_length]) (uw_one _)
      have HB4 := Lib.hid hb4
      have HK4 := Lib.hid hk4
      clear hb4 hk4 hs4
      go_wp2_with fail
      refine wp_region_still_tail 8 (by kernel_rfl) (by kernel_rfl) ?_
      simp only [List.take_succ_cons, List.take_zero, List.drop_succ_cons, List.drop_zero]
      repeat still_step
      refine wpStill_nil ?_
      go_wp2
      go_end0
      have hk4 : Keep w3.heap.size [d.nb] w3 w4 := HK4.out.undrew
      have hk3 := HK3.out
      refine ⟨rfl, ?_, ?_, ?_⟩
      · have hb := HB4.out
        have hn := HD3.out.nodup
        simp only [DevI.blocks, List.nodup_cons, List.mem_cons, not_or, List.not_mem_nil, not_false_eq_true, and_true] at hn
        have hsp : splice (uw s.now) 0 (uw (leftTo s ch s.now.length)) = uw (leftTo s ch s.now.length) := by
          simp [splice, uw, leftTo_length]
        simp only [hsp] at hb
        have e : ∀ k ∈ d.blocks, k ≠ d.nb → w4.heap[k]? = w3.heap[k]? := fun k hm hne => hk4.block k (HD3.out.lt k hm) (by simpa using hne)
        have e := fun k hk => e k (by simp only [DevI.blocks, List.mem_cons, List.not_mem_nil, or_false]; exact hk)
        have hd := HD3.out
        exact {
          pow := (e d.p (by simp) (by omega)).trans hd.pow
          blk := by
            have := (e d.b (by simp) (by omega)).trans hd.blk
            simp only [St.crash, leftTo_length]
            exact this
          now := hb
          kept := (e d.kb (by simp) (by omega)).trans hd.kept
          queue := ⟨hd.queue.1.same (e d.qb (by simp) (by omega)), by intro j l hj; cases hj⟩
          lk := rfl
          l8 := by simp only [St.crash, leftTo_length]; exact hd.l8
          small := by simp only [St.crash, leftTo_length]; exact hd.small
          nodup := hd.nodup }
      · exact HC.out.stays _ _ _ (HC.out.stays _ _ _ HI.out.j (hk3.sub (by intro k _ hm; simp at hm; simp [DevI.blocks, hm]))) (hk4.sub (by intro k _ hm; simp at hm; simp [DevI.blocks, hm]))
      · have hz := HI.out.keep.size
        have hz3 := hk3.size
        exact HI.out.keep.trans ((hk3.mono hz (by intro k _ hm; simp at hm; simp [DevI.blocks, hm])).trans (hk4.mono (by omega) (by intro k _ hm; simp at hm; simp [DevI.blocks, hm])))
end Go.Proofs.Ytaophnicdbmojaa
