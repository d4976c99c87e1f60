/-
  ulog.Good: the first record whose place is not one behind the log; or -1.
-/
import Derived.Test.YthfelcnhkabdhaaTrunc
set_option linter.unusedSimpArgs false
set_option linter.unusedVariables false
namespace Go.Proofs.Ythfelcnhkabdhaa
open Go.RowKit Go.Shelf

def RecOk (s : St) (k : Kfg) (i : Nat) : Prop := (k.act : Int) ≤ s.nw (16 + 4 * i + 1) ∧ s.nw (16 + 4 * i + 1) < k.words
def GoodIs (s : St) (k : Kfg) (n : Nat) (r : Int) : Prop := (∃ i, i < n ∧ r = i ∧ (∀ j, j < i → RecOk s k j) ∧ ¬ RecOk s k i) ∨ (r = -1 ∧ ∀ j, j < n → RecOk s k j)
theorem GoodIs.none {s : St} {k : Kfg} {n : Nat} {r : Int} (h : GoodIs s k n r) (ho : ∀ j, j < n → RecOk s k j) : r = -1 := by
  rcases h with ⟨i, hi, _, _, hb⟩ | ⟨h, _⟩
  · exact absurd (ho i hi) hb
  · exact h
theorem GoodIs.at {s : St} {k : Kfg} {n i : Nat} {r : Int} (h : GoodIs s k n r) (ho : ∀ j, j < i → RecOk s k j) (hi : i < n) (hb : ¬ RecOk s k i) : r = i := by
  rcases h with ⟨i', hi', he, ho', hb'⟩ | ⟨_, h⟩
  · rcases Nat.lt_trichotomy i i' with h | rfl | h
    · exact absurd (ho' i h) hb
    · exact he
    · exact absurd (ho i' h) hb'
  · exact absurd (h i hi) hb

set_option maxRecDepth 100000 in
set_option maxHeartbeats 2000000 in
theorem good_any (d : DevI) (s : St) (k : Kfg) (ep r : Int) (n g : Nat) (w : World) (h : Dev w d s) (hb : Blk w g 79 (logC d k ep n)) (hk : k.Ok) (hl : s.now.length = k.words) (hn : n ≤ k.L) (hr : GoodIs s k n r) :
    Calls Try.prog 20 #[.pointer (some ⟨g, 0, none⟩)] w fun e w' => e = .returned (.int .i64 r) ∧ Keep w.heap.size [] w w' := by
  have hs0 := Sep.two (r := devR d s) (q := blkR g 79 (logC d k ep n)) h hb
  have HB := Lib.hid hb
  have H := Lib.hid h
  have HK := Lib.hid hk
  have HR := Lib.hid hr
  have hkL : (k.L : Int) ≤ 200 := by have := hk.l1; omega
  obtain ⟨w0, w1⟩ := Kfg.words_le hk
  obtain ⟨nw, hnw⟩ : ∃ nw, k.words = nw := ⟨_, rfl⟩
  obtain ⟨na, hna⟩ : ∃ na, k.act = na := ⟨_, rfl⟩
  have hln : s.now.length = nw := hl.trans hnw
  have HLN := Lib.hid hln
  have HNW := Lib.hid hnw
  have HNA := Lib.hid hna
  have hn2 : (n : Int) ≤ 200 := by omega
  rw [hnw, hna] at w0
  rw [hnw] at w1
  clear hs0 h hb hk hl hr hnw hna hln
  go_enter Try.func20, Try.ntmps20
  have HS := Lib.hid (Sep.start w [])
  have c5 := (HB.out.keep HS.out.keep HB.out.lt (by simp)).cell 5
  simp at c5
  go_wp2_with fail
  clear c5
  go_loopw [9] (fun v' wr => ∃ j : Nat, j ≤ n ∧ v' = .int .i64 (j : Int) ∧ (∀ i, i < j → RecOk s k i) ∧ Sep w [] [] wr) (fun v' _ => n - (intOf v').toNat)
  case atStart => exact ⟨0, by omega, by simp, by omega, HS.out⟩
  case round =>
    clear HS
    obtain ⟨j, hj, rfl, hok, hs⟩ := hrel
    have HO := Lib.hid hok
    have HS := Lib.hid hs
    clear hok hs
    by_cases hlt : j < n
    · have hj1 : j ≤ 1000 := by omega
      obtain ⟨m, hm⟩ : ∃ m, 16 + 4 * j = m := ⟨_, rfl⟩
      have hm1 : m ≤ 1000 := by omega
      obtain ⟨y, hy⟩ : ∃ y, s.nw (m + 1) = y := ⟨_, rfl⟩
      have hld : ∀ x : Ext wr, Calls Try.prog 27 #[.pointer (some ⟨d.b, 0, none⟩), .int .i64 ((m : Int) + 1)] x.now fun e w' => e = .returned (.int .u64 y) ∧ x.now = w' := fun x => load_is d s (m + 1) _ _ (H.out.of_new (HS.out.grow x.keep).keep) hy
      have HLD := Lib.hid hld
      have HM := Lib.hid hm
      have hrec : RecOk s k j ↔ ((na : Int) ≤ y ∧ y < nw) := by unfold RecOk; rw [hm, hy, HNA.out, HNW.out]
      have HREC := Lib.hid hrec
      clear hld hm hy hrec
      have c0 : ∀ x : Ext wr, x.now.cell? ⟨g, 0, none⟩ = some (.pointer (some ⟨d.b, 0, none⟩)) := fun x => x.cell (by simpa using (HB.out.keep HS.out.keep HB.out.lt (by simp)).cell 0)
      have c1 : ∀ x : Ext wr, x.now.cell? ⟨g, 1, none⟩ = some (.int .i64 (k.L : Int)) := fun x => x.cell (by simpa using (HB.out.keep HS.out.keep HB.out.lt (by simp)).cell 1)
      have c2 : ∀ x : Ext wr, x.now.cell? ⟨g, 2, none⟩ = some (.int .i64 (k.R : Int)) := fun x => x.cell (by simpa using (HB.out.keep HS.out.keep HB.out.lt (by simp)).cell 2)
      have c3 : ∀ x : Ext wr, x.now.cell? ⟨g, 3, none⟩ = some (.int .i64 (k.S : Int)) := fun x => x.cell (by simpa using (HB.out.keep HS.out.keep HB.out.lt (by simp)).cell 3)
      go_wp2_with fail
      refine wp_region_ext (by kernel_rfl) (by kernel_rfl) ?_
      repeat (go_big_quiet_step ((first | (go_at_call 16; with_reducible exact Calls.ext (krecord_eq k _ HK.out j m hj1 HM.out)) | (go_at_call 27; with_reducible exact Calls.ext_same (HLD.out _)))))
      refine wpQuiet_nil ?_
      rintro _ ⟨x, rfl⟩
      replace HS := Lib.hid (HS.out.grow x.keep)
      clear c0 c1 c2 c3
      have c1 := (HB.out.keep HS.out.keep HB.out.lt (by simp)).cell 1
      simp at c1
      have c2 := (HB.out.keep HS.out.keep HB.out.lt (by simp)).cell 2
      simp at c2
      have c3 := (HB.out.keep HS.out.keep HB.out.lt (by simp)).cell 3
      simp at c3
      go_wp2_with fail
      refine (kactive k _ HK.out).mono ?_
      rintro e w1 ⟨rfl, hk⟩
      replace HS := Lib.hid (HS.out.grow hk)
      clear hk
      rw [HNA.out]
      by_cases hlow : y < (na : Int)
      · have hd : decide (y < (na : Int)) = true := by simpa using hlow
        go_wp2
        go_ret
        have hr := HR.out.at HO.out hlt (by rw [HREC.out]; omega)
        rw [hr]
        exact ⟨rfl, HS.out.keep⟩
      · have hd : decide (y < (na : Int)) = false := by simpa using hlow
        clear c1 c2 c3
        have c0 := (HB.out.keep HS.out.keep HB.out.lt (by simp)).cell 0
        simp at c0
        go_wp2_with fail
        refine (len_any d s _ (H.out.of_new HS.out.keep)).mono ?_
        rintro e w' ⟨rfl, rfl⟩
        rw [HLN.out]
        by_cases hhi : (nw : Int) ≤ y
        · have hd2 : decide ((nw : Int) ≤ y) = true := by simpa using hhi
          go_wp2
          go_ret
          have hr := HR.out.at HO.out hlt (by rw [HREC.out]; omega)
          rw [hr]
          exact ⟨rfl, HS.out.keep⟩
        · have hd2 : decide ((nw : Int) ≤ y) = false := by simpa using hhi
          go_wp2
          refine ⟨⟨j + 1, by omega, by simp, ?_, HS.out⟩, by simp [intOf]; omega⟩
          intro i hi
          rcases Nat.lt_or_ge i j with h | h
          · exact HO.out i h
          · obtain rfl : i = j := by omega
            rw [HREC.out]
            omega
    · obtain rfl : j = n := by omega
      go_wp2
      go_ret
      have hr := HR.out.none HO.out
      rw [hr]
      exact ⟨rfl, HS.out.keep⟩
end Go.Proofs.Ythfelcnhkabdhaa
