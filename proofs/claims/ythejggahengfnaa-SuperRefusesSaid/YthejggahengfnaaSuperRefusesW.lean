/-
  The walk of tumuluslaw05.SuperRefuses.
-/
import Derived.Test.YthejggahengfnaaFmtNo
set_option linter.unusedSimpArgs false
set_option linter.unusedVariables false
namespace Go.Proofs.Ythejggahengfnaa
open Go.RowKit Go.Shelf

theorem zeros_all (n : Nat) (h : n % 8 = 0) : ∀ j, j < (St.fresh (-1) 0 (zeros n)).now.length → (St.fresh (-1) 0 (zeros n)).nw j = 0 := fun j _ => zeros_nw n j
theorem rd_zeros {w : World} {g n : Nat} (h : Blk w g 27 (uw (zeros n)).toArray) : Rd w (.slice (some ⟨g, 0, none⟩) n n) (uw (zeros n)) := by
  have := Rd.of_uw (w := w) (n := n) (ex := []) (xs := zeros n) (by rw [List.append_nil]; exact h)
  rwa [zeros_length] at this

set_option maxRecDepth 100000 in
set_option maxHeartbeats 2000000 in
theorem SuperRefuses.core (l r s m a b c : Int) (w : World) (l0 : 0 ≤ l) (l1 : l ≤ 65535) (r0 : 0 ≤ r) (r1 : r ≤ 65535) (s0 : 0 ≤ s) (s1 : s ≤ 65535) (m0 : 0 ≤ m) (m1 : m ≤ 255) :
    Calls Try.prog 11 #[.agg #[.int .u16 l, .int .u16 r, .int .u16 s], .int .u8 m, .int .i64 a, .int .i64 b, .int .i64 c] w fun e w' => e = .returned (.bool true) ∧ Keep w.heap.size [] w w' := by
  have HS := Lib.hid ((Sep.start w []).new 40 #[.int .u16 l, .int .u16 r, .int .u16 s])
  obtain ⟨E, hE⟩ : ∃ E, errIf (Cfg.okB ⟨a, b, c⟩) = E := ⟨_, rfl⟩
  have he01 : E = 0 ∨ E = 1 := by rw [← hE]; unfold errIf; split <;> simp
  have hck : ∀ w, Calls Try.prog 32 #[.agg #[.int .i64 a, .int .i64 b, .int .i64 c]] w fun e w' => e = .returned (.int .i64 E) ∧ Keep w.heap.size [] w w' := fun w => by
    have := check_any ⟨a, b, c⟩ w
    rw [hE] at this
    exact this
  have HCK := Lib.hid hck
  have HE01 := Lib.hid he01
  have HEQ := Lib.hid hE
  clear hck he01 hE
  go_enter Try.func11, Try.ntmps11
  go_wp2_with fail
  generalize w.alloc _ = w2 at *
  generalize w.heap.size = gx at *
  refine (awake5_any _).mono ?_
  rintro e w1 ⟨rfl, hk⟩
  replace HS := Lib.hid (HS.out.grow hk)
  clear hk
  have c0 := (HS.out.blk 0 rfl).cell 0
  simp at c0
  have c1 := (HS.out.blk 0 rfl).cell 1
  simp at c1
  have c2 := (HS.out.blk 0 rfl).cell 2
  simp at c2
  go_wp2_with fail
  refine (kmake l r s _ l0 l1 r0 r1 s0 s1).mono ?_
  rintro e w3 ⟨k, hk, hL, hR, hS, rfl, hkk⟩
  simp only [Kfg.cells]
  replace HS := Lib.hid ((HS.out.grow hkk).new 43 #[.int .i64 (k.L : Int), .int .i64 (k.R : Int), .int .i64 (k.S : Int)])
  have HK := Lib.hid hk
  clear hkk hk c0 c1 c2
  go_wp2_with fail
  generalize w3.alloc _ = w4 at *
  generalize w3.heap.size = gk at *
  refine (kwords k _ HK.out).mono ?_
  rintro e w1 ⟨rfl, hk⟩
  replace HS := Lib.hid (HS.out.grow hk)
  clear hk
  obtain ⟨kw, hkw⟩ : ∃ kw, k.words = kw := ⟨_, rfl⟩
  have hkl : kw ≤ 10000 := by rw [← hkw]; exact (Kfg.words_le HK.out).2
  obtain ⟨n, hn⟩ : ∃ n : Nat, (kw : Int) + 8 * (m % 5) = n := ⟨((kw : Int) + 8 * (m % 5)).toNat, by omega⟩
  have hn8 : n % 8 = 0 := by have := k.words_mod; omega
  have hnl : n ≤ 11000 := by omega
  have hmk := fun w => make_zeros n w (by omega)
  have HKW := Lib.hid hkw
  have HN := Lib.hid hn
  have HN8 := Lib.hid hn8
  rw [hkw]
  clear hkw hn8
  replace HS := Lib.hid (HS.out.new 27 (uw (zeros n)).toArray)
  go_wp2_with fail
  clear hmk hn
  generalize w1.alloc _ = w5 at *
  generalize w1.heap.size = gz at *
  refine (new2_any _ (zeros n) _ (rd_zeros (HS.out.blk 2 rfl)) (by rw [zeros_length]; omega)).mono ?_
  rintro e w1 ⟨d, rfl, hdb, hd, hk⟩
  replace HS := Lib.hid (HS.out.add hk (r := devR d _) hd hdb)
  clear hdb hd hk
  have hI : (St.fresh (-1) 0 (zeros n)).Is n := zeros_is n HN8.out _ _
  have HI := Lib.hid hI
  clear hI
  have c0 := (HS.out.blk 1 rfl).cell 0
  simp at c0
  have c1 := (HS.out.blk 1 rfl).cell 1
  simp at c1
  have c2 := (HS.out.blk 1 rfl).cell 2
  simp at c2
  by_cases hm : m % 5 = 0
  · have hnk : n = kw := by have := HN.out; omega
    have HNK := Lib.hid hnk
    clear hnk
    go_wp2_with fail
    refine (format_any d _ k _ (HS.out.dev 3 rfl) HK.out (by rw [HI.out.now, HNK.out, HKW.out])).mono ?_
    rintro e w6 hp
    obtain ⟨rfl, hd, hkk⟩ := hp.free (by show (-1 : Int) < 0; decide)
    replace HS := Lib.hid (HS.out.did (i := 3) rfl hd hkk)
    clear hp hd hkk c0 c1 c2
    have hq1 : (m % 5 == 0) = true := by rw [beq_iff_eq]; exact hm
    have hq2 : decide (0 < m % 5) = false := by simp; omega
    clear hm
    obtain ⟨wq, rfl⟩ : ∃ wq : World, wq = w6 := ⟨_, rfl⟩
    replace HS := Lib.hid (HS.out.new 43 #[.int .i64 a, .int .i64 b, .int .i64 c])
    go_wp2_with fail
    generalize wq.alloc _ = w8 at *
    generalize wq.heap.size = gb at *
    refine (HCK.out _).mono ?_
    rintro e w1 ⟨rfl, hk⟩
    replace HS := Lib.hid (HS.out.grow hk)
    clear hk
    by_cases hz : E = 0
    · subst hz
      go_wp2
      go_ret
      exact ⟨rfl, HS.out.keep⟩
    · obtain rfl : E = 1 := HE01.out.resolve_left hz
      clear hz
      have hmk : ∀ w, (Instr.makeSlice 41 (.int .i64 56) (.int .i64 56)).run Try.prog w = .ok (.slice (some ⟨w.heap.size, 0, none⟩) 56 56) (w.alloc (.cells (uw (zeros 56)).toArray 27)) := fun w => make_zeros 56 w (by decide)
      replace HS := Lib.hid (HS.out.new 27 (uw (zeros 56)).toArray)
      go_wp2_with fail
      clear hmk
      generalize w1.alloc _ = w9 at *
      generalize w1.heap.size = gz2 at *
      refine (new2_any _ (zeros 56) _ (rd_zeros (HS.out.blk 5 rfl)) (by rw [zeros_length]; decide)).mono ?_
      rintro e w1 ⟨d2, rfl, hdb, hd, hk⟩
      replace HS := Lib.hid (HS.out.add hk (r := devR d2 _) hd hdb)
      clear hdb hd hk
      have c0 := (HS.out.blk 4 rfl).cell 0
      simp at c0
      have c1 := (HS.out.blk 4 rfl).cell 1
      simp at c1
      have c2 := (HS.out.blk 4 rfl).cell 2
      simp at c2
      go_wp2_with fail
      refine (format_bad d2 _ a b c _ (HS.out.dev 6 rfl) HEQ.out).mono ?_
      rintro e w1 ⟨rfl, hk⟩
      replace HS := Lib.hid (HS.out.grow hk)
      clear hk
      clear c0 c1 c2
      go_wp2_with fail
      refine (zero_any d2 _ _ (HS.out.dev 6 rfl) (zeros_all 56 (by decide))).mono ?_
      rintro e w1 ⟨rfl, hk⟩
      replace HS := Lib.hid (HS.out.grow hk)
      clear hk
      go_wp2
      go_ret
      exact ⟨rfl, HS.out.keep⟩
  · have hnk : n ≠ kw := by have := HN.out; omega
    have HNK := Lib.hid hnk
    clear hnk
    go_wp2_with fail
    refine (format_size d _ k _ (HS.out.dev 3 rfl) HK.out (by rw [HI.out.now, HKW.out]; exact HNK.out)).mono ?_
    rintro e w1 ⟨rfl, hk⟩
    replace HS := Lib.hid (HS.out.grow hk)
    clear hk
    clear c0 c1 c2
    have hq1 : (m % 5 == 0) = false := by rw [beq_eq_false_iff_ne]; exact hm
    have hq2 : 0 < m % 5 := by omega
    clear hm
    go_wp2_with fail
    refine (zero_any d _ _ (HS.out.dev 3 rfl) (zeros_all n HN8.out)).mono ?_
    rintro e w1 ⟨rfl, hk⟩
    replace HS := Lib.hid (HS.out.grow hk)
    clear hk
    obtain ⟨wq, rfl⟩ : ∃ wq : World, wq = w1 := ⟨_, rfl⟩
    replace HS := Lib.hid (HS.out.new 43 #[.int .i64 a, .int .i64 b, .int .i64 c])
    go_wp2_with fail
    generalize wq.alloc _ = w8 at *
    generalize wq.heap.size = gb at *
    refine (HCK.out _).mono ?_
    rintro e w1 ⟨rfl, hk⟩
    replace HS := Lib.hid (HS.out.grow hk)
    clear hk
    by_cases hz : E = 0
    · subst hz
      go_wp2
      go_ret
      exact ⟨rfl, HS.out.keep⟩
    · obtain rfl : E = 1 := HE01.out.resolve_left hz
      clear hz
      have hmk : ∀ w, (Instr.makeSlice 41 (.int .i64 56) (.int .i64 56)).run Try.prog w = .ok (.slice (some ⟨w.heap.size, 0, none⟩) 56 56) (w.alloc (.cells (uw (zeros 56)).toArray 27)) := fun w => make_zeros 56 w (by decide)
      replace HS := Lib.hid (HS.out.new 27 (uw (zeros 56)).toArray)
      go_wp2_with fail
      clear hmk
      generalize w1.alloc _ = w9 at *
      generalize w1.heap.size = gz2 at *
      refine (new2_any _ (zeros 56) _ (rd_zeros (HS.out.blk 5 rfl)) (by rw [zeros_length]; decide)).mono ?_
      rintro e w1 ⟨d2, rfl, hdb, hd, hk⟩
      replace HS := Lib.hid (HS.out.add hk (r := devR d2 _) hd hdb)
      clear hdb hd hk
      have c0 := (HS.out.blk 4 rfl).cell 0
      simp at c0
      have c1 := (HS.out.blk 4 rfl).cell 1
      simp at c1
      have c2 := (HS.out.blk 4 rfl).cell 2
      simp at c2
      go_wp2_with fail
      refine (format_bad d2 _ a b c _ (HS.out.dev 6 rfl) HEQ.out).mono ?_
      rintro e w1 ⟨rfl, hk⟩
      replace HS := Lib.hid (HS.out.grow hk)
      clear hk
      clear c0 c1 c2
      go_wp2_with fail
      refine (zero_any d2 _ _ (HS.out.dev 6 rfl) (zeros_all 56 (by decide))).mono ?_
      rintro e w1 ⟨rfl, hk⟩
      replace HS := Lib.hid (HS.out.grow hk)
      clear hk
      go_wp2
      go_ret
      exact ⟨rfl, HS.out.keep⟩

theorem SuperRefuses.walk {w : World} (l r s : Int) (h : (lowest .u16 ≤ l ∧ l ≤ greatest .u16) ∧ (lowest .u16 ≤ r ∧ r ≤ greatest .u16) ∧ (lowest .u16 ≤ s ∧ s ≤ greatest .u16)) (m : Int) (m0 : lowest .u8 ≤ m) (m1 : m ≤ greatest .u8) (a : Int) (_ : lowest .i64 ≤ a) (_ : a ≤ greatest .i64) (b : Int) (_ : lowest .i64 ≤ b) (_ : b ≤ greatest .i64) (c : Int) (_ : lowest .i64 ≤ c) (_ : c ≤ greatest .i64) :
    Calls Try.prog 11 #[.agg #[.int .u16 l, .int .u16 r, .int .u16 s], .int .u8 m, .int .i64 a, .int .i64 b, .int .i64 c] w fun e w' => e = .returned (.bool true) ∧ Below w.heap.size w w' := by
  obtain ⟨⟨l0, l1⟩, ⟨r0, r1⟩, s0, s1⟩ := h
  simp [lowest, greatest] at l0 l1 r0 r1 s0 s1 m0 m1
  exact (SuperRefuses.core l r s m a b c w l0 l1 r0 r1 s0 s1 m0 m1).mono fun e w' ⟨he, hk⟩ => ⟨he, hk.below⟩
end Go.Proofs.Ythejggahengfnaa
