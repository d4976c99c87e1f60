/-
  RootsHas: the walk.
-/
import Derived.Test.YtaophnicdbmojaaAwk8
set_option linter.unusedSimpArgs false
set_option linter.unusedVariables false
set_option maxRecDepth 100000
namespace Go.Proofs.Ytaophnicdbmojaa
open Go.RowKit Go.Shelf

theorem bit1_u8 (x : Int) (h0 : 0 ≤ x) (h1 : x ≤ 255) : ∃ a : Nat, wrap64 (bits .and .u8 x 1) = (a : Int) ∧ a ≤ 1 := by
  have hw : ∀ n : Int, 0 ≤ n → n < 2 ^ 8 → IntKind.u8.wrap n = n := fun n h0 h1 => by rw [IntKind.wrap_u8]; omega
  have h := bits_mask .u8 8 (by decide) hw 1 (by decide) x h0 (by omega)
  have h2 : bits .and .u8 x 1 = x % 2 := by simpa using h
  refine ⟨(x % 2).toNat, ?_, by omega⟩
  rw [h2]
  unfold wrap64
  omega

set_option maxHeartbeats 4000000 in
theorem RootsHas.core (l r s x y : Int) (w : World) (l0 : 0 ≤ l) (l1 : l ≤ 65535) (r0 : 0 ≤ r) (r1 : r ≤ 65535) (s0 : 0 ≤ s) (s1 : s ≤ 65535) (x0 : 0 ≤ x) (x1 : x ≤ 255) (y0 : 0 ≤ y) (y1 : y ≤ 65535) :
    Calls Try.prog 4 #[.agg #[.int .u16 l, .int .u16 r, .int .u16 s], .int .u8 x, .int .u16 y] w fun e w' => e = .returned (.bool true) ∧ Keep w.heap.size [] w w' := by
  have HS := Lib.hid ((Sep.start w []).new 24 #[.int .u16 l, .int .u16 r, .int .u16 s])
  go_enter Try.func4, Try.ntmps4
  go_wp2_with fail
  generalize w.alloc _ = w2 at *
  generalize w.heap.size = gx at *
  refine (awake8_any _).mono ?_
  rintro e w1 ⟨rfl, hk⟩
  replace HS := Lib.hid (HS.out.grow hk)
  clear hk
  have c0 := (HS.out.blk 0 rfl).cell 0
  simp at c0
  have c1 := (HS.out.blk 0 rfl).cell 1
  simp at c1
  have c2 := (HS.out.blk 0 rfl).cell 2
  simp at c2
  go_wp2_with fail
  refine (kmake l r s _ l0 l1 r0 r1 s0 s1).mono ?_
  rintro e w3 ⟨k, hk, hL, hR, hS, rfl, hkk⟩
  simp only [Kfg.cells]
  replace HS := Lib.hid ((HS.out.grow hkk).new 29 #[.int .i64 (k.L : Int), .int .i64 (k.R : Int), .int .i64 (k.S : Int)])
  have HK := Lib.hid hk
  clear hkk hk c0 c1 c2
  have hkS : k.S ≤ 4096 := by have := HK.out.s1; omega
  obtain ⟨a, hga, ha1⟩ := bit1_u8 x x0 x1
  obtain ⟨u, hu, hu1⟩ : ∃ u : Nat, y % ((k.S : Int) + 1) = (u : Int) ∧ u ≤ k.S := by
    have h1 := Int.emod_nonneg y (show ((k.S : Int) + 1) ≠ 0 by omega)
    have h2 := Int.emod_lt_of_pos y (show 0 < ((k.S : Int) + 1) by omega)
    exact ⟨(y % ((k.S : Int) + 1)).toNat, by omega, by omega⟩
  go_wp2_with fail
  replace HS := Lib.hid (HS.out.new 39 #[.int .i64 (a : Int), .int .i64 (u : Int), .slice none 0 0])
  rw [show (w3.alloc (.cells #[.int .i64 (k.L : Int), .int .i64 (k.R : Int), .int .i64 (k.S : Int)] 29)).heap.size = w3.heap.size + 1 by simp] at HS
  generalize (w3.alloc _).alloc _ = w4 at *
  generalize w3.heap.size = gk at *
  generalize gk + 1 = gb at *
  refine (kwords k _ HK.out).mono ?_
  rintro e w5 ⟨rfl, hkk⟩
  replace HS := Lib.hid (HS.out.grow hkk)
  clear hkk hga hu
  obtain ⟨nw, hnw⟩ : ∃ nw, k.words = nw := ⟨_, rfl⟩
  obtain ⟨f, hf⟩ : ∃ f, k.from_ a = f := ⟨_, rfl⟩
  obtain ⟨hf1, hf2, hf3⟩ : k.from_ 0 ≤ f ∧ f + u ≤ nw ∧ nw ≤ 10000 := by
    rw [← hnw, ← hf]
    have h1 := Kfg.from_words HK.out (a := a) (by omega)
    have h2 := Kfg.from_words HK.out (a := a + 1) (by omega)
    have h3 := k.from_step a
    have h4 := (up8_le k.S).1
    omega
  have HF := Lib.hid hf
  have HNW := Lib.hid hnw
  rw [hnw]
  clear hf hnw
  have hhas : ∀ (z : Int) (b : Bool) (w : World), 0 ≤ z → z ≤ 18446744073709551615 → (decide ((f : Int) ≤ z) && decide (z < (f + u : Nat))) = b → Calls Try.prog 26 #[.agg #[.int .i64 (a : Int), .int .i64 (u : Int), .slice none 0 0], .agg #[.int .i64 (k.L : Int), .int .i64 (k.R : Int), .int .i64 (k.S : Int)], .int .u64 z] w fun e w' => e = .returned (.bool b) ∧ Keep w.heap.size [] w w' := fun z b w z0 z1 hb => by
    have := has_is k a u z (.slice none 0 0) w HK.out (by omega) (by omega) ⟨z0, z1⟩
    unfold hasB at this
    rw [HF.out, hb] at this
    exact this
  have hplc : ∀ (i m : Nat) (w : World), f + i = m → i ≤ 100000 → Calls Try.prog 25 #[.agg #[.int .i64 (a : Int), .int .i64 (u : Int), .slice none 0 0], .agg #[.int .i64 (k.L : Int), .int .i64 (k.R : Int), .int .i64 (k.S : Int)], .int .i64 (i : Int)] w fun e w' => e = .returned (.int .i64 (m : Int)) ∧ Keep w.heap.size [] w w' := fun i m w hm hi =>
    place_is k a u i m (.slice none 0 0) w HK.out (by omega) (by rw [HF.out]; exact hm) (by omega)
  have HHAS := Lib.hid hhas
  have HPLC := Lib.hid hplc
  clear hhas hplc
  go_wp2_with fail
  go_loopw [9, 28] (fun v1 v2 wr => ∃ j : Nat, j ≤ nw + 20 ∧ v1 = .int .i64 ((min j (f + u) - f : Nat) : Int) ∧ v2 = .int .i64 (j : Int) ∧ Sep w [] [blkR gx 24 #[.int .u16 l, .int .u16 r, .int .u16 s], blkR gk 29 #[.int .i64 (k.L : Int), .int .i64 (k.R : Int), .int .i64 (k.S : Int)], blkR gb 39 #[.int .i64 (a : Int), .int .i64 (u : Int), .slice none 0 0]] wr) (fun _ v2 _ => nw + 20 - (intOf v2).toNat)
  case atStart => exact ⟨0, by omega, by simp, rfl, HS.out⟩
  case round =>
    clear HS
    obtain ⟨j, hj, rfl, rfl, hs⟩ := hrel
    have HS := Lib.hid hs
    clear hs
    obtain ⟨n, hn⟩ : ∃ n, min j (f + u) - f = n := ⟨_, rfl⟩
    have hn2 : (n : Int) ≤ 20000 := by omega
    have hj2 : (j : Int) ≤ 20000 := by omega
    have hnw2 : (nw : Int) ≤ 10000 := by omega
    have hfu2 : f + u ≤ 10000 := by omega
    rw [hn]
    by_cases hlt : j < nw + 20
    · have hw : IntKind.u64.wrap (j : Int) = (j : Int) := by rw [IntKind.wrap_u64]; omega
      have c0 := (HS.out.blk 1 rfl).cell 0
      simp at c0
      have b0 := (HS.out.blk 2 rfl).cell 0
      simp at b0
      have c1 := (HS.out.blk 1 rfl).cell 1
      simp at c1
      have b1 := (HS.out.blk 2 rfl).cell 1
      simp at b1
      have c2 := (HS.out.blk 1 rfl).cell 2
      simp at c2
      have b2 := (HS.out.blk 2 rfl).cell 2
      simp at b2
      by_cases hin : f ≤ j ∧ j < f + u
      · have hdec : (decide ((f : Int) ≤ (j : Int)) && decide ((j : Int) < (f + u : Nat))) = true := by simp; omega
        have h0 : f + 0 = f := rfl
        have hp0 := fun w => HPLC.out 0 f w h0 (by omega)
        rw [show ((0 : Nat) : Int) = 0 from rfl] at hp0
        have HP0 := Lib.hid hp0
        have hn1 : min (j + 1) (f + u) - f = n + 1 := by omega
        have HN1 := Lib.hid hn1
        have HN := Lib.hid hn
        have e1 : ((j : Int) < (f : Int)) = False := by simp; omega
        obtain ⟨m, hm⟩ : ∃ m, f + u = m := ⟨_, rfl⟩
        have e2 : ((j : Int) ≥ (m : Int)) = False := by simp; omega
        have HM := Lib.hid hm
        clear hp0 hn1 hn h0 hm
        go_wp2_with fail
        refine (HHAS.out j true _ (by omega) (by omega) hdec).mono ?_
        rintro e w6 ⟨rfl, hkk⟩
        replace HS := Lib.hid (HS.out.grow hkk)
        clear hkk c0 c1 c2 b0 b1 b2 hdec
        have c0 := (HS.out.blk 1 rfl).cell 0
        simp at c0
        have b0 := (HS.out.blk 2 rfl).cell 0
        simp at b0
        have c1 := (HS.out.blk 1 rfl).cell 1
        simp at c1
        have b1 := (HS.out.blk 2 rfl).cell 1
        simp at b1
        have c2 := (HS.out.blk 1 rfl).cell 2
        simp at c2
        have b2 := (HS.out.blk 2 rfl).cell 2
        simp at b2
        go_wp2_with fail
        refine (HP0.out _).mono ?_
        rintro e w1 ⟨rfl, hk⟩
        replace HS := Lib.hid (HS.out.grow hk)
        clear hk
        clear c0 c1 c2 b0 b1 b2
        have c0 := (HS.out.blk 1 rfl).cell 0
        simp at c0
        have b0 := (HS.out.blk 2 rfl).cell 0
        simp at b0
        have c1 := (HS.out.blk 1 rfl).cell 1
        simp at c1
        have b1 := (HS.out.blk 2 rfl).cell 1
        simp at b1
        have c2 := (HS.out.blk 1 rfl).cell 2
        simp at c2
        have b2 := (HS.out.blk 2 rfl).cell 2
        simp at b2
        go_wp2_with fail
        refine (HPLC.out u m _ HM.out (by omega)).mono ?_
        rintro e w1 ⟨rfl, hk⟩
        replace HS := Lib.hid (HS.out.grow hk)
        clear hk
        go_wp2
        refine ⟨⟨j + 1, by omega, ?_, by first | rfl | go_num | simp, HS.out⟩, by simp [intOf]; omega⟩
        rw [HN1.out]
        first | rfl | go_num | simp
      · have hdec : (decide ((f : Int) ≤ (j : Int)) && decide ((j : Int) < (f + u : Nat))) = false := by simp; omega
        have hn1 : min (j + 1) (f + u) - f = n := by omega
        have HN1 := Lib.hid hn1
        have HN := Lib.hid hn
        clear hn1 hn
        go_wp2_with fail
        refine (HHAS.out j false _ (by omega) (by omega) hdec).mono ?_
        rintro e w6 ⟨rfl, hkk⟩
        replace HS := Lib.hid (HS.out.grow hkk)
        clear hkk c0 c1 c2 b0 b1 b2 hdec
        go_wp2
        refine ⟨⟨j + 1, by omega, ?_, by first | rfl | go_num | simp, HS.out⟩, by simp [intOf]; omega⟩
        rw [HN1.out]
    · have hlt' : ¬ (j : Int) < (nw : Int) + 20 := by omega
      obtain rfl : n = u := by omega
      obtain ⟨m, hm⟩ : ∃ m, f + n = m := ⟨_, rfl⟩
      have hm2 : (m : Int) ≤ 10000 := by omega
      have hw : IntKind.u64.wrap (m : Int) = (m : Int) := by rw [IntKind.wrap_u64]; omega
      have hh1 := fun w => HHAS.out 9223372036854775808 false w (by omega) (by omega) (by simp; omega)
      have hh2 := fun w => HHAS.out (m : Int) false w (by omega) (by omega) (by simp; omega)
      have HH1 := Lib.hid hh1
      have HH2 := Lib.hid hh2
      have HM := Lib.hid hm
      clear hh1 hh2 hm hn
      have c0 : ∀ x : Ext wr, x.now.cell? ⟨gk, 0, none⟩ = some (.int .i64 (k.L : Int)) := fun x => x.cell (by simpa using (HS.out.blk 1 rfl).cell 0)
      have c1 : ∀ x : Ext wr, x.now.cell? ⟨gk, 1, none⟩ = some (.int .i64 (k.R : Int)) := fun x => x.cell (by simpa using (HS.out.blk 1 rfl).cell 1)
      have c2 : ∀ x : Ext wr, x.now.cell? ⟨gk, 2, none⟩ = some (.int .i64 (k.S : Int)) := fun x => x.cell (by simpa using (HS.out.blk 1 rfl).cell 2)
      have b0 : ∀ x : Ext wr, x.now.cell? ⟨gb, 0, none⟩ = some (.int .i64 (a : Int)) := fun x => x.cell (by simpa using (HS.out.blk 2 rfl).cell 0)
      have b1 : ∀ x : Ext wr, x.now.cell? ⟨gb, 1, none⟩ = some (.int .i64 (n : Int)) := fun x => x.cell (by simpa using (HS.out.blk 2 rfl).cell 1)
      have b2 : ∀ x : Ext wr, x.now.cell? ⟨gb, 2, none⟩ = some (.slice none 0 0) := fun x => x.cell (by simpa using (HS.out.blk 2 rfl).cell 2)
      go_wp2_with fail
      refine wp_region_ext (by kernel_rfl) (by kernel_rfl) ?_
      repeat (go_big_quiet_step ((first | (go_at_call 26; with_reducible exact Calls.ext (HH1.out _)) | (go_at_call 26; with_reducible exact Calls.ext (HH2.out _)) | (go_at_call 25; with_reducible exact Calls.ext (HPLC.out n m _ HM.out (by omega))))))
      refine wpQuiet_nil ?_
      rintro _ ⟨x, rfl⟩
      replace HS := Lib.hid (HS.out.grow x.keep)
      go_wp2
      go_ret
      exact ⟨by simp, HS.out.keep⟩

theorem RootsHas.walk {w : World} (l r s : Int) (h : (lowest .u16 ≤ l ∧ l ≤ greatest .u16) ∧ (lowest .u16 ≤ r ∧ r ≤ greatest .u16) ∧ (lowest .u16 ≤ s ∧ s ≤ greatest .u16)) (a : Int) (a0 : lowest .u8 ≤ a) (a1 : a ≤ greatest .u8) (v : Int) (v0 : lowest .u16 ≤ v) (v1 : v ≤ greatest .u16) :
    Calls Try.prog 4 #[.agg #[.int .u16 l, .int .u16 r, .int .u16 s], .int .u8 a, .int .u16 v] w fun e w' => e = .returned (.bool true) ∧ Below w.heap.size w w' := by
  obtain ⟨⟨l0, l1⟩, ⟨r0, r1⟩, s0, s1⟩ := h
  simp [lowest, greatest] at l0 l1 r0 r1 s0 s1 v0 v1 a0 a1
  exact (RootsHas.core l r s a v w l0 l1 r0 r1 s0 s1 a0 a1 v0 v1).mono fun e w' ⟨he, hk⟩ => ⟨he, hk.below⟩
end Go.Proofs.Ytaophnicdbmojaa
