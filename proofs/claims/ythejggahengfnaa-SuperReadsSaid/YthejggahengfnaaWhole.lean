/-
  tumuluslaw05.Whole, where it is so; tumuluslaw05.Awake.
-/
import Derived.Test.YthejggahengfnaaFmtd
set_option linter.unusedSimpArgs false
set_option linter.unusedVariables false
namespace Go.Proofs.Ythejggahengfnaa
open Go.RowKit Go.Shelf

/-- A new heap's words. -/
structure WholeS (s : St) (k : Kfg) : Prop where
  w0 : s.nw 0 = MAGIC
  w1 : s.nw 1 = k.L
  w2 : s.nw 2 = k.R
  w3 : s.nw 3 = k.S
  w8 : s.nw 8 = 1
  recs : ∀ i, i < k.L → s.nw (16 + 4 * i) = 0
  zer : ∀ i, i < 2 + k.R → s.nw (k.act + i) = 0

theorem load_is (d : DevI) (s : St) (j : Nat) (v : Int) (w : World) (h : Dev w d s) (hv : s.nw j = v) :
    Calls Try.prog 40 #[.pointer (some ⟨d.b, 0, none⟩), .int .i64 j] w fun e w' => e = .returned (.int .u64 v) ∧ w = w' := by
  subst hv; exact load_nat d s j w h

set_option maxRecDepth 100000 in
set_option maxHeartbeats 2000000 in
theorem whole_any (d : DevI) (s : St) (k : Kfg) (w : World) (h : Dev w d s) (hk : k.Ok) (hw : WholeS s k) :
    Calls Try.prog 22 #[.pointer (some ⟨d.b, 0, none⟩), .agg k.cells] w fun e w' => e = .returned (.bool true) ∧ Keep w.heap.size [] w w' := by
  have HS := Lib.hid ((Sep.start w []).new 43 k.cells)
  have H := Lib.hid h
  have HK := Lib.hid hk
  have HW := Lib.hid hw
  have hkL : (k.L : Int) ≤ 200 := by have := hk.l1; omega
  have hkR : (k.R : Int) ≤ 16 := by have := hk.r1; omega
  have hkS : (k.S : Int) ≤ 4096 := by have := hk.s1; omega
  clear h hk hw
  simp only [Kfg.cells] at HS ⊢
  go_enter Try.func22, Try.ntmps22
  go_wp2_with fail
  generalize w.alloc _ = w2 at *
  generalize w.heap.size = gc at *
  have c0 : ∀ x : Ext w2, x.now.cell? ⟨gc, 0, none⟩ = some (.int .i64 (k.L : Int)) := fun x => x.cell (by simpa using (HS.out.blk 0 rfl).cell 0)
  have c1 : ∀ x : Ext w2, x.now.cell? ⟨gc, 1, none⟩ = some (.int .i64 (k.R : Int)) := fun x => x.cell (by simpa using (HS.out.blk 0 rfl).cell 1)
  have c2 : ∀ x : Ext w2, x.now.cell? ⟨gc, 2, none⟩ = some (.int .i64 (k.S : Int)) := fun x => x.cell (by simpa using (HS.out.blk 0 rfl).cell 2)
  have hdv : ∀ x : Ext w2, Dev x.now d s := fun x => H.out.of_new (HS.out.grow x.keep).keep
  have h0 : ∀ x : Ext w2, Calls Try.prog 40 #[.pointer (some ⟨d.b, 0, none⟩), .int .i64 0] x.now fun e w' => e = .returned (.int .u64 6076848300954571569) ∧ x.now = w' := fun x => load_is d s 0 _ _ (hdv x) HW.out.w0
  have h1 : ∀ x : Ext w2, Calls Try.prog 40 #[.pointer (some ⟨d.b, 0, none⟩), .int .i64 1] x.now fun e w' => e = .returned (.int .u64 (k.L : Int)) ∧ x.now = w' := fun x => load_is d s 1 _ _ (hdv x) HW.out.w1
  have h2 : ∀ x : Ext w2, Calls Try.prog 40 #[.pointer (some ⟨d.b, 0, none⟩), .int .i64 2] x.now fun e w' => e = .returned (.int .u64 (k.R : Int)) ∧ x.now = w' := fun x => load_is d s 2 _ _ (hdv x) HW.out.w2
  have h3 : ∀ x : Ext w2, Calls Try.prog 40 #[.pointer (some ⟨d.b, 0, none⟩), .int .i64 3] x.now fun e w' => e = .returned (.int .u64 (k.S : Int)) ∧ x.now = w' := fun x => load_is d s 3 _ _ (hdv x) HW.out.w3
  have h8 : ∀ x : Ext w2, Calls Try.prog 40 #[.pointer (some ⟨d.b, 0, none⟩), .int .i64 8] x.now fun e w' => e = .returned (.int .u64 1) ∧ x.now = w' := fun x => load_is d s 8 _ _ (hdv x) HW.out.w8
  have H0 := Lib.hid h0
  have H1 := Lib.hid h1
  have H2 := Lib.hid h2
  have H3 := Lib.hid h3
  have H8 := Lib.hid h8
  clear hdv h0 h1 h2 h3 h8
  refine wp_region_ext (by kernel_rfl) (by kernel_rfl) ?_
  repeat (go_big_quiet_step ((first | (go_at_call 40; with_reducible exact Calls.ext_same (H0.out _)) | (go_at_call 40; with_reducible exact Calls.ext_same (H1.out _)) | (go_at_call 40; with_reducible exact Calls.ext_same (H2.out _)) | (go_at_call 40; with_reducible exact Calls.ext_same (H3.out _)) | (go_at_call 40; with_reducible exact Calls.ext_same (H8.out _)))))
  refine wpQuiet_nil ?_
  rintro _ ⟨x, rfl⟩
  replace HS := Lib.hid (HS.out.grow x.keep)
  clear c0 c1 c2 H0 H1 H2 H3 H8
  have c0 := (HS.out.blk 0 rfl).cell 0
  simp at c0
  go_wp2_with fail
  clear c0
  go_loopw [41] (fun v' wr => ∃ j : Nat, j ≤ k.L ∧ v' = .int .i64 (j : Int) ∧ Sep w [] [blkR gc 43 #[.int .i64 (k.L : Int), .int .i64 (k.R : Int), .int .i64 (k.S : Int)]] wr) (fun v' _ => k.L - (intOf v').toNat)
  case atStart => exact ⟨0, by omega, rfl, HS.out⟩
  case round =>
    clear HS
    obtain ⟨j, hj, rfl, hs⟩ := hrel
    have HS := Lib.hid hs
    clear hs
    have c0 := (HS.out.blk 0 rfl).cell 0
    simp at c0
    have c1 := (HS.out.blk 0 rfl).cell 1
    simp at c1
    have c2 := (HS.out.blk 0 rfl).cell 2
    simp at c2
    by_cases hlt : j < k.L
    · have hltI : (j : Int) < k.L := by omega
      go_wp2_with fail
      refine (krecord k _ HK.out j (by omega)).mono ?_
      rintro e w1 ⟨rfl, hk⟩
      replace HS := Lib.hid (HS.out.grow hk)
      clear hk
      clear c0 c1 c2
      go_wp2_with fail
      refine (load_is d s (16 + 4 * j) 0 _ (H.out.of_new HS.out.keep) (HW.out.recs j hlt)).mono ?_
      rintro e w' ⟨rfl, rfl⟩
      go_wp2
      exact ⟨⟨j + 1, by omega, by go_num, HS.out⟩, by simp [intOf]; omega⟩
    · have hge : (k.L : Int) ≤ j := by omega
      go_wp2_with fail
      refine (kactive k _ HK.out).mono ?_
      rintro e w1 ⟨rfl, hk⟩
      replace HS := Lib.hid (HS.out.grow hk)
      clear hk
      clear c0 c1 c2
      go_wp2_with fail
      go_loopw [6] (fun v' wr => ∃ i n : Nat, n = k.act + i ∧ i ≤ 2 + k.R ∧ v' = .int .i64 (n : Int) ∧ Sep w [] [blkR gc 43 #[.int .i64 (k.L : Int), .int .i64 (k.R : Int), .int .i64 (k.S : Int)]] wr) (fun v' _ => k.act + 2 + k.R - (intOf v').toNat)
      case atStart => exact ⟨0, k.act, rfl, by omega, rfl, HS.out⟩
      case round =>
        clear HS
        obtain ⟨i, n, hn, hi, rfl, hs⟩ := hrel
        have HS := Lib.hid hs
        clear hs
        obtain ⟨m, hm⟩ : ∃ m, k.act + 2 + k.R = m := ⟨_, rfl⟩
        have HM := Lib.hid hm
        have HNN := Lib.hid hn
        have hal := k.act_le
        have c0 := (HS.out.blk 0 rfl).cell 0
        simp at c0
        have c1 := (HS.out.blk 0 rfl).cell 1
        simp at c1
        have c2 := (HS.out.blk 0 rfl).cell 2
        simp at c2
        by_cases hlt2 : i < 2 + k.R
        · have hltI : (n : Int) < (m : Int) := by omega
          have hsm : (n : Int) ≤ 10000 := by omega
          clear hm hn hal
          go_wp2_with fail
          refine (kroot_eq k _ HK.out k.R m (by omega) HM.out).mono ?_
          rintro e w1 ⟨rfl, hk⟩
          replace HS := Lib.hid (HS.out.grow hk)
          clear hk
          clear c0 c1 c2
          go_wp2_with fail
          refine (load_is d s n 0 _ (H.out.of_new HS.out.keep) (by rw [HNN.out]; exact HW.out.zer i hlt2)).mono ?_
          rintro e w' ⟨rfl, rfl⟩
          go_wp2
          have hm := HM.out
          have hn := HNN.out
          exact ⟨⟨i + 1, n + 1, by omega, by omega, by go_num, HS.out⟩, by simp [intOf]; omega⟩
        · have hltI : (m : Int) ≤ (n : Int) := by omega
          clear hm hn hal
          go_wp2_with fail
          refine (kroot_eq k _ HK.out k.R m (by omega) HM.out).mono ?_
          rintro e w1 ⟨rfl, hk⟩
          replace HS := Lib.hid (HS.out.grow hk)
          clear hk
          clear c0 c1 c2
          go_wp2
          go_ret
          exact ⟨rfl, HS.out.keep⟩
end Go.Proofs.Ythejggahengfnaa
