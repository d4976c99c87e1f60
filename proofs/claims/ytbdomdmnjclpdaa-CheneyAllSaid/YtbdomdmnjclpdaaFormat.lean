/-
  super.Format: a row of operations, cut anywhere.
-/
import Derived.Test.YtbdomdmnjclpdaaKfg
set_option linter.unusedSimpArgs false
set_option linter.unusedVariables false
set_option maxRecDepth 100000
namespace Go.Proofs.Ytbdomdmnjclpdaa
open Go.RowKit Go.Shelf

def MAGIC : Int := 6076848300954571569
/-- The records' first words; then the words from some place on: noughts, flushed. -/
def recOp (i : Nat) : List Dop := [.st (16 + 4 * i) 0, .fl (16 + 4 * i)]
def zeroOp (a i : Nat) : List Dop := [.st (a + i) 0, .fl (a + i)]
def cfgOps (k : Kfg) : List Dop := [.st 1 k.L, .st 2 k.R, .st 3 k.S]
def fmt1 : List Dop := [.st 0 0, .fl 0, .fe]
def fmt2 : List Dop := [.st 8 1, .fl 8]
def fmt3 : List Dop := [.fl 0, .fe, .st 0 MAGIC, .fl 0, .fe]
def recOps (n : Nat) : List Dop := (List.range n).flatMap recOp
def zeroOps (a n : Nat) : List Dop := (List.range n).flatMap (zeroOp a)
def fmtOps (k : Kfg) : List Dop := fmt1 ++ cfgOps k ++ fmt2 ++ recOps k.L ++ zeroOps k.act (2 + k.R) ++ fmt3

theorem flatMap_succ {β : Type} (f : Nat → List β) (n : Nat) : (List.range (n + 1)).flatMap f = (List.range n).flatMap f ++ f n := by
  rw [List.range_succ, List.flatMap_append]; simp
theorem flatMap_prefix {β : Type} (f : Nat → List β) {m n : Nat} (h : m ≤ n) : (List.range m).flatMap f <+: (List.range n).flatMap f := by
  induction n with
  | zero => obtain rfl : m = 0 := by omega
            exact List.prefix_rfl
  | succ n ih =>
    by_cases hm : m = n + 1
    · subst hm; exact List.prefix_rfl
    · rw [flatMap_succ f n]; exact (ih (by omega)).trans (List.prefix_append _ _)
theorem recOps_prefix {m n : Nat} (h : m < n) : recOps m ++ recOp m <+: recOps n := by
  have := flatMap_prefix recOp (show m + 1 ≤ n from h)
  rw [flatMap_succ] at this
  exact this
theorem zeroOps_prefix (a : Nat) {m n : Nat} (h : m < n) : zeroOps a m ++ zeroOp a m <+: zeroOps a n := by
  have := flatMap_prefix (zeroOp a) (show m + 1 ≤ n from h)
  rw [flatMap_succ] at this
  exact this

theorem pre1 (k : Kfg) : fmt1 <+: fmtOps k := by unfold fmtOps; simp only [List.append_assoc]; exact List.prefix_append _ _
theorem pre2 (k : Kfg) : fmt1 ++ cfgOps k <+: fmtOps k := by unfold fmtOps; simp only [List.append_assoc]; exact ⟨_, by simp only [List.append_assoc]; rfl⟩
theorem pre3 (k : Kfg) : fmt1 ++ cfgOps k ++ fmt2 <+: fmtOps k := by unfold fmtOps; exact ⟨recOps k.L ++ zeroOps k.act (2 + k.R) ++ fmt3, by simp only [List.append_assoc]⟩
theorem pre4 (k : Kfg) : fmt1 ++ cfgOps k ++ fmt2 ++ recOps k.L <+: fmtOps k := by unfold fmtOps; exact ⟨zeroOps k.act (2 + k.R) ++ fmt3, by simp only [List.append_assoc]⟩
theorem pre5 (k : Kfg) : fmt1 ++ cfgOps k ++ fmt2 ++ recOps k.L ++ zeroOps k.act (2 + k.R) <+: fmtOps k := List.prefix_append _ _
theorem rec_pre1 (k : Kfg) {j : Nat} (h : j < k.L) : (fmt1 ++ cfgOps k ++ fmt2 ++ recOps j) ++ [.st (16 + 4 * j) 0] <+: fmtOps k := by
  obtain ⟨x, hx⟩ := recOps_prefix h
  refine List.IsPrefix.trans ⟨[.fl (16 + 4 * j)] ++ x, ?_⟩ (pre4 k)
  rw [← hx]; simp [recOp]
theorem rec_pre2 (k : Kfg) {j : Nat} (h : j < k.L) : ((fmt1 ++ cfgOps k ++ fmt2 ++ recOps j) ++ [.st (16 + 4 * j) 0]) ++ [.fl (16 + 4 * j)] <+: fmtOps k := by
  obtain ⟨x, hx⟩ := recOps_prefix h
  refine List.IsPrefix.trans ⟨x, ?_⟩ (pre4 k)
  rw [← hx]; simp [recOp]
theorem rec_next (X : List Dop) (j : Nat) : ((X ++ recOps j) ++ [.st (16 + 4 * j) 0]) ++ [.fl (16 + 4 * j)] = X ++ recOps (j + 1) := by
  simp [recOps, flatMap_succ, recOp]
theorem zero_pre1 (k : Kfg) {j n : Nat} (hn : n = k.act + j) (h : j < 2 + k.R) : (fmt1 ++ cfgOps k ++ fmt2 ++ recOps k.L ++ zeroOps k.act j) ++ [.st n 0] <+: fmtOps k := by
  subst hn
  obtain ⟨x, hx⟩ := zeroOps_prefix k.act h
  refine List.IsPrefix.trans ⟨[.fl (k.act + j)] ++ x, ?_⟩ (pre5 k)
  rw [← hx]; simp [zeroOp]
theorem zero_pre2 (k : Kfg) {j n : Nat} (hn : n = k.act + j) (h : j < 2 + k.R) : ((fmt1 ++ cfgOps k ++ fmt2 ++ recOps k.L ++ zeroOps k.act j) ++ [.st n 0]) ++ [.fl n] <+: fmtOps k := by
  subst hn
  obtain ⟨x, hx⟩ := zeroOps_prefix k.act h
  refine List.IsPrefix.trans ⟨x, ?_⟩ (pre5 k)
  rw [← hx]; simp [zeroOp]
theorem zero_next (X : List Dop) (a j n : Nat) (hn : n = a + j) : ((X ++ zeroOps a j) ++ [.st n 0]) ++ [.fl n] = X ++ zeroOps a (j + 1) := by
  subst hn
  simp [zeroOps, flatMap_succ, zeroOp]
theorem tail_pre (k : Kfg) (l : List Dop) (h : l <+: fmt3) : fmt1 ++ cfgOps k ++ fmt2 ++ recOps k.L ++ zeroOps k.act (2 + k.R) ++ l <+: fmtOps k := by
  obtain ⟨x, hx⟩ := h
  exact ⟨x, by unfold fmtOps; rw [List.append_assoc, hx]⟩
theorem tail2 (k : Kfg) : fmt1 ++ cfgOps k ++ fmt2 ++ recOps k.L ++ zeroOps k.act (2 + k.R) ++ [.fl 0] ++ [.fe] <+: fmtOps k := by
  have := tail_pre k [.fl 0, .fe] ⟨_, rfl⟩
  simpa using this
theorem tail3 (k : Kfg) : fmt1 ++ cfgOps k ++ fmt2 ++ recOps k.L ++ zeroOps k.act (2 + k.R) ++ [.fl 0] ++ [.fe] ++ [.st 0 MAGIC] <+: fmtOps k := by
  have := tail_pre k [.fl 0, .fe, .st 0 MAGIC] ⟨_, rfl⟩
  simpa using this
theorem tail4 (k : Kfg) : fmt1 ++ cfgOps k ++ fmt2 ++ recOps k.L ++ zeroOps k.act (2 + k.R) ++ [.fl 0] ++ [.fe] ++ [.st 0 MAGIC] ++ [.fl 0] <+: fmtOps k := by
  have := tail_pre k [.fl 0, .fe, .st 0 MAGIC, .fl 0] ⟨_, rfl⟩
  simpa using this
theorem tail5 (k : Kfg) : fmt1 ++ cfgOps k ++ fmt2 ++ recOps k.L ++ zeroOps k.act (2 + k.R) ++ [.fl 0] ++ [.fe] ++ [.st 0 MAGIC] ++ [.fl 0] ++ [.fe] <+: fmtOps k := by
  have := tail_pre k [.fl 0, .fe, .st 0 MAGIC, .fl 0, .fe] ⟨_, rfl⟩
  simpa using this
theorem tail_all (k : Kfg) : fmt1 ++ cfgOps k ++ fmt2 ++ recOps k.L ++ zeroOps k.act (2 + k.R) ++ [.fl 0] ++ [.fe] ++ [.st 0 MAGIC] ++ [.fl 0] ++ [.fe] = fmtOps k := by
  unfold fmtOps fmt3
  simp
theorem prefix_app {β : Type} {a b c d : List β} (h : a <+: b) (h' : c ++ b <+: d) : c ++ a <+: d := by
  obtain ⟨x, rfl⟩ := h
  obtain ⟨y, rfl⟩ := h'
  exact ⟨x ++ y, by simp⟩

set_option maxRecDepth 100000 in
set_option maxHeartbeats 2000000 in
theorem format_any (d : DevI) (s : St) (k : Kfg) (w : World) (h : Dev w d s) (hk : k.Ok) (hn : s.now.length = k.words) :
    Calls Try.prog 61 #[.pointer (some ⟨d.b, 0, none⟩), .agg k.cells] w (Played w d s (fmtOps k) (.int .i64 0)) := by
  have HS := Lib.hid (((Sep.one (r := devR d s) h)).new 30 k.cells)
  obtain ⟨w0, w1⟩ := Kfg.words_le hk
  have hl : ∀ l : List Dop, (s.run l).now.length = k.words := fun l => by
    have : s.Is k.words := ⟨hn, h.lk.trans hn⟩
    exact (this.run l).now
  have HL := Lib.hid hl
  have HK := Lib.hid hk
  have hwp : 24 ≤ k.words := by have := k.act_le; have := hk.l0; have := hk.r0; omega
  clear h hn hl hk
  simp only [Kfg.cells] at HS ⊢
  go_enter Try.func61, Try.ntmps61
  go_wp2_with fail
  generalize w.alloc _ = w2 at *
  generalize w.heap.size = gc at *
  have c0 : ∀ x : Ext w2, x.now.cell? ⟨gc, 0, none⟩ = some (.int .i64 (k.L : Int)) := fun x => x.cell (by simpa using (HS.out.blk 1 rfl).cell 0)
  have c1 : ∀ x : Ext w2, x.now.cell? ⟨gc, 1, none⟩ = some (.int .i64 (k.R : Int)) := fun x => x.cell (by simpa using (HS.out.blk 1 rfl).cell 1)
  have c2 : ∀ x : Ext w2, x.now.cell? ⟨gc, 2, none⟩ = some (.int .i64 (k.S : Int)) := fun x => x.cell (by simpa using (HS.out.blk 1 rfl).cell 2)
  have hdv : ∀ x : Ext w2, Dev x.now d s := fun x => (HS.out.grow x.keep).dev 0 rfl
  have hlen : ∀ x : Ext w2, Calls Try.prog 69 #[.pointer (some ⟨d.b, 0, none⟩)] x.now fun e w' => e = .returned (.int .i64 k.words) ∧ x.now = w' := fun x => by
    have := len_any d s x.now (hdv x)
    rwa [show s.now.length = k.words from HL.out []] at this
  have HLEN := Lib.hid hlen
  clear hdv hlen
  refine wp_region_ext (by kernel_rfl) (by kernel_rfl) ?_
  repeat (go_big_quiet_step ((first | (go_at_call 68; with_reducible exact Calls.ext (kcheck k _ HK.out)) | (go_at_call 69; with_reducible exact Calls.ext_same (HLEN.out _)) | (go_at_call 60; with_reducible exact Calls.ext (kwords k _ HK.out)))))
  refine wpQuiet_nil ?_
  rintro _ ⟨x, rfl⟩
  replace HS := Lib.hid (HS.out.grow x.keep)
  clear c0 c1 c2 HLEN
  have HS : Hid (Sep w d.blocks [devR d (s.run []), blkR gc 30 #[.int .i64 (k.L : Int), .int .i64 (k.R : Int), .int .i64 (k.S : Int)]] x.now) := HS
  have hkL : (k.L : Int) ≤ 200 := by have := HK.out.l1; omega
  have hkR : (k.R : Int) ≤ 16 := by have := HK.out.r1; omega
  have hkS : (k.S : Int) ≤ 4096 := by have := HK.out.s1; omega
  go_wp2_with fail
  refine (store_op d _ 0 0 _ (HS.out.dev 0 rfl) (by rw [HL.out]; omega)).mono ?_
  rintro e w1 (⟨rfl, hd, hk⟩ | ⟨hg, rfl, hd, hk⟩)
  rotate_left
  · replace HS := Lib.hid (HS.out.did (i := 0) rfl hd hk)
    have HG := Lib.hid hg
    clear hd hk hg
    unfold offE
    go_wp2
    exact ⟨rfl, HS.out.cut_played (i := 0) rfl (List.IsPrefix.trans ⟨_, rfl⟩ (pre1 k)) HG.out⟩
  rw [← St.run_snoc] at hd
  replace HS := Lib.hid (HS.out.did (i := 0) rfl hd hk)
  clear hd hk
  go_wp2_with fail
  refine (flush_op d _ 0 _ (HS.out.dev 0 rfl) (by rw [HL.out]; omega)).mono ?_
  rintro e w1 (⟨rfl, hd, hk⟩ | ⟨hg, rfl, hd, hk⟩)
  rotate_left
  · replace HS := Lib.hid (HS.out.did (i := 0) rfl hd hk)
    have HG := Lib.hid hg
    clear hd hk hg
    unfold offE
    go_wp2
    exact ⟨rfl, HS.out.cut_played (i := 0) rfl (List.IsPrefix.trans ⟨_, rfl⟩ (pre1 k)) HG.out⟩
  rw [← St.run_snoc] at hd
  replace HS := Lib.hid (HS.out.did (i := 0) rfl hd hk)
  clear hd hk
  go_wp2_with fail
  refine (fence_op d _ _ (HS.out.dev 0 rfl)).mono ?_
  rintro e w1 (⟨rfl, hd, hk⟩ | ⟨hg, rfl, hd, hk⟩)
  rotate_left
  · replace HS := Lib.hid (HS.out.did (i := 0) rfl hd hk)
    have HG := Lib.hid hg
    clear hd hk hg
    unfold offE
    go_wp2
    exact ⟨rfl, HS.out.cut_played (i := 0) rfl (List.IsPrefix.trans ⟨_, rfl⟩ (pre1 k)) HG.out⟩
  rw [← St.run_snoc] at hd
  replace HS := Lib.hid (HS.out.did (i := 0) rfl hd hk)
  clear hd hk
  have c0 := (HS.out.blk 1 rfl).cell 0
  simp at c0
  have c1 := (HS.out.blk 1 rfl).cell 1
  simp at c1
  have c2 := (HS.out.blk 1 rfl).cell 2
  simp at c2
  go_wp2_with fail
  replace HS := Lib.hid (HS.out.new 3 #[.int .i64 (k.L : Int), .int .i64 (k.R : Int), .int .i64 (k.S : Int)])
  clear c0 c1 c2
  generalize w1.alloc _ = w3 at *
  generalize w1.heap.size = gs at *
  go_loopw [33] (fun v' wr => ∃ j : Nat, j ≤ 3 ∧ v' = .int .i64 (j : Int) ∧ Sep w d.blocks [devR d (s.run (fmt1 ++ (cfgOps k).take j)), blkR gc 30 #[.int .i64 (k.L : Int), .int .i64 (k.R : Int), .int .i64 (k.S : Int)], blkR gs 3 #[.int .i64 (k.L : Int), .int .i64 (k.R : Int), .int .i64 (k.S : Int)]] wr) (fun v' _ => 3 - (intOf v').toNat)
  case atStart => exact ⟨0, by omega, rfl, HS.out⟩
  case round =>
    clear HS
    obtain ⟨j, hj, rfl, hs⟩ := hrel
    have HS := Lib.hid hs
    clear hs
    rcases (show j = 0 ∨ j = 1 ∨ j = 2 ∨ j = 3 by omega) with rfl | rfl | rfl | rfl
    · have c0 := (HS.out.blk 2 rfl).cell 0
      simp at c0
      go_wp2_with fail
      refine (store_op d _ 1 k.L _ (HS.out.dev 0 rfl) (by rw [HL.out]; omega)).mono ?_
      rintro e w1 (⟨rfl, hd, hk⟩ | ⟨hg, rfl, hd, hk⟩)
      rotate_left
      · replace HS := Lib.hid (HS.out.did (i := 0) rfl hd hk)
        have HG := Lib.hid hg
        clear hd hk hg
        unfold offE
        go_wp2
        exact ⟨rfl, HS.out.cut_played (i := 0) rfl (List.IsPrefix.trans ⟨_, rfl⟩ (pre2 k)) HG.out⟩
      rw [← St.run_snoc] at hd
      replace HS := Lib.hid (HS.out.did (i := 0) rfl hd hk)
      clear hd hk
      clear c0
      go_wp2
      exact ⟨⟨1, by omega, by first | rfl | go_num | simp, HS.out⟩, by simp [intOf]⟩
    · have c0 := (HS.out.blk 2 rfl).cell 1
      simp at c0
      go_wp2_with fail
      refine (store_op d _ 2 k.R _ (HS.out.dev 0 rfl) (by rw [HL.out]; omega)).mono ?_
      rintro e w1 (⟨rfl, hd, hk⟩ | ⟨hg, rfl, hd, hk⟩)
      rotate_left
      · replace HS := Lib.hid (HS.out.did (i := 0) rfl hd hk)
        have HG := Lib.hid hg
        clear hd hk hg
        unfold offE
        go_wp2
        exact ⟨rfl, HS.out.cut_played (i := 0) rfl (List.IsPrefix.trans ⟨_, rfl⟩ (pre2 k)) HG.out⟩
      rw [← St.run_snoc] at hd
      replace HS := Lib.hid (HS.out.did (i := 0) rfl hd hk)
      clear hd hk
      clear c0
      go_wp2
      exact ⟨⟨2, by omega, by first | rfl | go_num | simp, HS.out⟩, by simp [intOf]⟩
    · have c0 := (HS.out.blk 2 rfl).cell 2
      simp at c0
      go_wp2_with fail
      refine (store_op d _ 3 k.S _ (HS.out.dev 0 rfl) (by rw [HL.out]; omega)).mono ?_
      rintro e w1 (⟨rfl, hd, hk⟩ | ⟨hg, rfl, hd, hk⟩)
      rotate_left
      · replace HS := Lib.hid (HS.out.did (i := 0) rfl hd hk)
        have HG := Lib.hid hg
        clear hd hk hg
        unfold offE
        go_wp2
        exact ⟨rfl, HS.out.cut_played (i := 0) rfl (List.IsPrefix.trans ⟨_, rfl⟩ (pre2 k)) HG.out⟩
      rw [← St.run_snoc] at hd
      replace HS := Lib.hid (HS.out.did (i := 0) rfl hd hk)
      clear hd hk
      clear c0
      go_wp2
      exact ⟨⟨3, by omega, by first | rfl | go_num | simp, HS.out⟩, by simp [intOf]⟩
    · go_wp2_with fail
      refine (store_op d _ 8 1 _ (HS.out.dev 0 rfl) (by rw [HL.out]; omega)).mono ?_
      rintro e w1 (⟨rfl, hd, hk⟩ | ⟨hg, rfl, hd, hk⟩)
      rotate_left
      · replace HS := Lib.hid (HS.out.did (i := 0) rfl hd hk)
        have HG := Lib.hid hg
        clear hd hk hg
        unfold offE
        go_wp2
        exact ⟨rfl, HS.out.cut_played (i := 0) rfl (List.IsPrefix.trans ⟨_, rfl⟩ (pre3 k)) HG.out⟩
      rw [← St.run_snoc] at hd
      replace HS := Lib.hid (HS.out.did (i := 0) rfl hd hk)
      clear hd hk
      go_wp2_with fail
      refine (flush_op d _ 8 _ (HS.out.dev 0 rfl) (by rw [HL.out]; omega)).mono ?_
      rintro e w1 (⟨rfl, hd, hk⟩ | ⟨hg, rfl, hd, hk⟩)
      rotate_left
      · replace HS := Lib.hid (HS.out.did (i := 0) rfl hd hk)
        have HG := Lib.hid hg
        clear hd hk hg
        unfold offE
        go_wp2
        exact ⟨rfl, HS.out.cut_played (i := 0) rfl (List.IsPrefix.trans ⟨_, rfl⟩ (pre3 k)) HG.out⟩
      rw [← St.run_snoc] at hd
      replace HS := Lib.hid (HS.out.did (i := 0) rfl hd hk)
      clear hd hk
      go_wp2_with fail
      go_loopw [7] (fun v' wr2 => ∃ i : Nat, i ≤ k.L ∧ v' = .int .i64 (i : Int) ∧ Sep w d.blocks [devR d (s.run (fmt1 ++ cfgOps k ++ fmt2 ++ recOps i)), blkR gc 30 #[.int .i64 (k.L : Int), .int .i64 (k.R : Int), .int .i64 (k.S : Int)]] wr2) (fun v' _ => k.L - (intOf v').toNat)
      case atStart => exact ⟨0, by omega, rfl, HS.out.take 2⟩
      case round =>
        clear HS
        obtain ⟨i, hi, rfl, hs⟩ := hrel
        have HS := Lib.hid hs
        clear hs
        have c0 := (HS.out.blk 1 rfl).cell 0
        simp at c0
        have c1 := (HS.out.blk 1 rfl).cell 1
        simp at c1
        have c2 := (HS.out.blk 1 rfl).cell 2
        simp at c2
        by_cases hlt : i < k.L
        · have hltI : (i : Int) < k.L := by omega
          go_wp2_with fail
          refine (krecord k _ HK.out i (by omega)).mono ?_
          rintro e w1 ⟨rfl, hk⟩
          replace HS := Lib.hid (HS.out.grow hk)
          clear hk
          clear c0 c1 c2
          have hin : 16 + 4 * i < k.words := by have := k.act_le; omega
          go_wp2_with fail
          refine (store_op d _ (16 + 4 * i) 0 _ (HS.out.dev 0 rfl) (by rw [HL.out]; exact hin)).mono ?_
          rintro e w1 (⟨rfl, hd, hk⟩ | ⟨hg, rfl, hd, hk⟩)
          rotate_left
          · replace HS := Lib.hid (HS.out.did (i := 0) rfl hd hk)
            have HG := Lib.hid hg
            clear hd hk hg
            unfold offE
            go_wp2
            exact ⟨rfl, HS.out.cut_played (i := 0) rfl (rec_pre1 k hlt) HG.out⟩
          rw [← St.run_snoc] at hd
          replace HS := Lib.hid (HS.out.did (i := 0) rfl hd hk)
          clear hd hk
          have c0 := (HS.out.blk 1 rfl).cell 0
          simp at c0
          have c1 := (HS.out.blk 1 rfl).cell 1
          simp at c1
          have c2 := (HS.out.blk 1 rfl).cell 2
          simp at c2
          go_wp2_with fail
          refine (krecord k _ HK.out i (by omega)).mono ?_
          rintro e w1 ⟨rfl, hk⟩
          replace HS := Lib.hid (HS.out.grow hk)
          clear hk
          clear c0 c1 c2
          go_wp2_with fail
          refine (flush_op d _ (16 + 4 * i) _ (HS.out.dev 0 rfl) (by rw [HL.out]; exact hin)).mono ?_
          rintro e w1 (⟨rfl, hd, hk⟩ | ⟨hg, rfl, hd, hk⟩)
          rotate_left
          · replace HS := Lib.hid (HS.out.did (i := 0) rfl hd hk)
            have HG := Lib.hid hg
            clear hd hk hg
            unfold offE
            go_wp2
            exact ⟨rfl, HS.out.cut_played (i := 0) rfl (rec_pre2 k hlt) HG.out⟩
          rw [← St.run_snoc] at hd
          replace HS := Lib.hid (HS.out.did (i := 0) rfl hd hk)
          clear hd hk
          rw [rec_next] at HS
          go_wp2
          exact ⟨⟨i + 1, by omega, by go_num, HS.out⟩, by simp [intOf]; omega⟩
        · have hge : (k.L : Int) ≤ i := by omega
          obtain rfl : i = k.L := by omega
          go_wp2_with fail
          refine (kactive k _ HK.out).mono ?_
          rintro e w1 ⟨rfl, hk⟩
          replace HS := Lib.hid (HS.out.grow hk)
          clear hk
          clear c0 c1 c2
          go_wp2_with fail
          go_loopw [8] (fun v' wr3 => ∃ i n : Nat, n = k.act + i ∧ i ≤ 2 + k.R ∧ v' = .int .i64 (n : Int) ∧ Sep w d.blocks [devR d (s.run (fmt1 ++ cfgOps k ++ fmt2 ++ recOps k.L ++ zeroOps k.act i)), blkR gc 30 #[.int .i64 (k.L : Int), .int .i64 (k.R : Int), .int .i64 (k.S : Int)]] wr3) (fun v' _ => k.act + 2 + k.R - (intOf v').toNat)
          case atStart => exact ⟨0, k.act, rfl, by omega, rfl, by rw [show zeroOps k.act 0 = [] from rfl, List.append_nil]; exact HS.out⟩
          case round =>
            clear HS
            obtain ⟨i, n, hn, hi, rfl, hs⟩ := hrel
            have HS := Lib.hid hs
            clear hs
            obtain ⟨m, hm⟩ : ∃ m, k.act + 2 + k.R = m := ⟨_, rfl⟩
            have HM := Lib.hid hm
            have HNN := Lib.hid hn
            have c0 := (HS.out.blk 1 rfl).cell 0
            simp at c0
            have c1 := (HS.out.blk 1 rfl).cell 1
            simp at c1
            have c2 := (HS.out.blk 1 rfl).cell 2
            simp at c2
            by_cases hlt : i < 2 + k.R
            · have hltI : (n : Int) < (m : Int) := by omega
              have hin : n < k.words := by omega
              have hsm : (n : Int) ≤ 10000 := by omega
              clear hm hn
              go_wp2_with fail
              refine (kroot_eq k _ HK.out k.R m (by omega) HM.out).mono ?_
              rintro e w1 ⟨rfl, hk⟩
              replace HS := Lib.hid (HS.out.grow hk)
              clear hk
              clear c0 c1 c2
              go_wp2_with fail
              refine (store_op d _ n 0 _ (HS.out.dev 0 rfl) (by rw [HL.out]; exact hin)).mono ?_
              rintro e w1 (⟨rfl, hd, hk⟩ | ⟨hg, rfl, hd, hk⟩)
              rotate_left
              · replace HS := Lib.hid (HS.out.did (i := 0) rfl hd hk)
                have HG := Lib.hid hg
                clear hd hk hg
                unfold offE
                go_wp2
                exact ⟨rfl, HS.out.cut_played (i := 0) rfl (zero_pre1 k HNN.out hlt) HG.out⟩
              rw [← St.run_snoc] at hd
              replace HS := Lib.hid (HS.out.did (i := 0) rfl hd hk)
              clear hd hk
              go_wp2_with fail
              refine (flush_op d _ n _ (HS.out.dev 0 rfl) (by rw [HL.out]; exact hin)).mono ?_
              rintro e w1 (⟨rfl, hd, hk⟩ | ⟨hg, rfl, hd, hk⟩)
              rotate_left
              · replace HS := Lib.hid (HS.out.did (i := 0) rfl hd hk)
                have HG := Lib.hid hg
                clear hd hk hg
                unfold offE
                go_wp2
                exact ⟨rfl, HS.out.cut_played (i := 0) rfl (zero_pre2 k HNN.out hlt) HG.out⟩
              rw [← St.run_snoc] at hd
              replace HS := Lib.hid (HS.out.did (i := 0) rfl hd hk)
              clear hd hk
              rw [zero_next _ _ _ _ HNN.out] at HS
              go_wp2
              have hm := HM.out
              have hn := HNN.out
              exact ⟨⟨i + 1, n + 1, by omega, by omega, by go_num, HS.out⟩, by simp [intOf]; omega⟩
            · have hltI : (m : Int) ≤ (n : Int) := by omega
              obtain rfl : i = 2 + k.R := by omega
              clear hm hn
              go_wp2_with fail
              refine (kroot_eq k _ HK.out k.R m (by omega) HM.out).mono ?_
              rintro e w1 ⟨rfl, hk⟩
              replace HS := Lib.hid (HS.out.grow hk)
              clear hk
              clear c0 c1 c2
              go_wp2_with fail
              refine (flush_op d _ 0 _ (HS.out.dev 0 rfl) (by rw [HL.out]; omega)).mono ?_
              rintro e w1 (⟨rfl, hd, hk⟩ | ⟨hg, rfl, hd, hk⟩)
              rotate_left
              · replace HS := Lib.hid (HS.out.did (i := 0) rfl hd hk)
                have HG := Lib.hid hg
                clear hd hk hg
                unfold offE
                go_wp2
                exact ⟨rfl, HS.out.cut_played (i := 0) rfl (tail_pre k [.fl 0] ⟨_, rfl⟩) HG.out⟩
              rw [← St.run_snoc] at hd
              replace HS := Lib.hid (HS.out.did (i := 0) rfl hd hk)
              clear hd hk
              go_wp2_with fail
              refine (fence_op d _ _ (HS.out.dev 0 rfl)).mono ?_
              rintro e w1 (⟨rfl, hd, hk⟩ | ⟨hg, rfl, hd, hk⟩)
              rotate_left
              · replace HS := Lib.hid (HS.out.did (i := 0) rfl hd hk)
                have HG := Lib.hid hg
                clear hd hk hg
                unfold offE
                go_wp2
                exact ⟨rfl, HS.out.cut_played (i := 0) rfl (tail2 k) HG.out⟩
              rw [← St.run_snoc] at hd
              replace HS := Lib.hid (HS.out.did (i := 0) rfl hd hk)
              clear hd hk
              go_wp2_with fail
              refine (store_op d _ 0 MAGIC _ (HS.out.dev 0 rfl) (by rw [HL.out]; omega)).mono ?_
              rintro e w1 (⟨rfl, hd, hk⟩ | ⟨hg, rfl, hd, hk⟩)
              rotate_left
              · replace HS := Lib.hid (HS.out.did (i := 0) rfl hd hk)
                have HG := Lib.hid hg
                clear hd hk hg
                unfold offE
                go_wp2
                exact ⟨rfl, HS.out.cut_played (i := 0) rfl (tail3 k) HG.out⟩
              rw [← St.run_snoc] at hd
              replace HS := Lib.hid (HS.out.did (i := 0) rfl hd hk)
              clear hd hk
              go_wp2_with fail
              refine (flush_op d _ 0 _ (HS.out.dev 0 rfl) (by rw [HL.out]; omega)).mono ?_
              rintro e w1 (⟨rfl, hd, hk⟩ | ⟨hg, rfl, hd, hk⟩)
              rotate_left
              · replace HS := Lib.hid (HS.out.did (i := 0) rfl hd hk)
                have HG := Lib.hid hg
                clear hd hk hg
                unfold offE
                go_wp2
                exact ⟨rfl, HS.out.cut_played (i := 0) rfl (tail4 k) HG.out⟩
              rw [← St.run_snoc] at hd
              replace HS := Lib.hid (HS.out.did (i := 0) rfl hd hk)
              clear hd hk
              go_wp2_with fail
              refine (fence_op d _ _ (HS.out.dev 0 rfl)).mono ?_
              rintro e w1 (⟨rfl, hd, hk⟩ | ⟨hg, rfl, hd, hk⟩)
              rotate_left
              · replace HS := Lib.hid (HS.out.did (i := 0) rfl hd hk)
                have HG := Lib.hid hg
                clear hd hk hg
                unfold offE
                go_wp2
                exact ⟨rfl, HS.out.cut_played (i := 0) rfl (tail5 k) HG.out⟩
              rw [← St.run_snoc] at hd
              replace HS := Lib.hid (HS.out.did (i := 0) rfl hd hk)
              clear hd hk
              go_wp2
              rw [tail_all] at HS
              go_ret
              exact HS.out.did_played (i := 0) rfl
end Go.Proofs.Ytbdomdmnjclpdaa
