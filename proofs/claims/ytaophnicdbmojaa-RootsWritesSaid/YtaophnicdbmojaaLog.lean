/-
  Package ulog: a log in memory; stamp, Open, Len, Epoch.
-/
import Derived.Test.YtaophnicdbmojaaLogP
import Derived.Test.YtaophnicdbmojaaAwk5
set_option linter.unusedSimpArgs false
set_option linter.unusedVariables false
set_option maxRecDepth 100000
namespace Go.Proofs.Ytaophnicdbmojaa
open Go.RowKit Go.Shelf

/-- A log's cells. -/
abbrev logC (d : DevI) (k : Kfg) (ep : Int) (n : Nat) : Array Value := #[.pointer (some ⟨d.b, 0, none⟩), .int .i64 (k.L : Int), .int .i64 (k.R : Int), .int .i64 (k.S : Int), .int .u64 ep, .int .i64 (n : Int)]
abbrev logR (g : Nat) (d : DevI) (k : Kfg) (ep : Int) (n : Nat) : Res := blkR g 140 (logC d k ep n)

/-- A number in a cell. -/
def cellN (w : World) (g o : Nat) : Nat := match w.cell? ⟨g, o, none⟩ with | some v => (intOf v).toNat | none => 0
theorem cellN_of {w : World} {g o : Nat} {n : Nat} (h : w.cell? ⟨g, o, none⟩ = some (.int .i64 (n : Int))) : cellN w g o = n := by
  unfold cellN; rw [h]; simp [intOf]

set_option maxHeartbeats 400000 in
theorem stamp_any (ep : Int) (i : Nat) (w : World) (h0 : 0 ≤ ep) (h1 : ep < 4294967296) (hi : i ≤ 1000) :
    Calls Try.prog 84 #[.int .u64 ep, .int .i64 i] w fun e w' => e = .returned (.int .u64 (stampOf ep i)) ∧ w = w' := by
  have hs := stamp_or ep i h0 h1 hi
  have HS := Lib.hid hs
  have hiI : (i : Int) ≤ 1000 := by omega
  clear hs
  go_enter Try.func84, Try.ntmps84
  go_wp2
  rw [HS.out]
  go_ret
  exact ⟨rfl, rfl⟩

set_option maxRecDepth 100000 in
set_option maxHeartbeats 2000000 in
theorem open_any (d : DevI) (s : St) (k : Kfg) (ep : Int) (n : Nat) (w : World) (h : Dev w d s) (hk : k.Ok) (he0 : 0 ≤ s.nw 8) (he1 : s.nw 8 ≤ 18446744073709551615) (hl : LogIs s k ep n) :
    Calls Try.prog 76 #[.pointer (some ⟨d.b, 0, none⟩), .agg k.cells] w fun e w' => ∃ g, e = .returned (.pointer (some ⟨g, 0, none⟩)) ∧ w.heap.size ≤ g ∧ Blk w' g 140 (logC d k ep n) ∧ Keep w.heap.size [] w w' := by
  have HS := Lib.hid ((Sep.start w []).new 29 k.cells)
  have H := Lib.hid h
  have HK := Lib.hid hk
  have HL := Lib.hid hl
  have hand : bits .and .u64 (s.nw 8) 4294967295 = ep := by rw [and_32 _ he0 he1]; exact hl.epoch
  have hep : 0 ≤ ep ∧ ep < 4294967296 := by have := hl.epoch; omega
  obtain ⟨hep0, hep1⟩ := hep
  have hkL : (k.L : Int) ≤ 200 := by have := hk.l1; omega
  have HA := Lib.hid hand
  clear h hk hl hand
  simp only [Kfg.cells] at HS ⊢
  go_enter Try.func76, Try.ntmps76
  go_wp2_with fail
  generalize w.alloc _ = w2 at *
  generalize w.heap.size = gc at *
  have c0 : ∀ x : Ext w2, x.now.cell? ⟨gc, 0, none⟩ = some (.int .i64 (k.L : Int)) := fun x => x.cell (by simpa using (HS.out.blk 0 rfl).cell 0)
  have c1 : ∀ x : Ext w2, x.now.cell? ⟨gc, 1, none⟩ = some (.int .i64 (k.R : Int)) := fun x => x.cell (by simpa using (HS.out.blk 0 rfl).cell 1)
  have c2 : ∀ x : Ext w2, x.now.cell? ⟨gc, 2, none⟩ = some (.int .i64 (k.S : Int)) := fun x => x.cell (by simpa using (HS.out.blk 0 rfl).cell 2)
  have h8 : ∀ x : Ext w2, Calls Try.prog 29 #[.pointer (some ⟨d.b, 0, none⟩), .int .i64 8] x.now fun e w' => e = .returned (.int .u64 (s.nw 8)) ∧ x.now = w' := fun x => load_nat d s 8 _ (H.out.of_new (HS.out.grow x.keep).keep)
  have H8 := Lib.hid h8
  have ha := HA.out
  clear h8
  refine wp_region_ext_tail 6 (by kernel_rfl) (by kernel_rfl) ?_
  simp only [List.take_succ_cons, List.take_zero, List.drop_succ_cons, List.drop_zero]
  repeat (go_big_quiet_step ((first | (go_at_call 29; with_reducible exact Calls.ext_same (H8.out _)))))
  refine wpQuiet_nil ?_
  rintro _ ⟨x, rfl⟩
  replace HS := Lib.hid (HS.out.grow x.keep)
  clear c0 c1 c2 ha H8
  go_wp2_with fail
  replace HS := Lib.hid (HS.out.new 140 (logC d k ep 0))
  have HS : Hid (Sep w [] [blkR gc 29 #[.int .i64 (k.L : Int), .int .i64 (k.R : Int), .int .i64 (k.S : Int)], blkR x.now.heap.size 140 (logC d k ep 0)] (x.now.alloc (.cells (logC d k ep 0) 140))) := HS
  have HG : Hid (w.heap.size ≤ x.now.heap.size) := x.keep.size |> fun h => by
    have := HS.out.old 1 _ rfl x.now.heap.size (by simp [blkR])
    rcases Nat.lt_or_ge x.now.heap.size w.heap.size with h | h
    · exact absurd (this h) (by simp)
    · exact h
  simp only [logC] at HS
  generalize x.now.alloc _ = w5 at *
  generalize x.now.heap.size = gl at *
  go_loopw [] (fun wr => ∃ j : Nat, j ≤ n ∧ Sep w [] [blkR gc 29 #[.int .i64 (k.L : Int), .int .i64 (k.R : Int), .int .i64 (k.S : Int)], blkR gl 140 (logC d k ep j)] wr) (fun wr => n - cellN wr gl 5)
  case atStart => exact ⟨0, by omega, HS.out⟩
  case round =>
    clear HS
    obtain ⟨j, hj, hs⟩ := hrel
    have HS := Lib.hid hs
    clear hs
    have hln := HL.out.le
    have hj1 : j ≤ 1000 := by omega
    have hcw : cellN wr gl 5 = j := cellN_of (by simpa using (HS.out.blk 1 rfl).cell 5)
    have HCW := Lib.hid hcw
    clear hcw
    by_cases hlt : j < n
    · have hjL : (j : Int) < k.L := by omega
      have c0 : ∀ x : Ext wr, x.now.cell? ⟨gc, 0, none⟩ = some (.int .i64 (k.L : Int)) := fun x => x.cell (by simpa using (HS.out.blk 0 rfl).cell 0)
      have c1 : ∀ x : Ext wr, x.now.cell? ⟨gc, 1, none⟩ = some (.int .i64 (k.R : Int)) := fun x => x.cell (by simpa using (HS.out.blk 0 rfl).cell 1)
      have c2 : ∀ x : Ext wr, x.now.cell? ⟨gc, 2, none⟩ = some (.int .i64 (k.S : Int)) := fun x => x.cell (by simpa using (HS.out.blk 0 rfl).cell 2)
      have e4 : ∀ x : Ext wr, x.now.cell? ⟨gl, 4, none⟩ = some (.int .u64 ep) := fun x => x.cell (by simpa using (HS.out.blk 1 rfl).cell 4)
      have e5 : ∀ x : Ext wr, x.now.cell? ⟨gl, 5, none⟩ = some (.int .i64 (j : Int)) := fun x => x.cell (by simpa using (HS.out.blk 1 rfl).cell 5)
      obtain ⟨m, hm⟩ : ∃ m, 16 + 4 * j = m := ⟨_, rfl⟩
      have hld : ∀ x : Ext wr, Calls Try.prog 29 #[.pointer (some ⟨d.b, 0, none⟩), .int .i64 (m : Int)] x.now fun e w' => e = .returned (.int .u64 (stampOf ep j)) ∧ x.now = w' := fun x => load_is d s m _ _ (H.out.of_new (HS.out.grow x.keep).keep) (by rw [← hm]; exact HL.out.yes j hlt)
      have HLD := Lib.hid hld
      have HM := Lib.hid hm
      clear hld hm
      go_wp2_with fail
      refine wp_region_ext (by kernel_rfl) (by kernel_rfl) ?_
      repeat (go_big_quiet_step ((first | (go_at_call 56; with_reducible exact Calls.ext (krecord_eq k _ HK.out j m hj1 HM.out)) | (go_at_call 29; with_reducible exact Calls.ext_same (HLD.out _)) | (go_at_call 84; with_reducible exact Calls.ext_same (stamp_any ep j _ hep0 hep1 hj1)))))
      refine wpQuiet_nil ?_
      rintro _ ⟨x, rfl⟩
      replace HS := Lib.hid (HS.out.grow x.keep)
      clear c0 c1 c2 e4 e5
      have e5 := (HS.out.blk 1 rfl).cell 5
      simp at e5
      have f5 := (HS.out.blk 1 rfl).frozen 5
      go_wp2
      have hs2 := HS.out.put (i := 1) rfl 5 (.int .i64 ((j : Int) + 1))
      have hc2 : (logC d k ep j).setIfInBounds 5 (.int .i64 ((j : Int) + 1)) = logC d k ep (j + 1) := by simp [logC]
      rw [hc2] at hs2
      have hcj := cellN_of (n := j + 1) (by simpa using (hs2.blk 1 rfl).cell 5)
      exact ⟨⟨j + 1, by omega, hs2⟩, by rw [hcj, HCW.out]; omega⟩
    · obtain rfl : j = n := by omega
      by_cases hL : j < k.L
      · have hjL : (j : Int) < k.L := by omega
        obtain ⟨y, hy⟩ : ∃ y, s.nw (16 + 4 * j) = y := ⟨_, rfl⟩
        have hne := HL.out.no hL
        rw [hy] at hne
        have hne1 : (y == stampOf ep j) = false := by rw [beq_eq_false_iff_ne]; exact hne
        have HY := Lib.hid hy
        clear hy hne
        have c0 : ∀ x : Ext wr, x.now.cell? ⟨gc, 0, none⟩ = some (.int .i64 (k.L : Int)) := fun x => x.cell (by simpa using (HS.out.blk 0 rfl).cell 0)
        have c1 : ∀ x : Ext wr, x.now.cell? ⟨gc, 1, none⟩ = some (.int .i64 (k.R : Int)) := fun x => x.cell (by simpa using (HS.out.blk 0 rfl).cell 1)
        have c2 : ∀ x : Ext wr, x.now.cell? ⟨gc, 2, none⟩ = some (.int .i64 (k.S : Int)) := fun x => x.cell (by simpa using (HS.out.blk 0 rfl).cell 2)
        have e4 : ∀ x : Ext wr, x.now.cell? ⟨gl, 4, none⟩ = some (.int .u64 ep) := fun x => x.cell (by simpa using (HS.out.blk 1 rfl).cell 4)
        have e5 : ∀ x : Ext wr, x.now.cell? ⟨gl, 5, none⟩ = some (.int .i64 (j : Int)) := fun x => x.cell (by simpa using (HS.out.blk 1 rfl).cell 5)
        obtain ⟨m, hm⟩ : ∃ m, 16 + 4 * j = m := ⟨_, rfl⟩
        have hld : ∀ x : Ext wr, Calls Try.prog 29 #[.pointer (some ⟨d.b, 0, none⟩), .int .i64 (m : Int)] x.now fun e w' => e = .returned (.int .u64 (y)) ∧ x.now = w' := fun x => load_is d s m _ _ (H.out.of_new (HS.out.grow x.keep).keep) (by rw [← hm]; exact HY.out)
        have HLD := Lib.hid hld
        have HM := Lib.hid hm
        clear hld hm
        go_wp2_with fail
        refine wp_region_ext (by kernel_rfl) (by kernel_rfl) ?_
        repeat (go_big_quiet_step ((first | (go_at_call 56; with_reducible exact Calls.ext (krecord_eq k _ HK.out j m hj1 HM.out)) | (go_at_call 29; with_reducible exact Calls.ext_same (HLD.out _)) | (go_at_call 84; with_reducible exact Calls.ext_same (stamp_any ep j _ hep0 hep1 hj1)))))
        refine wpQuiet_nil ?_
        rintro _ ⟨x, rfl⟩
        replace HS := Lib.hid (HS.out.grow x.keep)
        clear c0 c1 c2 e4 e5 hne1
        go_wp2
        go_ret
        exact ⟨gl, rfl, HG.out, HS.out.blk 1 rfl, HS.out.keep⟩
      · have hjL : decide ((j : Int) < k.L) = false := by simp; omega
        have c0 : ∀ x : Ext wr, x.now.cell? ⟨gc, 0, none⟩ = some (.int .i64 (k.L : Int)) := fun x => x.cell (by simpa using (HS.out.blk 0 rfl).cell 0)
        have c1 : ∀ x : Ext wr, x.now.cell? ⟨gc, 1, none⟩ = some (.int .i64 (k.R : Int)) := fun x => x.cell (by simpa using (HS.out.blk 0 rfl).cell 1)
        have c2 : ∀ x : Ext wr, x.now.cell? ⟨gc, 2, none⟩ = some (.int .i64 (k.S : Int)) := fun x => x.cell (by simpa using (HS.out.blk 0 rfl).cell 2)
        have e4 : ∀ x : Ext wr, x.now.cell? ⟨gl, 4, none⟩ = some (.int .u64 ep) := fun x => x.cell (by simpa using (HS.out.blk 1 rfl).cell 4)
        have e5 : ∀ x : Ext wr, x.now.cell? ⟨gl, 5, none⟩ = some (.int .i64 (j : Int)) := fun x => x.cell (by simpa using (HS.out.blk 1 rfl).cell 5)
        go_wp2_with fail
        refine wp_region_ext (by kernel_rfl) (by kernel_rfl) ?_
        repeat (go_big_quiet_step ((first | fail)))
        refine wpQuiet_nil ?_
        rintro _ ⟨x, rfl⟩
        replace HS := Lib.hid (HS.out.grow x.keep)
        clear c0 c1 c2 e4 e5 hjL
        go_wp2
        go_ret
        exact ⟨gl, rfl, HG.out, HS.out.blk 1 rfl, HS.out.keep⟩
end Go.Proofs.Ytaophnicdbmojaa
