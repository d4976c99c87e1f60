/-
  A log, by its words: plain laws.
  Package ulog: a log in memory; stamp, Open, Len, Epoch.
-/
import Derived.Test.YtbdomdmnjclpdaaFmtP
import Derived.Test.YtbdomdmnjclpdaaHead
import Derived.Test.YtbdomdmnjclpdaaAwk5
set_option linter.unusedSimpArgs false
set_option linter.unusedVariables false
set_option maxRecDepth 100000
namespace Go.Proofs.Ytbdomdmnjclpdaa
open Go.RowKit Go.Shelf

/-- A record's stamp. -/
def stampOf (ep : Int) (i : Nat) : Int := ep * 4294967296 + ((i : Int) + 1)
theorem stamp_or (ep : Int) (i : Nat) (h0 : 0 ≤ ep) (h1 : ep < 4294967296) (hi : i ≤ 1000) : bits .or .u64 (ep * 4294967296) ((i : Int) + 1) = stampOf ep i := by
  obtain ⟨e, rfl⟩ := Int.eq_ofNat_of_zero_le h0
  have h := or_disjoint e (i + 1) 32 (by omega)
  have e1 : (e : Int) * 4294967296 = ((2 ^ 32 * e : Nat) : Int) := by omega
  have e2 : (i : Int) + 1 = ((i + 1 : Nat) : Int) := by omega
  rw [e1, e2, bits_or_u64_nat _ _ (by omega) (by omega), h]
  unfold stampOf
  omega
theorem stamp_range (ep : Int) (i : Nat) (h0 : 0 ≤ ep) (h1 : ep < 4294967296) (hi : i ≤ 1000) : 0 < stampOf ep i ∧ stampOf ep i ≤ 18446744073709551615 := by unfold stampOf; omega
theorem stamp_inj {a b : Int} {i j : Nat} (hi : i ≤ 1000) (hj : j ≤ 1000) (h : stampOf a i = stampOf b j) : a = b ∧ i = j := by unfold stampOf at h; omega

/-- The log that a device's words hold. -/
structure LogIs (s : St) (k : Kfg) (ep : Int) (n : Nat) : Prop where
  le : n ≤ k.L
  epoch : s.nw 8 % 4294967296 = ep
  yes : ∀ i, i < n → s.nw (16 + 4 * i) = stampOf ep i
  no : n < k.L → s.nw (16 + 4 * n) ≠ stampOf ep n

theorem first_not (P : Nat → Prop) [DecidablePred P] (L : Nat) : ∃ n, n ≤ L ∧ (∀ i, i < n → P i) ∧ (n < L → ¬ P n) := by
  induction L with
  | zero => exact ⟨0, by omega, by omega, by omega⟩
  | succ L ih =>
    obtain ⟨n, h1, h2, h3⟩ := ih
    by_cases hn : n < L
    · exact ⟨n, by omega, h2, fun _ => h3 hn⟩
    · obtain rfl : n = L := by omega
      by_cases hp : P n
      · refine ⟨n + 1, by omega, fun i hi => ?_, by omega⟩
        by_cases hin : i = n
        · subst hin; exact hp
        · exact h2 i (by omega)
      · exact ⟨n, by omega, h2, fun _ => hp⟩
theorem logIs_ex (s : St) (k : Kfg) : ∃ n, LogIs s k (s.nw 8 % 4294967296) n := by
  obtain ⟨n, h1, h2, h3⟩ := first_not (fun i => s.nw (16 + 4 * i) = stampOf (s.nw 8 % 4294967296) i) k.L
  exact ⟨n, h1, rfl, h2, h3⟩
theorem LogIs.uniq {s : St} {k : Kfg} {ep ep' : Int} {n m : Nat} (h : LogIs s k ep n) (h' : LogIs s k ep' m) : ep = ep' ∧ n = m := by
  have e : ep = ep' := h.epoch.symm.trans h'.epoch
  subst e
  refine ⟨rfl, ?_⟩
  rcases Nat.lt_trichotomy n m with hlt | rfl | hgt
  · exact absurd (h'.yes n hlt) (h.no (by have := h'.le; omega))
  · rfl
  · exact absurd (h.yes m hgt) (h'.no (by have := h.le; omega))

/-- What Append does. -/
def appOps (ep : Int) (n i : Nat) (v : Int) : List Dop := [.st (16 + 4 * n + 1) i, .st (16 + 4 * n + 2) v, .fl (16 + 4 * n), .fe, .st (16 + 4 * n) (stampOf ep n), .fl (16 + 4 * n), .fe]
/-- What Truncate does, where there are records. -/
def truncOps (ep : Int) : List Dop := [.st 8 ((ep + 1) % 4294967296), .fl 8, .fe]
/-- A new heap's log is empty. -/
theorem AllS.log {s : St} {k : Kfg} (hk : k.Ok) (h : WholeS s k) : LogIs s k 1 0 := by
  refine ⟨by omega, by rw [h.w8]; rfl, by omega, fun hL => ?_⟩
  rw [h.recs 0 hL]
  unfold stampOf
  omega
theorem app_nw {s : St} {k : Kfg} (hk : k.Ok) (hI : s.Is k.words) {ep : Int} {n i : Nat} {v : Int} (hn : n < k.L) (j : Nat) :
    (s.run (appOps ep n i v)).nw j = if j = 16 + 4 * n then stampOf ep n else if j = 16 + 4 * n + 2 then v else if j = 16 + 4 * n + 1 then i else s.nw j := by
  obtain ⟨hw1, hw2⟩ := Kfg.words_le hk
  obtain ⟨ha1, ha2⟩ := k.act_le
  have e : s.run (appOps ep n i v) = ((((((s.store (16 + 4 * n + 1) i).store (16 + 4 * n + 2) v).flush (16 + 4 * n)).fence).store (16 + 4 * n) (stampOf ep n)).flush (16 + 4 * n)).fence := rfl
  have i1 := hI.store (16 + 4 * n + 1) (i : Int)
  have i2 := i1.store (16 + 4 * n + 2) v
  have i3 := (i2.flush (16 + 4 * n)).fence
  rw [e, St.nw_fence, St.nw_flush, St.nw_store i3 (by omega), St.nw_fence, St.nw_flush, St.nw_store i1 (by omega), St.nw_store hI (by omega)]
theorem LogIs.app {s : St} {k : Kfg} (hk : k.Ok) (hI : s.Is k.words) {ep : Int} {n i : Nat} {v : Int} (h : LogIs s k ep n) (hn : n < k.L) (hx : n + 1 < k.L → s.nw (16 + 4 * (n + 1)) ≠ stampOf ep (n + 1)) : LogIs (s.run (appOps ep n i v)) k ep (n + 1) := by
  have e := fun j => app_nw (ep := ep) (i := i) (v := v) hk hI hn j
  refine ⟨by omega, ?_, fun j hj => ?_, fun hlt => ?_⟩
  · rw [e, if_neg (by omega), if_neg (by omega), if_neg (by omega)]; exact h.epoch
  · rw [e]
    by_cases hjn : j = n
    · subst hjn; rw [if_pos rfl]
    · rw [if_neg (by omega), if_neg (by omega), if_neg (by omega)]; exact h.yes j (by omega)
  · rw [e, if_neg (by omega), if_neg (by omega), if_neg (by omega)]; exact hx hlt
end Go.Proofs.Ytbdomdmnjclpdaa
set_option linter.unusedSimpArgs false
set_option linter.unusedVariables false
set_option maxRecDepth 100000
namespace Go.Proofs.Ytbdomdmnjclpdaa
open Go.RowKit Go.Shelf

/-- A log's cells. -/
abbrev logC (d : DevI) (k : Kfg) (ep : Int) (n : Nat) : Array Value := #[.pointer (some ⟨d.b, 0, none⟩), .int .i64 (k.L : Int), .int .i64 (k.R : Int), .int .i64 (k.S : Int), .int .u64 ep, .int .i64 (n : Int)]
abbrev logR (g : Nat) (d : DevI) (k : Kfg) (ep : Int) (n : Nat) : Res := blkR g 148 (logC d k ep n)

/-- A number in a cell. -/
def cellN (w : World) (g o : Nat) : Nat := match w.cell? ⟨g, o, none⟩ with | some v => (intOf v).toNat | none => 0
theorem cellN_of {w : World} {g o : Nat} {n : Nat} (h : w.cell? ⟨g, o, none⟩ = some (.int .i64 (n : Int))) : cellN w g o = n := by
  unfold cellN; rw [h]; simp [intOf]

set_option maxHeartbeats 400000 in
theorem stamp_any (ep : Int) (i : Nat) (w : World) (h0 : 0 ≤ ep) (h1 : ep < 4294967296) (hi : i ≤ 1000) :
    Calls Try.prog 91 #[.int .u64 ep, .int .i64 i] w fun e w' => e = .returned (.int .u64 (stampOf ep i)) ∧ w = w' := by
  have hs := stamp_or ep i h0 h1 hi
  have HS := Lib.hid hs
  have hiI : (i : Int) ≤ 1000 := by omega
  clear hs
  go_enter Try.func91, Try.ntmps91
  go_wp2
  rw [HS.out]
  go_ret
  exact ⟨rfl, rfl⟩

set_option maxRecDepth 100000 in
set_option maxHeartbeats 2000000 in
theorem open_any (d : DevI) (s : St) (k : Kfg) (ep : Int) (n : Nat) (w : World) (h : Dev w d s) (hk : k.Ok) (he0 : 0 ≤ s.nw 8) (he1 : s.nw 8 ≤ 18446744073709551615) (hl : LogIs s k ep n) :
    Calls Try.prog 83 #[.pointer (some ⟨d.b, 0, none⟩), .agg k.cells] w fun e w' => ∃ g, e = .returned (.pointer (some ⟨g, 0, none⟩)) ∧ w.heap.size ≤ g ∧ Blk w' g 148 (logC d k ep n) ∧ Keep w.heap.size [] w w' := by
  have HS := Lib.hid ((Sep.start w []).new 30 k.cells)
  have H := Lib.hid h
  have HK := Lib.hid hk
  have HL := Lib.hid hl
  have hand : bits .and .u64 (s.nw 8) 4294967295 = ep := by rw [and_32 _ he0 he1]; exact hl.epoch
  have hep : 0 ≤ ep ∧ ep < 4294967296 := by have := hl.epoch; omega
  obtain ⟨hep0, hep1⟩ := hep
  have hkL : (k.L : Int) ≤ 200 := by have := hk.l1; omega
  have HA := Lib.hid hand
  clear h hk hl hand
  simp only [Kfg.cells] at HS ⊢
  go_enter Try.func83, Try.ntmps83
  go_wp2_with fail
  generalize w.alloc _ = w2 at *
  generalize w.heap.size = gc at *
  have c0 : ∀ x : Ext w2, x.now.cell? ⟨gc, 0, none⟩ = some (.int .i64 (k.L : Int)) := fun x => x.cell (by simpa using (HS.out.blk 0 rfl).cell 0)
  have c1 : ∀ x : Ext w2, x.now.cell? ⟨gc, 1, none⟩ = some (.int .i64 (k.R : Int)) := fun x => x.cell (by simpa using (HS.out.blk 0 rfl).cell 1)
  have c2 : ∀ x : Ext w2, x.now.cell? ⟨gc, 2, none⟩ = some (.int .i64 (k.S : Int)) := fun x => x.cell (by simpa using (HS.out.blk 0 rfl).cell 2)
  have h8 : ∀ x : Ext w2, Calls Try.prog 32 #[.pointer (some ⟨d.b, 0, none⟩), .int .i64 8] x.now fun e w' => e = .returned (.int .u64 (s.nw 8)) ∧ x.now = w' := fun x => load_nat d s 8 _ (H.out.of_new (HS.out.grow x.keep).keep)
  have H8 := Lib.hid h8
  have ha := HA.out
  clear h8
  refine wp_region_ext_tail 6 (by kernel_rfl) (by kernel_rfl) ?_
  simp only [List.take_succ_cons, List.take_zero, List.drop_succ_cons, List.drop_zero]
  repeat (go_big_quiet_step ((first | (go_at_call 32; with_reducible exact Calls.ext_same (H8.out _)))))
  refine wpQuiet_nil ?_
  rintro _ ⟨x, rfl⟩
  replace HS := Lib.hid (HS.out.grow x.keep)
  clear c0 c1 c2 ha H8
  go_wp2_with fail
  replace HS := Lib.hid (HS.out.new 148 (logC d k ep 0))
  have HS : Hid (Sep w [] [blkR gc 30 #[.int .i64 (k.L : Int), .int .i64 (k.R : Int), .int .i64 (k.S : Int)], blkR x.now.heap.size 148 (logC d k ep 0)] (x.now.alloc (.cells (logC d k ep 0) 148))) := HS
  have HG : Hid (w.heap.size ≤ x.now.heap.size) := x.keep.size |> fun h => by
    have := HS.out.old 1 _ rfl x.now.heap.size (by simp [blkR])
    rcases Nat.lt_or_ge x.now.heap.size w.heap.size with h | h
    · exact absurd (this h) (by simp)
    · exact h
  simp only [logC] at HS
  generalize x.now.alloc _ = w5 at *
  generalize x.now.heap.size = gl at *
  go_loopw [] (fun wr => ∃ j : Nat, j ≤ n ∧ Sep w [] [blkR gc 30 #[.int .i64 (k.L : Int), .int .i64 (k.R : Int), .int .i64 (k.S : Int)], blkR gl 148 (logC d k ep j)] wr) (fun wr => n - cellN wr gl 5)
  case atStart => exact ⟨0, by omega, HS.out⟩
  case round =>
    clear HS
    obtain ⟨j, hj, hs⟩ := hrel
    have HS := Lib.hid hs
    clear hs
    have hln := HL.out.le
    have hj1 : j ≤ 1000 := by omega
    have hcw : cellN wr gl 5 = j := cellN_of (by simpa using (HS.out.blk 1 rfl).cell 5)
    have HCW := Lib.hid hcw
    clear hcw
    by_cases hlt : j < n
    · have hjL : (j : Int) < k.L := by omega
      have c0 : ∀ x : Ext wr, x.now.cell? ⟨gc, 0, none⟩ = some (.int .i64 (k.L : Int)) := fun x => x.cell (by simpa using (HS.out.blk 0 rfl).cell 0)
      have c1 : ∀ x : Ext wr, x.now.cell? ⟨gc, 1, none⟩ = some (.int .i64 (k.R : Int)) := fun x => x.cell (by simpa using (HS.out.blk 0 rfl).cell 1)
      have c2 : ∀ x : Ext wr, x.now.cell? ⟨gc, 2, none⟩ = some (.int .i64 (k.S : Int)) := fun x => x.cell (by simpa using (HS.out.blk 0 rfl).cell 2)
      have e4 : ∀ x : Ext wr, x.now.cell? ⟨gl, 4, none⟩ = some (.int .u64 ep) := fun x => x.cell (by simpa using (HS.out.blk 1 rfl).cell 4)
      have e5 : ∀ x : Ext wr, x.now.cell? ⟨gl, 5, none⟩ = some (.int .i64 (j : Int)) := fun x => x.cell (by simpa using (HS.out.blk 1 rfl).cell 5)
      obtain ⟨m, hm⟩ : ∃ m, 16 + 4 * j = m := ⟨_, rfl⟩
      have hld : ∀ x : Ext wr, Calls Try.prog 32 #[.pointer (some ⟨d.b, 0, none⟩), .int .i64 (m : Int)] x.now fun e w' => e = .returned (.int .u64 (stampOf ep j)) ∧ x.now = w' := fun x => load_is d s m _ _ (H.out.of_new (HS.out.grow x.keep).keep) (by rw [← hm]; exact HL.out.yes j hlt)
      have HLD := Lib.hid hld
      have HM := Lib.hid hm
      clear hld hm
      go_wp2_with fail
      refine wp_region_ext (by kernel_rfl) (by kernel_rfl) ?_
      repeat (go_big_quiet_step ((first | (go_at_call 62; with_reducible exact Calls.ext (krecord_eq k _ HK.out j m hj1 HM.out)) | (go_at_call 32; with_reducible exact Calls.ext_same (HLD.out _)) | (go_at_call 91; with_reducible exact Calls.ext_same (stamp_any ep j _ hep0 hep1 hj1)))))
      refine wpQuiet_nil ?_
      rintro _ ⟨x, rfl⟩
      replace HS := Lib.hid (HS.out.grow x.keep)
      clear c0 c1 c2 e4 e5
      have e5 := (HS.out.blk 1 rfl).cell 5
      simp at e5
      have f5 := (HS.out.blk 1 rfl).frozen 5
      go_wp2
      have hs2 := HS.out.put (i := 1) rfl 5 (.int .i64 ((j : Int) + 1))
      have hc2 : (logC d k ep j).setIfInBounds 5 (.int .i64 ((j : Int) + 1)) = logC d k ep (j + 1) := by simp [logC]
      rw [hc2] at hs2
      have hcj := cellN_of (n := j + 1) (by simpa using (hs2.blk 1 rfl).cell 5)
      exact ⟨⟨j + 1, by omega, hs2⟩, by rw [hcj, HCW.out]; omega⟩
    · obtain rfl : j = n := by omega
      by_cases hL : j < k.L
      · have hjL : (j : Int) < k.L := by omega
        obtain ⟨y, hy⟩ : ∃ y, s.nw (16 + 4 * j) = y := ⟨_, rfl⟩
        have hne := HL.out.no hL
        rw [hy] at hne
        have hne1 : (y == stampOf ep j) = false := by rw [beq_eq_false_iff_ne]; exact hne
        have HY := Lib.hid hy
        clear hy hne
        have c0 : ∀ x : Ext wr, x.now.cell? ⟨gc, 0, none⟩ = some (.int .i64 (k.L : Int)) := fun x => x.cell (by simpa using (HS.out.blk 0 rfl).cell 0)
        have c1 : ∀ x : Ext wr, x.now.cell? ⟨gc, 1, none⟩ = some (.int .i64 (k.R : Int)) := fun x => x.cell (by simpa using (HS.out.blk 0 rfl).cell 1)
        have c2 : ∀ x : Ext wr, x.now.cell? ⟨gc, 2, none⟩ = some (.int .i64 (k.S : Int)) := fun x => x.cell (by simpa using (HS.out.blk 0 rfl).cell 2)
        have e4 : ∀ x : Ext wr, x.now.cell? ⟨gl, 4, none⟩ = some (.int .u64 ep) := fun x => x.cell (by simpa using (HS.out.blk 1 rfl).cell 4)
        have e5 : ∀ x : Ext wr, x.now.cell? ⟨gl, 5, none⟩ = some (.int .i64 (j : Int)) := fun x => x.cell (by simpa using (HS.out.blk 1 rfl).cell 5)
        obtain ⟨m, hm⟩ : ∃ m, 16 + 4 * j = m := ⟨_, rfl⟩
        have hld : ∀ x : Ext wr, Calls Try.prog 32 #[.pointer (some ⟨d.b, 0, none⟩), .int .i64 (m : Int)] x.now fun e w' => e = .returned (.int .u64 (y)) ∧ x.now = w' := fun x => load_is d s m _ _ (H.out.of_new (HS.out.grow x.keep).keep) (by rw [← hm]; exact HY.out)
        have HLD := Lib.hid hld
        have HM := Lib.hid hm
        clear hld hm
        go_wp2_with fail
        refine wp_region_ext (by kernel_rfl) (by kernel_rfl) ?_
        repeat (go_big_quiet_step ((first | (go_at_call 62; with_reducible exact Calls.ext (krecord_eq k _ HK.out j m hj1 HM.out)) | (go_at_call 32; with_reducible exact Calls.ext_same (HLD.out _)) | (go_at_call 91; with_reducible exact Calls.ext_same (stamp_any ep j _ hep0 hep1 hj1)))))
        refine wpQuiet_nil ?_
        rintro _ ⟨x, rfl⟩
        replace HS := Lib.hid (HS.out.grow x.keep)
        clear c0 c1 c2 e4 e5 hne1
        go_wp2
        go_ret
        exact ⟨gl, rfl, HG.out, HS.out.blk 1 rfl, HS.out.keep⟩
      · have hjL : decide ((j : Int) < k.L) = false := by simp; omega
        have c0 : ∀ x : Ext wr, x.now.cell? ⟨gc, 0, none⟩ = some (.int .i64 (k.L : Int)) := fun x => x.cell (by simpa using (HS.out.blk 0 rfl).cell 0)
        have c1 : ∀ x : Ext wr, x.now.cell? ⟨gc, 1, none⟩ = some (.int .i64 (k.R : Int)) := fun x => x.cell (by simpa using (HS.out.blk 0 rfl).cell 1)
        have c2 : ∀ x : Ext wr, x.now.cell? ⟨gc, 2, none⟩ = some (.int .i64 (k.S : Int)) := fun x => x.cell (by simpa using (HS.out.blk 0 rfl).cell 2)
        have e4 : ∀ x : Ext wr, x.now.cell? ⟨gl, 4, none⟩ = some (.int .u64 ep) := fun x => x.cell (by simpa using (HS.out.blk 1 rfl).cell 4)
        have e5 : ∀ x : Ext wr, x.now.cell? ⟨gl, 5, none⟩ = some (.int .i64 (j : Int)) := fun x => x.cell (by simpa using (HS.out.blk 1 rfl).cell 5)
        go_wp2_with fail
        refine wp_region_ext (by kernel_rfl) (by kernel_rfl) ?_
        repeat (go_big_quiet_step ((first | fail)))
        refine wpQuiet_nil ?_
        rintro _ ⟨x, rfl⟩
        replace HS := Lib.hid (HS.out.grow x.keep)
        clear c0 c1 c2 e4 e5 hjL
        go_wp2
        go_ret
        exact ⟨gl, rfl, HG.out, HS.out.blk 1 rfl, HS.out.keep⟩
end Go.Proofs.Ytbdomdmnjclpdaa
