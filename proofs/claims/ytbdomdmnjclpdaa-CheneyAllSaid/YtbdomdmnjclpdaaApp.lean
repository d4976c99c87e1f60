/-
  ulog.Append, Truncate: rows of operations, cut anywhere.
  ulog.Truncate, Len, Epoch; Append's errors.
-/
import Derived.Test.YtbdomdmnjclpdaaLog
set_option linter.unusedSimpArgs false
set_option linter.unusedVariables false
set_option maxRecDepth 100000
namespace Go.Proofs.Ytbdomdmnjclpdaa
open Go.RowKit Go.Shelf

theorem Sep.two {w : World} {r q : Res} (hr : r.holds w) (hq : q.holds w) (ha : ∀ k ∈ r.blocks, k ∉ q.blocks) : Sep w (r.blocks ++ q.blocks) [r, q] w := by
  refine ⟨Keep.refl _ _ _, ?_, ?_, ?_⟩
  · intro i x hi
    rcases i with _ | _ | i <;> simp at hi <;> subst hi <;> assumption
  · intro i j a b hne hi hj k hka hkb
    rcases i with _ | _ | i <;> rcases j with _ | _ | j <;> simp at hi hj hne
    · subst hi hj; exact ha k hka hkb
    · subst hi hj; exact ha k hkb hka
  · intro i x hi k hk _
    rcases i with _ | _ | i <;> simp at hi <;> subst hi <;> simp [hk]

/-- Some operations were done, all of them, and the log is another one; or cut. -/
def LPlayed (w : World) (d : DevI) (g : Nat) (s : St) (ops : List Dop) (c c' : Array Value) (r : Value) (e : Ending) (w' : World) : Prop :=
  (e = .returned r ∧ Dev w' d (s.run ops) ∧ Blk w' g 148 c' ∧ Keep w.heap.size (d.blocks ++ [g]) w w') ∨
  ∃ m, m < ops.length ∧ (s.run (ops.take m)).goes ∧ e = offE ∧ Dev w' d (s.run (ops.take m)) ∧ Blk w' g 148 c ∧ Keep w.heap.size (d.blocks ++ [g]) w w'
theorem LPlayed.free {w w' : World} {d : DevI} {g : Nat} {s : St} {ops : List Dop} {c c' : Array Value} {r : Value} {e : Ending} (h : LPlayed w d g s ops c c' r e w') (hl : s.l < 0) :
    e = .returned r ∧ Dev w' d (s.run ops) ∧ Blk w' g 148 c' ∧ Keep w.heap.size (d.blocks ++ [g]) w w' := by
  rcases h with h | ⟨m, _, hg, _⟩
  · exact h
  · exact absurd hg.1 (by rw [St.run_l]; omega)
section
variable {w w1 : World} {d : DevI} {g : Nat} {s : St} {ops pre : List Dop} {o : Dop} {c c' : Array Value} {r : Value} {L : List Res}
theorem Sep.cut_log (HS : Sep w (d.blocks ++ [g]) L w1) (h0 : L[0]? = some (devR d (s.run pre))) (h1 : L[1]? = some (blkR g 148 c)) (hp : (pre ++ [o]) <+: ops) (hg : (s.run pre).goes) : LPlayed w d g s ops c c' r offE w1 := by
  obtain ⟨rest, hr⟩ := hp
  have hl : pre.length < ops.length := by rw [← hr]; simp
  have ht : ops.take pre.length = pre := by rw [← hr]; simp
  exact .inr ⟨pre.length, hl, by rw [ht]; exact hg, rfl, by rw [ht]; exact HS.dev 0 h0, HS.blk 1 h1, HS.keep⟩
theorem Sep.did_log (HS : Sep w (d.blocks ++ [g]) L w1) (h0 : L[0]? = some (devR d (s.run ops))) (h1 : L[1]? = some (blkR g 148 c')) : LPlayed w d g s ops c c' r (.returned r) w1 :=
  .inl ⟨rfl, HS.dev 0 h0, HS.blk 1 h1, HS.keep⟩
end

def appM (m i : Nat) (v st : Int) : List Dop := [.st (m + 1) i, .st (m + 2) v, .fl m, .fe, .st m st, .fl m, .fe]
theorem appOps_eq (ep v : Int) (n i : Nat) : appOps ep n i v = appM (16 + 4 * n) i v (stampOf ep n) := rfl

set_option maxRecDepth 100000 in
set_option maxHeartbeats 2000000 in
theorem append_any (d : DevI) (s : St) (k : Kfg) (ep v : Int) (n i g : Nat) (w : World) (h : Dev w d s) (hb : Blk w g 148 (logC d k ep n)) (hgd : g ∉ d.blocks) (hk : k.Ok) (hl : s.now.length = k.words) (he0 : 0 ≤ ep) (he1 : ep < 4294967296) (hn : n < k.L) (hi : i < k.words) (hv : (s.store (16 + 4 * n + 1) i).nw i = v) :
    Calls Try.prog 84 #[.pointer (some ⟨g, 0, none⟩), .int .i64 i] w (LPlayed w d g s (appOps ep n i v) (logC d k ep n) (logC d k ep (n + 1)) (.int .i64 0)) := by
  have hs0 := Sep.two (r := devR d s) (q := blkR g 148 (logC d k ep n)) h hb (fun x hx hx2 => by simp [blkR] at hx2; subst hx2; exact hgd hx)
  have HS : Hid (Sep w (d.blocks ++ [g]) [devR d (s.run []), blkR g 148 (logC d k ep n)] w) := hs0
  obtain ⟨w0, w1⟩ := Kfg.words_le hk
  have hlen : ∀ l : List Dop, (s.run l).now.length = k.words := fun l => by
    have : s.Is k.words := ⟨hl, h.lk.trans hl⟩
    exact (this.run l).now
  have HL := Lib.hid hlen
  have HK := Lib.hid hk
  have HV := Lib.hid hv
  obtain ⟨m, hm⟩ : ∃ m, 16 + 4 * n = m := ⟨_, rfl⟩
  have hmw : m + 2 < k.words ∧ m ≤ 1000 := by have := k.act_le; have := hk.l1; omega
  obtain ⟨hmw1, hmw2⟩ := hmw
  have HM := Lib.hid hm
  obtain ⟨nw, hnw⟩ : ∃ nw, k.words = nw := ⟨_, rfl⟩
  have HNW := Lib.hid hnw
  have hiI : (i : Int) < nw := by omega
  have hnI : (n : Int) < k.L := by omega
  have hne : ((n : Int) == (k.L : Int)) = false := by rw [beq_eq_false_iff_ne]; omega
  have hkL : (k.L : Int) ≤ 200 := by have := hk.l1; omega
  have hi2 : (i : Int) ≤ 10000 := by omega
  have hi0 : decide ((i : Int) < 0) = false := by simp
  have hm1I : ((m + 1 : Nat) : Int) = (m : Int) + 1 := by omega
  rw [appOps_eq, hm]
  rw [hm] at HV
  clear hs0 h hb hl hk hlen hv hm hnw hgd hm1I
  go_enter Try.func84, Try.ntmps84
  have e0 := (HS.out.blk 1 rfl).cell 0
  simp at e0
  go_wp2_with fail
  refine (len_any d _ _ (HS.out.dev 0 rfl)).mono ?_
  rintro e w' ⟨rfl, rfl⟩
  rw [HL.out, HNW.out]
  clear e0
  have c5 : ∀ x : Ext w, x.now.cell? ⟨g, 5, none⟩ = some (.int .i64 (n : Int)) := fun x => x.cell (by simpa using (HS.out.blk 1 rfl).cell 5)
  have c1 : ∀ x : Ext w, x.now.cell? ⟨g, 1, none⟩ = some (.int .i64 (k.L : Int)) := fun x => x.cell (by simpa using (HS.out.blk 1 rfl).cell 1)
  go_wp2_with fail
  refine wp_region_ext (by kernel_rfl) (by kernel_rfl) ?_
  repeat (go_big_quiet_step ((first | fail)))
  refine wpQuiet_nil ?_
  rintro _ ⟨x, rfl⟩
  replace HS := Lib.hid (HS.out.grow x.keep)
  clear c5 c1
  have c5 : ∀ x : Ext x.now, x.now.cell? ⟨g, 5, none⟩ = some (.int .i64 (n : Int)) := fun x => x.cell (by simpa using (HS.out.blk 1 rfl).cell 5)
  have c1 : ∀ x : Ext x.now, x.now.cell? ⟨g, 1, none⟩ = some (.int .i64 (k.L : Int)) := fun x => x.cell (by simpa using (HS.out.blk 1 rfl).cell 1)
  have c2 : ∀ x : Ext x.now, x.now.cell? ⟨g, 2, none⟩ = some (.int .i64 (k.R : Int)) := fun x => x.cell (by simpa using (HS.out.blk 1 rfl).cell 2)
  have c3 : ∀ x : Ext x.now, x.now.cell? ⟨g, 3, none⟩ = some (.int .i64 (k.S : Int)) := fun x => x.cell (by simpa using (HS.out.blk 1 rfl).cell 3)
  go_wp2_with fail
  refine wp_region_ext (by kernel_rfl) (by kernel_rfl) ?_
  repeat (go_big_quiet_step ((first | (go_at_call 62; with_reducible exact Calls.ext (krecord_eq k _ HK.out n m (by omega) HM.out)))))
  refine wpQuiet_nil ?_
  rintro _ ⟨x, rfl⟩
  replace HS := Lib.hid (HS.out.grow x.keep)
  clear c5 c1 c2 c3
  have e0 := (HS.out.blk 1 rfl).cell 0
  simp at e0
  go_wp2_with fail
  refine (store_op d _ (m + 1) i _ (HS.out.dev 0 rfl) (by rw [HL.out]; omega)).mono ?_
  rintro e w1 (⟨rfl, hd, hk⟩ | ⟨hg, rfl, hd, hk⟩)
  rotate_left
  · replace HS := Lib.hid (HS.out.did (i := 0) rfl hd hk)
    have HG := Lib.hid hg
    clear hd hk hg
    unfold offE
    go_wp2
    exact ⟨rfl, HS.out.cut_log rfl rfl (⟨_, rfl⟩) HG.out⟩
  rw [← St.run_snoc] at hd
  replace HS := Lib.hid (HS.out.did (i := 0) rfl hd hk)
  clear hd hk
  clear e0
  go_wp2_with fail
  have e0 : ∀ x : Ext w1, x.now.cell? ⟨g, 0, none⟩ = some (.pointer (some ⟨d.b, 0, none⟩)) := fun x => x.cell (by simpa using (HS.out.blk 1 rfl).cell 0)
  have hld : ∀ x : Ext w1, Calls Try.prog 32 #[.pointer (some ⟨d.b, 0, none⟩), .int .i64 i] x.now fun e w' => e = .returned (.int .u64 v) ∧ x.now = w' := fun x => load_is d _ i _ _ ((HS.out.grow x.keep).dev 0 rfl) HV.out
  have HLD := Lib.hid hld
  have hm2 : IntKind.i64.wrap ((m : Int) + 2) = ((m + 2 : Nat) : Int) := by rw [IntKind.wrap_i64]; omega
  clear hld
  refine wp_region_ext_tail 12 (by kernel_rfl) (by kernel_rfl) ?_
  simp only [List.take_succ_cons, List.take_zero, List.drop_succ_cons, List.drop_zero]
  repeat (go_big_quiet_step ((first | (go_at_call 32; with_reducible exact Calls.ext_same (HLD.out _)))))
  refine wpQuiet_nil ?_
  rintro _ ⟨x, rfl⟩
  replace HS := Lib.hid (HS.out.grow x.keep)
  clear e0 HLD
  go_wp2_with fail
  try rw [hm2]
  go_wp2_with fail
  refine (store_op d _ (m + 2) v _ (HS.out.dev 0 rfl) (by rw [HL.out]; omega)).mono ?_
  rintro e w1 (⟨rfl, hd, hk⟩ | ⟨hg, rfl, hd, hk⟩)
  rotate_left
  · replace HS := Lib.hid (HS.out.did (i := 0) rfl hd hk)
    have HG := Lib.hid hg
    clear hd hk hg
    unfold offE
    go_wp2
    exact ⟨rfl, HS.out.cut_log rfl rfl (⟨_, rfl⟩) HG.out⟩
  rw [← St.run_snoc] at hd
  replace HS := Lib.hid (HS.out.did (i := 0) rfl hd hk)
  clear hd hk
  have e0 := (HS.out.blk 1 rfl).cell 0
  simp at e0
  go_wp2_with fail
  refine (flush_op d _ m _ (HS.out.dev 0 rfl) (by rw [HL.out]; omega)).mono ?_
  rintro e w1 (⟨rfl, hd, hk⟩ | ⟨hg, rfl, hd, hk⟩)
  rotate_left
  · replace HS := Lib.hid (HS.out.did (i := 0) rfl hd hk)
    have HG := Lib.hid hg
    clear hd hk hg
    unfold offE
    go_wp2
    exact ⟨rfl, HS.out.cut_log rfl rfl (⟨_, rfl⟩) HG.out⟩
  rw [← St.run_snoc] at hd
  replace HS := Lib.hid (HS.out.did (i := 0) rfl hd hk)
  clear hd hk
  clear e0
  have e0 := (HS.out.blk 1 rfl).cell 0
  simp at e0
  go_wp2_with fail
  refine (fence_op d _ _ (HS.out.dev 0 rfl)).mono ?_
  rintro e w1 (⟨rfl, hd, hk⟩ | ⟨hg, rfl, hd, hk⟩)
  rotate_left
  · replace HS := Lib.hid (HS.out.did (i := 0) rfl hd hk)
    have HG := Lib.hid hg
    clear hd hk hg
    unfold offE
    go_wp2
    exact ⟨rfl, HS.out.cut_log rfl rfl (⟨_, rfl⟩) HG.out⟩
  rw [← St.run_snoc] at hd
  replace HS := Lib.hid (HS.out.did (i := 0) rfl hd hk)
  clear hd hk
  clear e0
  go_wp2_with fail
  have e0 : ∀ x : Ext w1, x.now.cell? ⟨g, 0, none⟩ = some (.pointer (some ⟨d.b, 0, none⟩)) := fun x => x.cell (by simpa using (HS.out.blk 1 rfl).cell 0)
  have e4 : ∀ x : Ext w1, x.now.cell? ⟨g, 4, none⟩ = some (.int .u64 ep) := fun x => x.cell (by simpa using (HS.out.blk 1 rfl).cell 4)
  have e5 : ∀ x : Ext w1, x.now.cell? ⟨g, 5, none⟩ = some (.int .i64 (n : Int)) := fun x => x.cell (by simpa using (HS.out.blk 1 rfl).cell 5)
  refine wp_region_ext_tail 14 (by kernel_rfl) (by kernel_rfl) ?_
  simp only [List.take_succ_cons, List.take_zero, List.drop_succ_cons, List.drop_zero]
  repeat (go_big_quiet_step ((first | (go_at_call 91; with_reducible exact Calls.ext_same (stamp_any ep n _ he0 he1 (by omega))))))
  refine wpQuiet_nil ?_
  rintro _ ⟨x, rfl⟩
  replace HS := Lib.hid (HS.out.grow x.keep)
  clear e0 e4 e5
  go_wp2_with fail
  refine (store_op d _ m (stampOf ep n) _ (HS.out.dev 0 rfl) (by rw [HL.out]; omega)).mono ?_
  rintro e w1 (⟨rfl, hd, hk⟩ | ⟨hg, rfl, hd, hk⟩)
  rotate_left
  · replace HS := Lib.hid (HS.out.did (i := 0) rfl hd hk)
    have HG := Lib.hid hg
    clear hd hk hg
    unfold offE
    go_wp2
    exact ⟨rfl, HS.out.cut_log rfl rfl (⟨_, rfl⟩) HG.out⟩
  rw [← St.run_snoc] at hd
  replace HS := Lib.hid (HS.out.did (i := 0) rfl hd hk)
  clear hd hk
  have e0 := (HS.out.blk 1 rfl).cell 0
  simp at e0
  go_wp2_with fail
  refine (flush_op d _ m _ (HS.out.dev 0 rfl) (by rw [HL.out]; omega)).mono ?_
  rintro e w1 (⟨rfl, hd, hk⟩ | ⟨hg, rfl, hd, hk⟩)
  rotate_left
  · replace HS := Lib.hid (HS.out.did (i := 0) rfl hd hk)
    have HG := Lib.hid hg
    clear hd hk hg
    unfold offE
    go_wp2
    exact ⟨rfl, HS.out.cut_log rfl rfl (⟨_, rfl⟩) HG.out⟩
  rw [← St.run_snoc] at hd
  replace HS := Lib.hid (HS.out.did (i := 0) rfl hd hk)
  clear hd hk
  clear e0
  have e0 := (HS.out.blk 1 rfl).cell 0
  simp at e0
  go_wp2_with fail
  refine (fence_op d _ _ (HS.out.dev 0 rfl)).mono ?_
  rintro e w1 (⟨rfl, hd, hk⟩ | ⟨hg, rfl, hd, hk⟩)
  rotate_left
  · replace HS := Lib.hid (HS.out.did (i := 0) rfl hd hk)
    have HG := Lib.hid hg
    clear hd hk hg
    unfold offE
    go_wp2
    exact ⟨rfl, HS.out.cut_log rfl rfl (⟨_, rfl⟩) HG.out⟩
  rw [← St.run_snoc] at hd
  replace HS := Lib.hid (HS.out.did (i := 0) rfl hd hk)
  clear hd hk
  clear e0
  have e5 := (HS.out.blk 1 rfl).cell 5
  simp at e5
  have f5 := (HS.out.blk 1 rfl).frozen 5
  go_wp2_with fail
  go_ret
  have hs2 := HS.out.put (i := 1) rfl 5 (.int .i64 ((n : Int) + 1))
  have hc2 : (logC d k ep n).setIfInBounds 5 (.int .i64 ((n : Int) + 1)) = logC d k ep (n + 1) := by simp [logC]
  rw [hc2] at hs2
  exact hs2.did_log rfl rfl
end Go.Proofs.Ytbdomdmnjclpdaa
set_option linter.unusedSimpArgs false
set_option linter.unusedVariables false
set_option maxRecDepth 100000
namespace Go.Proofs.Ytbdomdmnjclpdaa
open Go.RowKit Go.Shelf

set_option maxRecDepth 100000 in
set_option maxHeartbeats 2000000 in
theorem log_len (d : DevI) (k : Kfg) (ep : Int) (n g : Nat) (w : World) (hb : Blk w g 148 (logC d k ep n)) :
    Calls Try.prog 86 #[.pointer (some ⟨g, 0, none⟩)] w fun e w' => e = .returned (.int .i64 n) ∧ w = w' := by
  have c5 := hb.cell 5
  simp at c5
  clear hb
  go_enter Try.func86, Try.ntmps86
  go_wp2
  go_ret
  exact ⟨rfl, rfl⟩

set_option maxRecDepth 100000 in
set_option maxHeartbeats 2000000 in
theorem log_epoch (d : DevI) (k : Kfg) (ep : Int) (n g : Nat) (w : World) (hb : Blk w g 148 (logC d k ep n)) :
    Calls Try.prog 87 #[.pointer (some ⟨g, 0, none⟩)] w fun e w' => e = .returned (.int .u64 ep) ∧ w = w' := by
  have c4 := hb.cell 4
  simp at c4
  clear hb
  go_enter Try.func87, Try.ntmps87
  go_wp2
  go_ret
  exact ⟨rfl, rfl⟩

set_option maxRecDepth 100000 in
set_option maxHeartbeats 2000000 in
theorem truncate_none (d : DevI) (k : Kfg) (ep : Int) (g : Nat) (w : World) (hb : Blk w g 148 (logC d k ep 0)) :
    Calls Try.prog 93 #[.pointer (some ⟨g, 0, none⟩)] w fun e w' => e = .returned (.tuple #[]) ∧ w = w' := by
  have c5 := hb.cell 5
  simp at c5
  clear hb
  go_enter Try.func93, Try.ntmps93
  go_wp2
  exact bodyPost_ret (results_none rfl _ _ _) rfl ⟨rfl, rfl⟩

set_option maxRecDepth 100000 in
set_option maxHeartbeats 2000000 in
theorem truncate_any (d : DevI) (s : St) (k : Kfg) (ep : Int) (n g : Nat) (w : World) (h : Dev w d s) (hb : Blk w g 148 (logC d k ep n)) (hgd : g ∉ d.blocks) (hl : 8 < s.now.length) (he0 : 0 ≤ ep) (he1 : ep < 4294967296) (hn : 0 < n) :
    Calls Try.prog 93 #[.pointer (some ⟨g, 0, none⟩)] w (LPlayed w d g s (truncOps ep) (logC d k ep n) (logC d k ((ep + 1) % 4294967296) 0) (.tuple #[])) := by
  have hs0 := Sep.two (r := devR d s) (q := blkR g 148 (logC d k ep n)) h hb (fun x hx hx2 => by simp [blkR] at hx2; subst hx2; exact hgd hx)
  have HS : Hid (Sep w (d.blocks ++ [g]) [devR d (s.run []), blkR g 148 (logC d k ep n)] w) := hs0
  have hlen : ∀ l : List Dop, 8 < (s.run l).now.length := fun l => by
    have : s.Is s.now.length := ⟨rfl, h.lk⟩
    rw [(this.run l).now]; exact hl
  have HL := Lib.hid hlen
  obtain ⟨q, hq⟩ : ∃ q, (ep + 1) % 4294967296 = q := ⟨_, rfl⟩
  have hand : bits .and .u64 (ep + 1) 4294967295 = q := by rw [and_32 _ (by omega) (by omega)]; exact hq
  have hwr : IntKind.u64.wrap (ep + 1) = ep + 1 := u64_wraps _ (by omega) (by omega)
  have hto : truncOps ep = [.st 8 q, .fl 8, .fe] := by rw [← hq]; rfl
  have hnz : ((n : Int) == 0) = false := by rw [beq_eq_false_iff_ne]; omega
  rw [hto, hq]
  clear hs0 h hb hl hlen hq hto hgd
  go_enter Try.func93, Try.ntmps93
  have e5 := (HS.out.blk 1 rfl).cell 5
  simp at e5
  go_wp2_with fail
  clear e5
  have e0 : ∀ x : Ext w, x.now.cell? ⟨g, 0, none⟩ = some (.pointer (some ⟨d.b, 0, none⟩)) := fun x => x.cell (by simpa using (HS.out.blk 1 rfl).cell 0)
  have e4 : ∀ x : Ext w, x.now.cell? ⟨g, 4, none⟩ = some (.int .u64 ep) := fun x => x.cell (by simpa using (HS.out.blk 1 rfl).cell 4)
  refine wp_region_ext_tail 10 (by kernel_rfl) (by kernel_rfl) ?_
  simp only [List.take_succ_cons, List.take_zero, List.drop_succ_cons, List.drop_zero]
  repeat (go_big_quiet_step ((first | fail)))
  refine wpQuiet_nil ?_
  rintro _ ⟨x, rfl⟩
  replace HS := Lib.hid (HS.out.grow x.keep)
  clear e0 e4
  go_wp2_with fail
  refine (store_op d _ 8 q _ (HS.out.dev 0 rfl) (HL.out _)).mono ?_
  rintro e w1 (⟨rfl, hd, hk⟩ | ⟨hg, rfl, hd, hk⟩)
  rotate_left
  · replace HS := Lib.hid (HS.out.did (i := 0) rfl hd hk)
    have HG := Lib.hid hg
    clear hd hk hg
    unfold offE
    go_wp2
    exact ⟨rfl, HS.out.cut_log rfl rfl (⟨_, rfl⟩) HG.out⟩
  rw [← St.run_snoc] at hd
  replace HS := Lib.hid (HS.out.did (i := 0) rfl hd hk)
  clear hd hk
  have e0 := (HS.out.blk 1 rfl).cell 0
  simp at e0
  go_wp2_with fail
  refine (flush_op d _ 8 _ (HS.out.dev 0 rfl) (HL.out _)).mono ?_
  rintro e w1 (⟨rfl, hd, hk⟩ | ⟨hg, rfl, hd, hk⟩)
  rotate_left
  · replace HS := Lib.hid (HS.out.did (i := 0) rfl hd hk)
    have HG := Lib.hid hg
    clear hd hk hg
    unfold offE
    go_wp2
    exact ⟨rfl, HS.out.cut_log rfl rfl (⟨_, rfl⟩) HG.out⟩
  rw [← St.run_snoc] at hd
  replace HS := Lib.hid (HS.out.did (i := 0) rfl hd hk)
  clear hd hk
  clear e0
  have e0 := (HS.out.blk 1 rfl).cell 0
  simp at e0
  go_wp2_with fail
  refine (fence_op d _ _ (HS.out.dev 0 rfl)).mono ?_
  rintro e w1 (⟨rfl, hd, hk⟩ | ⟨hg, rfl, hd, hk⟩)
  rotate_left
  · replace HS := Lib.hid (HS.out.did (i := 0) rfl hd hk)
    have HG := Lib.hid hg
    clear hd hk hg
    unfold offE
    go_wp2
    exact ⟨rfl, HS.out.cut_log rfl rfl (⟨_, rfl⟩) HG.out⟩
  rw [← St.run_snoc] at hd
  replace HS := Lib.hid (HS.out.did (i := 0) rfl hd hk)
  clear hd hk
  clear e0
  have e4 := (HS.out.blk 1 rfl).cell 4
  simp at e4
  have e5 := (HS.out.blk 1 rfl).cell 5
  simp at e5
  have f4 := (HS.out.blk 1 rfl).frozen 4
  have f5 := (HS.out.blk 1 rfl).frozen 5
  go_wp2_with fail
  go_end0
  have hs2 := (HS.out.put (i := 1) rfl 4 (.int .u64 q)).put (i := 1) rfl 5 (.int .i64 0)
  have hc2 : ((logC d k ep n).setIfInBounds 4 (.int .u64 q)).setIfInBounds 5 (.int .i64 0) = logC d k q 0 := by simp [logC]
  rw [hc2] at hs2
  exact hs2.did_log rfl rfl

set_option maxRecDepth 100000 in
set_option maxHeartbeats 2000000 in
theorem append_low (d : DevI) (k : Kfg) (ep i : Int) (n g : Nat) (w : World) (hi : i < 0) :
    Calls Try.prog 84 #[.pointer (some ⟨g, 0, none⟩), .int .i64 i] w fun e w' => e = .returned (.int .i64 1) ∧ w = w' := by
  go_enter Try.func84, Try.ntmps84
  go_wp2
  go_ret
  exact ⟨rfl, rfl⟩

set_option maxRecDepth 100000 in
set_option maxHeartbeats 2000000 in
theorem append_high (d : DevI) (s : St) (k : Kfg) (ep i : Int) (n g : Nat) (w : World) (h : Dev w d s) (hb : Blk w g 148 (logC d k ep n)) (hi0 : 0 ≤ i) (hi : (s.now.length : Int) ≤ i) :
    Calls Try.prog 84 #[.pointer (some ⟨g, 0, none⟩), .int .i64 i] w fun e w' => e = .returned (.int .i64 1) ∧ w = w' := by
  have c0 := hb.cell 0
  simp at c0
  clear hb
  have hi1 : decide (i < 0) = false := by simp; omega
  have hi2 : decide ((s.now.length : Int) ≤ i) = true := by simp; omega
  obtain ⟨nw, hnw⟩ : ∃ nw : Int, (s.now.length : Int) = nw := ⟨_, rfl⟩
  have HNW := Lib.hid hnw
  have H := Lib.hid h
  rw [hnw] at hi hi2
  clear h hnw
  go_enter Try.func84, Try.ntmps84
  go_wp2_with fail
  refine (len_any d s _ H.out).mono ?_
  rintro e w' ⟨rfl, rfl⟩
  rw [HNW.out]
  go_wp2
  go_ret
  exact ⟨rfl, rfl⟩

set_option maxRecDepth 100000 in
set_option maxHeartbeats 2000000 in
theorem append_full (d : DevI) (s : St) (k : Kfg) (ep i : Int) (n g : Nat) (w : World) (h : Dev w d s) (hb : Blk w g 148 (logC d k ep n)) (hi0 : 0 ≤ i) (hi : i < (s.now.length : Int)) (hn : n = k.L) :
    Calls Try.prog 84 #[.pointer (some ⟨g, 0, none⟩), .int .i64 i] w fun e w' => e = .returned (.int .i64 3) ∧ Keep w.heap.size [] w w' := by
  have hs0 := Sep.one (r := blkR g 148 (logC d k ep n)) hb
  have HS : Hid (Sep w [g] [blkR g 148 (logC d k ep n)] w) := hs0
  have hi1 : decide (i < 0) = false := by simp; omega
  have hi2 : decide ((s.now.length : Int) ≤ i) = false := by simp; omega
  obtain ⟨nw, hnw⟩ : ∃ nw : Int, (s.now.length : Int) = nw := ⟨_, rfl⟩
  have hne : ((n : Int) == (k.L : Int)) = true := by rw [beq_iff_eq]; omega
  have HNW := Lib.hid hnw
  have H := Lib.hid h
  rw [hnw] at hi hi2
  clear h hnw hs0 hb hn
  go_enter Try.func84, Try.ntmps84
  have c0 := (HS.out.blk 0 rfl).cell 0
  simp at c0
  go_wp2_with fail
  refine (len_any d s _ H.out).mono ?_
  rintro e w' ⟨rfl, rfl⟩
  rw [HNW.out]
  go_wp2_with fail
  clear c0
  have c5 : ∀ x : Ext w, x.now.cell? ⟨g, 5, none⟩ = some (.int .i64 (n : Int)) := fun x => x.cell (by simpa using (HS.out.blk 0 rfl).cell 5)
  have c1 : ∀ x : Ext w, x.now.cell? ⟨g, 1, none⟩ = some (.int .i64 (k.L : Int)) := fun x => x.cell (by simpa using (HS.out.blk 0 rfl).cell 1)
  refine wp_region_ext (by kernel_rfl) (by kernel_rfl) ?_
  repeat (go_big_quiet_step ((first | fail)))
  refine wpQuiet_nil ?_
  rintro _ ⟨x, rfl⟩
  replace HS := Lib.hid (HS.out.grow x.keep)
  go_wp2
  go_ret
  exact ⟨rfl, x.keep⟩
end Go.Proofs.Ytbdomdmnjclpdaa
