/-
  Format refused; tumuluslaw05.zero.
-/
import Derived.Test.YthejggahengfnaaAwk5
set_option linter.unusedSimpArgs false
set_option linter.unusedVariables false
namespace Go.Proofs.Ythejggahengfnaa
open Go.RowKit Go.Shelf

set_option maxRecDepth 100000 in
set_option maxHeartbeats 2000000 in
theorem format_size (d : DevI) (s : St) (k : Kfg) (w : World) (h : Dev w d s) (hk : k.Ok) (hn : s.now.length ≠ k.words) :
    Calls Try.prog 30 #[.pointer (some ⟨d.b, 0, none⟩), .agg k.cells] w fun e w' => e = .returned (.int .i64 1) ∧ Keep w.heap.size [] w w' := by
  have HS := Lib.hid ((Sep.start w []).new 43 k.cells)
  have H := Lib.hid h
  have HK := Lib.hid hk
  obtain ⟨n, hnn⟩ : ∃ n, s.now.length = n := ⟨_, rfl⟩
  have HN := Lib.hid hnn
  have hne : ((n : Int) == (k.words : Int)) = false := by rw [beq_eq_false_iff_ne]; omega
  have hne2 : ((n : Int) != (k.words : Int)) = true := by simp [bne, hne]
  clear h hk hn hnn
  simp only [Kfg.cells] at HS ⊢
  go_enter Try.func30, Try.ntmps30
  go_wp2_with fail
  generalize w.alloc _ = w2 at *
  generalize w.heap.size = gc at *
  have c0 : ∀ x : Ext w2, x.now.cell? ⟨gc, 0, none⟩ = some (.int .i64 (k.L : Int)) := fun x => x.cell (by simpa using (HS.out.blk 0 rfl).cell 0)
  have c1 : ∀ x : Ext w2, x.now.cell? ⟨gc, 1, none⟩ = some (.int .i64 (k.R : Int)) := fun x => x.cell (by simpa using (HS.out.blk 0 rfl).cell 1)
  have c2 : ∀ x : Ext w2, x.now.cell? ⟨gc, 2, none⟩ = some (.int .i64 (k.S : Int)) := fun x => x.cell (by simpa using (HS.out.blk 0 rfl).cell 2)
  have hlen : ∀ x : Ext w2, Calls Try.prog 33 #[.pointer (some ⟨d.b, 0, none⟩)] x.now fun e w' => e = .returned (.int .i64 n) ∧ x.now = w' := fun x => by
    have := len_any d s x.now (H.out.of_new (HS.out.grow x.keep).keep)
    rwa [HN.out] at this
  have HLEN := Lib.hid hlen
  clear hlen
  refine wp_region_ext (by kernel_rfl) (by kernel_rfl) ?_
  repeat (go_big_quiet_step ((first | (go_at_call 32; with_reducible exact Calls.ext (kcheck k _ HK.out)) | (go_at_call 33; with_reducible exact Calls.ext_same (HLEN.out _)) | (go_at_call 27; with_reducible exact Calls.ext (kwords k _ HK.out)))))
  refine wpQuiet_nil ?_
  rintro _ ⟨x, rfl⟩
  replace HS := Lib.hid (HS.out.grow x.keep)
  clear c0 c1 c2 HLEN
  go_wp2
  go_ret
  exact ⟨rfl, HS.out.keep⟩

set_option maxRecDepth 100000 in
set_option maxHeartbeats 2000000 in
theorem format_bad (d : DevI) (s : St) (l r p : Int) (w : World) (h : Dev w d s) (hc : errIf (Cfg.okB ⟨l, r, p⟩) = 1) :
    Calls Try.prog 30 #[.pointer (some ⟨d.b, 0, none⟩), .agg #[.int .i64 l, .int .i64 r, .int .i64 p]] w fun e w' => e = .returned (.int .i64 1) ∧ Keep w.heap.size [] w w' := by
  have HS := Lib.hid ((Sep.start w []).new 43 #[.int .i64 l, .int .i64 r, .int .i64 p])
  have hck : ∀ w, Calls Try.prog 32 #[.agg #[.int .i64 l, .int .i64 r, .int .i64 p]] w fun e w' => e = .returned (.int .i64 1) ∧ Keep w.heap.size [] w w' := fun w => by
    have := check_any ⟨l, r, p⟩ w
    rw [hc] at this
    exact this
  have HCK := Lib.hid hck
  clear h hck hc
  go_enter Try.func30, Try.ntmps30
  go_wp2_with fail
  generalize w.alloc _ = w2 at *
  generalize w.heap.size = gc at *
  have c0 : ∀ x : Ext w2, x.now.cell? ⟨gc, 0, none⟩ = some (.int .i64 l) := fun x => x.cell (by simpa using (HS.out.blk 0 rfl).cell 0)
  have c1 : ∀ x : Ext w2, x.now.cell? ⟨gc, 1, none⟩ = some (.int .i64 r) := fun x => x.cell (by simpa using (HS.out.blk 0 rfl).cell 1)
  have c2 : ∀ x : Ext w2, x.now.cell? ⟨gc, 2, none⟩ = some (.int .i64 p) := fun x => x.cell (by simpa using (HS.out.blk 0 rfl).cell 2)
  refine wp_region_ext (by kernel_rfl) (by kernel_rfl) ?_
  repeat (go_big_quiet_step ((first | (go_at_call 32; with_reducible exact Calls.ext (HCK.out _)))))
  refine wpQuiet_nil ?_
  rintro _ ⟨x, rfl⟩
  replace HS := Lib.hid (HS.out.grow x.keep)
  clear c0 c1 c2
  go_wp2
  go_ret
  exact ⟨rfl, HS.out.keep⟩

set_option maxRecDepth 100000 in
set_option maxHeartbeats 2000000 in
theorem zero_any (d : DevI) (s : St) (w : World) (h : Dev w d s) (hz : ∀ j, j < s.now.length → s.nw j = 0) :
    Calls Try.prog 31 #[.pointer (some ⟨d.b, 0, none⟩)] w fun e w' => e = .returned (.bool true) ∧ Keep w.heap.size [] w w' := by
  have HS := Lib.hid (Sep.start w [])
  have H := Lib.hid h
  have HZ := Lib.hid hz
  obtain ⟨n, hnn⟩ : ∃ n, s.now.length = n := ⟨_, rfl⟩
  have HN := Lib.hid hnn
  have hsm : (n : Int) ≤ 1099511627776 := by have := h.small; omega
  clear h hz hnn
  go_enter Try.func31, Try.ntmps31
  go_wp2_with fail
  refine (words_any d s _ H.out).mono ?_
  rintro e w1 ⟨va, ga, xa, rfl, hn⟩
  have va_v := hn.val
  replace HS := Lib.hid (HS.out.add hn.keep (r := blkR ga _ _) hn.blk (by intro k hk; simp [blkR] at hk; subst hk; exact hn.new))
  clear hn
  rw [uw_length, HN.out] at va_v
  subst va_v
  go_wp2_with fail
  go_loopw [8] (fun v' wr => ∃ j : Nat, j ≤ n ∧ v' = .int .i64 (j : Int) ∧ Sep w [] [blkR ga 27 (uw s.now ++ xa).toArray] wr) (fun v' _ => n - (intOf v').toNat)
  case atStart => exact ⟨0, by omega, rfl, HS.out⟩
  case round =>
    clear HS
    obtain ⟨j, hj, rfl, hs⟩ := hrel
    have HS := Lib.hid hs
    clear hs
    by_cases hlt : j < n
    · have hltI : (j : Int) < n := by omega
      have k0 : wr.cell? ⟨ga, j, none⟩ = some (.int .u64 0) := by
        have h0 := HZ.out j (by rw [HN.out]; exact hlt)
        have hnn := HN.out
        rw [(HS.out.blk 0 rfl).cell]
        simp only [List.getElem?_toArray]
        rw [List.getElem?_append_left (by rw [uw_length]; omega), uw, List.getElem?_map]
        unfold St.nw at h0
        rw [List.getD_eq_getElem?_getD, List.getElem?_eq_getElem (by omega)] at h0
        rw [List.getElem?_eq_getElem (by omega)]
        simp only [Option.getD_some] at h0
        rw [h0]; rfl
      go_wp2
      exact ⟨⟨j + 1, by omega, by go_num, HS.out⟩, by simp [intOf]; omega⟩
    · have hge : (n : Int) ≤ j := by omega
      go_wp2
      go_ret
      exact ⟨rfl, HS.out.keep⟩
end Go.Proofs.Ythejggahengfnaa
