/-
  UlogCut: what is done while the power may go.
-/
import Derived.Deep.CutRange
import Derived.Test.YthfelcnhkabdhaaUndoQ
import Derived.Test.YthfelcnhkabdhaaBehind
import Derived.Test.YthfelcnhkabdhaaRelT
import Derived.Test.YthfelcnhkabdhaaSepRun
set_option linter.unusedSimpArgs false
set_option linter.unusedVariables false
namespace Go.Proofs.Ythfelcnhkabdhaa
open Go.RowKit Go.Shelf

/-- However it is left now, it is a log that undone is as it was. -/
def CutOk (t : St) (k : Kfg) (og : Nat → Int) : Prop := t.Is k.words ∧ ∀ ch, (∃ n p v, P1 (t.crash ch) k og n p v) ∨ P2 (t.crash ch) k og
theorem P1.cutOk {t : St} {k : Kfg} {og : Nat → Int} {n : Nat} {p : Nat → Nat} {v : Nat → Int} (hk : k.Ok) (hI : t.Is k.words) (h : P1 t k og n p v) : CutOk t k og := ⟨hI, fun ch => .inl ⟨n, p, v, h.crash hk hI ch⟩⟩
theorem P2.cutOk {t : St} {k : Kfg} {og : Nat → Int} (hk : k.Ok) (hI : t.Is k.words) (h : P2 t k og) : CutOk t k og := ⟨hI, fun ch => .inr (h.crash hk hI ch)⟩
theorem P1.undo_ok {t : St} {k : Kfg} {og : Nat → Int} {n : Nat} {p : Nat → Nat} {v : Nat → Int} (hk : k.Ok) (hI : t.Is k.words) (h : P1 t k og n p v) : CutOk (t.run (undoOps 1 p v n)) k og := by
  by_cases hn : n = 0
  · subst hn
    rw [undo_none]
    exact h.cutOk hk hI
  · exact (h.undo hk hI (by omega)).cutOk hk (hI.run _)
theorem P1.undo_cut_ok {t : St} {k : Kfg} {og : Nat → Int} {n : Nat} {p : Nat → Nat} {v : Nat → Int} (hk : k.Ok) (hI : t.Is k.words) (h : P1 t k og n p v) (m : Nat) : CutOk (t.run ((undoOps 1 p v n).take m)) k og :=
  ⟨hI.run _, fun ch => (h.undo_cut hk hI m ch).imp (fun h => ⟨n, p, v, h⟩) (fun h => h)⟩
theorem P1.app_cut_ok {t : St} {k : Kfg} {og : Nat → Int} {n i : Nat} {p : Nat → Nat} {v : Nat → Int} {x : Int} (hk : k.Ok) (hI : t.Is k.words) (h : P1 t k og n p v) (hn : n < k.L) (hi : k.act ≤ i ∧ i < k.words) (hx : t.nw i = x) (m : Nat) : CutOk (t.run ((appOps 1 n i x).take m)) k og :=
  ⟨hI.run _, fun ch => (h.app_cut hk hI hn hi hx m ch).elim (fun h => .inl ⟨_, _, _, h⟩) (fun h => .inl ⟨_, _, _, h⟩)⟩

theorem cut2_bits (k : Nat) (b : Int) (g : Nat) (w : World) (b0 : 0 ≤ b) (b1 : b ≤ 18446744073709551615) (hk : k ≤ 1099511627776) (hc : w.cell? ⟨g, 0, none⟩ = some (.int .u64 b)) :
    Calls Try.prog 42 #[.int .i64 k, .pointer (some ⟨g, 0, none⟩)] w fun e w' => e = .returned (.int .u8 (choiceOf b k)) ∧ w = w' := by
  have hch := choice_any b k w b0 b1 hk
  go_enter Try.func42, Try.ntmps42
  go_wp2_with fail
  refine (choice_any b k w b0 b1 hk).mono ?_
  rintro e w' ⟨rfl, rfl⟩
  go_wp2
  go_ret
  exact ⟨rfl, rfl⟩
theorem cut4_bits (k : Nat) (b : Int) (g : Nat) (w : World) (b0 : 0 ≤ b) (b1 : b ≤ 18446744073709551615) (hk : k ≤ 1099511627776) (hc : w.cell? ⟨g, 0, none⟩ = some (.int .u64 b)) :
    Calls Try.prog 44 #[.int .i64 k, .pointer (some ⟨g, 0, none⟩)] w fun e w' => e = .returned (.int .u8 (choiceOf b k)) ∧ w = w' := by
  have hch := choice_any b k w b0 b1 hk
  go_enter Try.func44, Try.ntmps44
  go_wp2_with fail
  refine (choice_any b k w b0 b1 hk).mono ?_
  rintro e w' ⟨rfl, rfl⟩
  go_wp2
  go_ret
  exact ⟨rfl, rfl⟩

abbrev cutT (l r s : Int) (av : Value) (bt mr : Int) (k : Kfg) (gx gk gdv gw gl gu gz : Nat) (xw : Array Value) (d : DevI) (t : St) (c : Array Value) : List Res := [blkR gx 24 #[.int .u16 l, .int .u16 r, .int .u16 s], blkR (gx + 1) 55 #[av], blkR (gx + 2) 25 #[.int .u64 bt], blkR (gx + 3) 25 #[.int .u64 mr], blkR gk 30 #[.int .i64 (k.L : Int), .int .i64 (k.R : Int), .int .i64 (k.S : Int)], devR d t, blkR gdv 32 #[.pointer (some ⟨d.b, 0, none⟩)], blkR gw 25 xw, blkR gl 79 c, blkR gu 40 #[.pointer (some ⟨gl, 0, none⟩)], noR, blkR gz 4 #[.bool false]]

/-- What is cut: it ends, or is cut; it is a log that undone is as it was. -/
def CutPost (l r s : Int) (av : Value) (bt mr : Int) (k : Kfg) (gx gk gdv gw gl gu gz : Nat) (xw : Array Value) (d : DevI) (og : Nat → Int) (W : World) (S : List Nat) (e : Ending) (w1 : World) : Prop :=
  ((∃ v, e = .returned v) ∧ ∃ a : St × Array Value, CutOk a.1 k og ∧ Sep W S (cutT l r s av bt mr k gx gk gdv gw gl gu gz xw d a.1 a.2) w1) ∨
  (e = offE ∧ ∃ a : St × Array Value, CutOk a.1 k og ∧ Sep W S (cutT l r s av bt mr k gx gk gdv gw gl gu gz xw d a.1 a.2) w1)

set_option maxRecDepth 100000 in
set_option maxHeartbeats 2000000 in
theorem cut1_body (l r s : Int) (av : Value) (bt mr : Int) (k : Kfg) (gx gk gdv gw gl gu gz : Nat) (xw : Array Value) (d : DevI) (og : Nat → Int) (t : St) (W : World) (w : World) (al : List AV) (hk : k.Ok) (hI : t.Is k.words) (hP : P1 t k og 0 (fun _ => 0) (fun _ => 0)) (hgd : gl ∉ d.blocks) (hm : RdA W av al) (hok : ∀ x ∈ al, x.Ok) (hml : al.length ≤ 20)
    (h : Sep W [] (cutT l r s av bt mr k gx gk gdv gw gl gu gz xw d t (logC d k 1 0)) w) :
    Calls Try.prog 41 #[.pointer (some ⟨gx + 1, 0, none⟩), .pointer (some ⟨gu, 0, none⟩), .pointer (some ⟨gk, 0, none⟩), .pointer (some ⟨gdv, 0, none⟩)] w (CutPost l r s av bt mr k gx gk gdv gw gl gu gz xw d og W []) := by
  have HS := Lib.hid h
  have HK := Lib.hid hk
  have HI := Lib.hid hI
  have HP0 := Lib.hid hP
  have HGD := Lib.hid hgd
  have HM := Lib.hid hm
  have HOK := Lib.hid hok
  obtain ⟨A1, c1, rfl, hrs⟩ := hm
  clear h hk hI hP hgd hrs hok
  simp only [cutT] at HS
  have b1 := (HS.out.blk 1 rfl).cell 0
  simp at b1
  go_enter Try.func41, Try.ntmps41
  go_wp2_with fail
  clear b1
  go_loopw [8] (fun v' wr => ∃ (j n : Nat) (p : Nat → Nat) (v : Nat → Int) (s' : St), j ≤ al.length ∧ v' = .int .i64 (j : Int) ∧ (P1 s' k og n p v ∧ s'.Is k.words) ∧ Sep W [] [blkR gx 24 #[.int .u16 l, .int .u16 r, .int .u16 s], blkR (gx + 1) 55 #[.slice A1 al.length c1], blkR (gx + 2) 25 #[.int .u64 bt], blkR (gx + 3) 25 #[.int .u64 mr], blkR gk 30 #[.int .i64 (k.L : Int), .int .i64 (k.R : Int), .int .i64 (k.S : Int)], devR d (s'), blkR gdv 32 #[.pointer (some ⟨d.b, 0, none⟩)], blkR gw 25 xw, blkR gl 79 (logC d k 1 n), blkR gu 40 #[.pointer (some ⟨gl, 0, none⟩)], noR, blkR gz 4 #[.bool false]] wr) (fun v' _ => al.length - (intOf v').toNat)
  case atStart => exact ⟨0, 0, _, _, t, by omega, by simp, ⟨HP0.out, HI.out⟩, HS.out⟩
  case round =>
    clear HS HI HP0
    obtain ⟨j, n, p, v, s', hj, rfl, hf, hs⟩ := hrel
    have HS := Lib.hid hs
    have HF := Lib.hid hf
    clear hs hf
    have hkL : (k.L : Int) ≤ 200 := by have := HK.out.l1; omega
    have hnI : (n : Int) ≤ 200 := by have := HF.out.1.le; have := HK.out.l1; omega
    by_cases hlt : j < al.length
    · have hjI : (j : Int) < al.length := by omega
      obtain ⟨x, hx⟩ : ∃ x, al[j]? = some x := ⟨_, List.getElem?_eq_getElem hlt⟩
      obtain ⟨u0, u1, u2, u3⟩ := HOK.out x (List.mem_of_getElem? hx)
      obtain ⟨A', c', hA, hr⟩ := HM.out.keep HS.out.keep
      injection hA with e1 e2 e3
      subst e1
      obtain ⟨g, off, rfl, k0, k1⟩ := hr j x hx
      obtain ⟨at_, y⟩ := x
      simp only at k0 k1 u0 u1 u2 u3
      rw [show off + 2 * j = off + j * 2 by omega] at k0
      rw [show off + (2 * j + 1) = off + j * 2 + 1 by omega] at k1
      obtain ⟨a, rfl⟩ : ∃ a : Nat, at_ = (a : Int) := ⟨at_.toNat, by omega⟩
      have ha : a ≤ 65535 := by omega
      clear hx hr e2 e3
      obtain ⟨q, hp⟩ : ∃ q, k.place a = q := ⟨_, rfl⟩
      obtain ⟨hpl1, hpl2⟩ := Kfg.place_lt HK.out a
      rw [hp] at hpl1 hpl2
      have hpc : ∀ w : World, Calls Try.prog 24 #[.agg #[.int .u16 a, .int .u64 y], .agg #[.int .i64 (k.L : Int), .int .i64 (k.R : Int), .int .i64 (k.S : Int)]] w fun e w' => e = .returned (.int .i64 (q : Int)) ∧ Keep w.heap.size [] w w' := fun w => by rw [← hp]; exact place_any k a y w HK.out ha
      have HPC := Lib.hid hpc
      clear hp hpc
      go_upto_region 3 with fail
      replace HS := Lib.hid (HS.out.new 48 #[.int .u16 a, .int .u64 y])
      generalize wr.alloc _ = wa at *
      generalize wr.heap.size = ga at *
      have b9 : ∀ x : Ext wa, x.now.cell? ⟨gu, 0, none⟩ = some (.pointer (some ⟨gl, 0, none⟩)) := fun x => x.cell (by simpa using (HS.out.blk 9 rfl).cell 0)
      have a0 : ∀ x : Ext wa, x.now.cell? ⟨ga, 0, none⟩ = some (.int .u16 (a : Int)) := fun x => x.cell (by simpa using (HS.out.blk 12 rfl).cell 0)
      have a1 : ∀ x : Ext wa, x.now.cell? ⟨ga, 1, none⟩ = some (.int .u64 y) := fun x => x.cell (by simpa using (HS.out.blk 12 rfl).cell 1)
      have c0 : ∀ x : Ext wa, x.now.cell? ⟨gk, 0, none⟩ = some (.int .i64 (k.L : Int)) := fun x => x.cell (by simpa using (HS.out.blk 4 rfl).cell 0)
      have c1 : ∀ x : Ext wa, x.now.cell? ⟨gk, 1, none⟩ = some (.int .i64 (k.R : Int)) := fun x => x.cell (by simpa using (HS.out.blk 4 rfl).cell 1)
      have c2 : ∀ x : Ext wa, x.now.cell? ⟨gk, 2, none⟩ = some (.int .i64 (k.S : Int)) := fun x => x.cell (by simpa using (HS.out.blk 4 rfl).cell 2)
      refine wp_region_ext_tail 4 (by kernel_rfl) (by kernel_rfl) ?_
      simp only [List.take_succ_cons, List.take_zero, List.drop_succ_cons, List.drop_zero]
      repeat (go_big_quiet_step ((first | (go_at_call 24; with_reducible exact Calls.ext (HPC.out _)))))
      refine wpQuiet_nil ?_
      rintro _ ⟨x, rfl⟩
      replace HS := Lib.hid (HS.out.grow x.keep)
      clear b9 a0 a1 c0 c1 c2 k0 k1
      by_cases hnL : n < k.L
      · obtain ⟨z, hy⟩ : ∃ z, s'.nw q = z := ⟨_, rfl⟩
        have hval : (s'.store (16 + 4 * n + 1) (q : Int)).nw q = z := by
          rw [St.nw_store HF.out.2 (by have := k.act_le; omega), if_neg (by have := k.act_le; omega)]; exact hy
        have hP1 := HF.out.1.app HK.out HF.out.2 hnL ⟨hpl1, hpl2⟩ hy
        have hI1 : (s'.run (appOps 1 n q z)).Is k.words := HF.out.2.run _
        have hP2 := hP1.store HK.out hI1 (i := n) (by omega) y
        rw [show upd p n q n = q from if_pos rfl] at hP2
        have hcut := fun m => HF.out.1.app_cut_ok HK.out HF.out.2 hnL ⟨hpl1, hpl2⟩ hy m
        have HCUT := Lib.hid hcut
        have HP1 := Lib.hid hP1
        have HP2 := Lib.hid hP2
        have HI1 := Lib.hid hI1
        have HV := Lib.hid hval
        clear hy hval hP1 hP2 hI1 hcut
        go_wp2_with fail
        refine (append_any d s' k 1 z n q gl _ (HS.out.dev 5 rfl) (HS.out.blk 8 rfl) HGD.out HK.out HF.out.2.now (by decide) (by decide) hnL hpl2 HV.out).mono ?_
        rintro e w1 (⟨rfl, hd, hb, hkp⟩ | ⟨m, hm, hg, rfl, hd, hb, hkp⟩)
        rotate_left
        · replace HS := Lib.hid ((HS.out.step2 (i := 5) (j := 8) (by decide) rfl rfl hkp (r' := devR d _) (q' := blkR gl 79 _) hd hb (fun _ h => h) (fun _ h => h)).take 12)
          clear hd hb hkp hg
          unfold offE
          go_wp2
          exact ⟨rfl, .inr ⟨rfl, ⟨_, _⟩, HCUT.out m, HS.out⟩⟩
        replace HS := Lib.hid (HS.out.step2 (i := 5) (j := 8) (by decide) rfl rfl hkp (r' := devR d _) (q' := blkR gl 79 _) hd hb (fun _ h => h) (fun _ h => h))
        clear hd hb hkp
        go_wp2_with fail
        have b9 : ∀ x : Ext w1, x.now.cell? ⟨gdv, 0, none⟩ = some (.pointer (some ⟨d.b, 0, none⟩)) := fun x => x.cell (by simpa using (HS.out.blk 6 rfl).cell 0)
        have a0 : ∀ x : Ext w1, x.now.cell? ⟨ga, 0, none⟩ = some (.int .u16 (a : Int)) := fun x => x.cell (by simpa using (HS.out.blk 12 rfl).cell 0)
        have a1 : ∀ x : Ext w1, x.now.cell? ⟨ga, 1, none⟩ = some (.int .u64 y) := fun x => x.cell (by simpa using (HS.out.blk 12 rfl).cell 1)
        have c0 : ∀ x : Ext w1, x.now.cell? ⟨gk, 0, none⟩ = some (.int .i64 (k.L : Int)) := fun x => x.cell (by simpa using (HS.out.blk 4 rfl).cell 0)
        have c1 : ∀ x : Ext w1, x.now.cell? ⟨gk, 1, none⟩ = some (.int .i64 (k.R : Int)) := fun x => x.cell (by simpa using (HS.out.blk 4 rfl).cell 1)
        have c2 : ∀ x : Ext w1, x.now.cell? ⟨gk, 2, none⟩ = some (.int .i64 (k.S : Int)) := fun x => x.cell (by simpa using (HS.out.blk 4 rfl).cell 2)
        refine wp_region_ext_tail 6 (by kernel_rfl) (by kernel_rfl) ?_
        simp only [List.take_succ_cons, List.take_zero, List.drop_succ_cons, List.drop_zero]
        repeat (go_big_quiet_step ((first | (go_at_call 24; with_reducible exact Calls.ext (HPC.out _)))))
        refine wpQuiet_nil ?_
        rintro _ ⟨x, rfl⟩
        replace HS := Lib.hid (HS.out.grow x.keep)
        clear b9 a0 a1 c0 c1 c2
        go_wp2_with fail
        refine (store_op d _ q y _ (HS.out.dev 5 rfl) (by rw [HI1.out.now]; exact hpl2)).mono ?_
        rintro e w3 (⟨rfl, hd, hk⟩ | ⟨hg, rfl, hd, hk⟩)
        rotate_left
        · replace HS := Lib.hid ((HS.out.did (i := 5) rfl hd hk).take 12)
          clear hd hk hg
          unfold offE
          go_wp2
          exact ⟨rfl, .inr ⟨rfl, ⟨_, _⟩, HP1.out.cutOk HK.out HI1.out, HS.out⟩⟩
        replace HS := Lib.hid ((HS.out.did (i := 5) rfl hd hk).take 12)
        clear hd hk
        go_wp2
        exact ⟨⟨j + 1, n + 1, _, _, _, by omega, by simp, ⟨HP2.out, HI1.out.store _ _⟩, HS.out⟩, by simp [intOf]; omega⟩
      · go_wp2_with fail
        refine (append_full d s' k 1 (q : Int) n gl _ (HS.out.dev 5 rfl) (HS.out.blk 8 rfl) (by omega) (by rw [HF.out.2.now]; omega) (by have := HF.out.1.le; omega)).mono ?_
        rintro e w1 ⟨rfl, hk⟩
        replace HS := Lib.hid (HS.out.grow hk)
        clear hk
        go_wp2
        exact ⟨⟨j + 1, n, p, v, s', by omega, by simp, HF.out, HS.out.take 12⟩, by simp [intOf]; omega⟩
    · obtain rfl : j = al.length := by omega
      have b9 := (HS.out.blk 9 rfl).cell 0
      simp at b9
      go_wp2_with fail
      clear b9
      refine (undo_any d s' k 1 n gl p v _ (HS.out.dev 5 rfl) (HS.out.blk 8 rfl) HGD.out HK.out HF.out.2 (by decide) (by decide) HF.out.1.le HF.out.1.undo_pre).mono ?_
      rintro e w1 (⟨rfl, hd, hb, hkp⟩ | ⟨m, hm, hg, rfl, hd, hb, hkp⟩)
      · replace HS := Lib.hid (HS.out.step2 (i := 5) (j := 8) (by decide) rfl rfl hkp (r' := devR d _) (q' := blkR gl 79 _) hd hb (fun _ h => h) (fun _ h => h))
        clear hd hb hkp
        go_wp2
        go_end0
        exact .inl ⟨⟨_, rfl⟩, ⟨_, _⟩, HF.out.1.undo_ok HK.out HF.out.2, HS.out⟩
      · replace HS := Lib.hid (HS.out.step2 (i := 5) (j := 8) (by decide) rfl rfl hkp (r' := devR d _) (q' := blkR gl 79 _) hd hb (fun _ h => h) (fun _ h => h))
        clear hd hb hkp hg
        unfold offE
        go_wp2
        exact ⟨rfl, .inr ⟨rfl, ⟨_, _⟩, HF.out.1.undo_cut_ok HK.out HF.out.2 m, HS.out⟩⟩

set_option maxRecDepth 100000 in
set_option maxHeartbeats 2000000 in
theorem cut3_body (l r s : Int) (av : Value) (bt mr : Int) (k : Kfg) (gx gk gdv gw gl gu gz : Nat) (xw : Array Value) (d : DevI) (og : Nat → Int) (t : St) (c : Array Value) (W : World) (w : World) (hk : k.Ok) (hI : t.Is k.words) (hP : (∃ n p v, P1 t k og n p v) ∨ P2 t k og)
    (h : Sep W [] (cutT l r s av bt mr k gx gk gdv gw gl gu gz xw d t c) w) :
    Calls Try.prog 43 #[.pointer (some ⟨gdv, 0, none⟩), .pointer (some ⟨gk, 0, none⟩)] w (CutPost l r s av bt mr k gx gk gdv gw gl gu gz xw d og W []) := by
  have HS := Lib.hid h
  have HK := Lib.hid hk
  have HI := Lib.hid hI
  clear h hk hI
  simp only [cutT] at HS
  rcases hP with ⟨n, p, v, hP⟩ | hP
  · have HP := Lib.hid hP
    clear hP
    have b6 := (HS.out.blk 6 rfl).cell 0
    simp at b6
    have c0 := (HS.out.blk 4 rfl).cell 0
    simp at c0
    have c1 := (HS.out.blk 4 rfl).cell 1
    simp at c1
    have c2 := (HS.out.blk 4 rfl).cell 2
    simp at c2
    go_enter Try.func43, Try.ntmps43
    go_wp2_with fail
    refine (open_any d t k 1 n _ (HS.out.dev 5 rfl) HK.out (by rw [HP.out.epo.1]; decide) (by rw [HP.out.epo.1]; decide) HP.out.log).mono ?_
    rintro e w6 ⟨gm, rfl, hgn, hb, hkk⟩
    replace HS := Lib.hid (HS.out.add hkk (r := blkR gm 79 (logC d k 1 n)) hb (by intro y hy; simp [blkR] at hy; subst hy; exact hgn))
    clear hb hkk hgn c0 c1 c2 b6
    have hgm : gm ∉ d.blocks := HS.out.apart 12 5 _ _ (by decide) rfl rfl gm (by simp [blkR])
    go_wp2_with fail
    refine (undo_any d t k 1 n gm p v _ (HS.out.dev 5 rfl) (HS.out.blk 12 rfl) hgm HK.out HI.out (by decide) (by decide) HP.out.le HP.out.undo_pre).mono ?_
    rintro e w1 (⟨rfl, hd, hb, hkp⟩ | ⟨m, hm, hg, rfl, hd, hb, hkp⟩)
    · replace HS := Lib.hid ((HS.out.step2 (i := 5) (j := 12) (by decide) rfl rfl hkp (r' := devR d _) (q' := blkR gm 79 _) hd hb (fun _ h => h) (fun _ h => h)).take 12)
      clear hd hb hkp
      go_wp2
      go_end0
      exact .inl ⟨⟨_, rfl⟩, ⟨_, _⟩, HP.out.undo_ok HK.out HI.out, HS.out⟩
    · replace HS := Lib.hid ((HS.out.step2 (i := 5) (j := 12) (by decide) rfl rfl hkp (r' := devR d _) (q' := blkR gm 79 _) hd hb (fun _ h => h) (fun _ h => h)).take 12)
      clear hd hb hkp hg
      unfold offE
      go_wp2
      exact ⟨rfl, .inr ⟨rfl, ⟨_, _⟩, HP.out.undo_cut_ok HK.out HI.out m, HS.out⟩⟩
  · have HP := Lib.hid hP
    clear hP
    have b6 := (HS.out.blk 6 rfl).cell 0
    simp at b6
    have c0 := (HS.out.blk 4 rfl).cell 0
    simp at c0
    have c1 := (HS.out.blk 4 rfl).cell 1
    simp at c1
    have c2 := (HS.out.blk 4 rfl).cell 2
    simp at c2
    go_enter Try.func43, Try.ntmps43
    go_wp2_with fail
    refine (open_any d t k 2 0 _ (HS.out.dev 5 rfl) HK.out (by rw [HP.out.epo.1]; decide) (by rw [HP.out.epo.1]; decide) HP.out.log).mono ?_
    rintro e w6 ⟨gm, rfl, hgn, hb, hkk⟩
    replace HS := Lib.hid (HS.out.add hkk (r := blkR gm 79 (logC d k 2 0)) hb (by intro y hy; simp [blkR] at hy; subst hy; exact hgn))
    clear hb hkk hgn c0 c1 c2 b6
    have hgm : gm ∉ d.blocks := HS.out.apart 12 5 _ _ (by decide) rfl rfl gm (by simp [blkR])
    go_wp2_with fail
    refine (undo_zero d t k 2 gm _ (HS.out.dev 5 rfl) (HS.out.blk 12 rfl) hgm HK.out HI.out (by decide) (by decide)).mono ?_
    rintro e w1 ⟨rfl, hd, hb, hkp⟩
    replace HS := Lib.hid (HS.out.step2 (i := 5) (j := 12) (by decide) rfl rfl hkp (r' := devR d (t)) (q' := blkR gm 79 (logC d k 2 0)) hd hb (fun _ h => h) (fun _ h => h))
    clear hd hb hkp
    replace HS := Lib.hid (HS.out.take 12)
    go_wp2
    go_end0
    exact .inl ⟨⟨_, rfl⟩, ⟨_, _⟩, HP.out.cutOk HK.out HI.out, HS.out⟩

/-- A log that undone is as it was: what Open finds. -/
structure CutLog (t : St) (k : Kfg) (og : Nat → Int) (ep : Int) (n : Nat) : Prop where
  e0 : 0 ≤ ep
  e1 : ep < 4294967296
  w8 : t.nw 8 = ep
  log : LogIs t k ep n
  good : GoodIs t k n (-1)
  how : (∃ p v, ep = 1 ∧ P1 t k og n p v) ∨ (ep = 2 ∧ n = 0 ∧ P2 t k og)
theorem cutLog_of {t : St} {k : Kfg} {og : Nat → Int} (h : (∃ n p v, P1 t k og n p v) ∨ P2 t k og) : ∃ ep n, CutLog t k og ep n := by
  rcases h with ⟨n, p, v, h⟩ | h
  · exact ⟨1, n, by decide, by decide, h.epo.1, h.log, h.good, .inl ⟨p, v, rfl, h⟩⟩
  · exact ⟨2, 0, by decide, by decide, h.epo.1, h.log, h.good, .inr ⟨rfl, rfl, h⟩⟩
theorem undo_final (d : DevI) (t : St) (k : Kfg) (og : Nat → Int) (ep : Int) (n g : Nat) (w : World) (h : Dev w d t) (hb : Blk w g 79 (logC d k ep n)) (hgd : g ∉ d.blocks) (hk : k.Ok) (hI : t.Is k.words) (hl : t.l < 0) (hc : CutLog t k og ep n) :
    Calls Try.prog 28 #[.pointer (some ⟨g, 0, none⟩)] w fun e w' => e = .returned (.tuple #[]) ∧ ∃ t' c, Dev w' d t' ∧ Blk w' g 79 c ∧ Keep w.heap.size (d.blocks ++ [g]) w w' ∧ t'.Is k.words ∧ ∀ j, k.act ≤ j → j < k.words → t'.all j (og j) := by
  rcases hc.how with ⟨p, v, rfl, hp⟩ | ⟨rfl, rfl, hp⟩
  · refine (undo_any d t k 1 n g p v w h hb hgd hk hI (by decide) (by decide) hp.le hp.undo_pre).mono ?_
    intro e w' hq
    obtain ⟨he, h1, h2, h3⟩ := hq.free hl
    exact ⟨he, _, _, h1, h2, h3, hI.run _, hp.undo_all hk hI⟩
  · refine (undo_zero d t k 2 g w h hb hgd hk hI (by decide) (by decide)).mono ?_
    rintro e w' ⟨he, h1, h2, h3⟩
    exact ⟨he, _, _, h1, h2, h3, hI, hp.same⟩
theorem CutOk.power {t : St} {k : Kfg} {og : Nat → Int} (hk : k.Ok) {l u : Int} (h : (∃ n p v, P1 t k og n p v) ∨ P2 t k og) : (∃ n p v, P1 { t with l := l, u := u } k og n p v) ∨ P2 { t with l := l, u := u } k og := by
  rcases h with ⟨n, p, v, h⟩ | h
  · exact .inl ⟨n, p, v, h.power hk l u⟩
  · exact .inr ⟨h.epo, h.no, h.same⟩
end Go.Proofs.Ythfelcnhkabdhaa
