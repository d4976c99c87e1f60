/-
  tumuluslaw10.Filled.
-/
import Derived.Deep.CutRange
import Derived.Test.YtbdomdmnjclpdaaFillP
set_option linter.unusedSimpArgs false
set_option linter.unusedVariables false
set_option maxRecDepth 100000
namespace Go.Proofs.Ytbdomdmnjclpdaa
open Go.RowKit Go.Shelf

theorem results_4 {fn : Func} {p q r s : Tmp} {ty tz : TypeId} (h : fn.results = #[.tmp p, .cell q ty, .cell r tz, .tmp s]) (tmps : Array Value) (P : Program) (w : World) {v1 v2 : Value} {a1 a2 : Addr}
    (h1 : tmps.getD q undef = .pointer (some a1)) (h2 : tmps.getD r undef = .pointer (some a2)) (l1 : (loadVar ty a1).run P w = .ok v1 w) (l2 : (loadVar tz a2).run P w = .ok v2 w) :
    (results fn tmps).run P w = .ok (.tuple #[tmps.getD p undef, v1, v2, tmps.getD s undef]) w := by
  have h1' : tmps[q]?.getD undef = .pointer (some a1) := by simpa using h1
  have h2' : tmps[r]?.getD undef = .pointer (some a2) := by simpa using h2
  simp only [results, h]
  simp [Sem.run_bind, Result.andThen, h1', h2', asAddr, l1, l2]

set_option maxRecDepth 100000 in
set_option maxHeartbeats 8000000 in
theorem filled_any (l r s : Int) (v : Value) (hl : List HV) (w : World) (l0 : 0 ≤ l) (l1 : l ≤ 65535) (r0 : 0 ≤ r) (r1 : r ≤ 65535) (s0 : 0 ≤ s) (s1 : s ≤ 65535) (hm : RdH w v hl) (hok : ∀ x ∈ hl, x.Ok) (hml : hl.length ≤ 1000) :
    Calls Try.prog 24 #[.agg #[.int .u16 l, .int .u16 r, .int .u16 s], v] w fun e w' => ∃ (d : DevI) (t : St) (rv ov : Value),
      e = .returned (.tuple #[.pointer (some ⟨d.b, 0, none⟩), .agg (kOf l r s).cells, .agg (rbC 0 (usedOf (kOf l r s).S hl 0) rv), ov]) ∧
      FillS t (kOf l r s) 0 (placed ((kOf l r s).from_ 0) (kOf l r s).S hl 0) (usedOf (kOf l r s).S hl 0) ∧ BlankS t (kOf l r s) (placed ((kOf l r s).from_ 0) (kOf l r s).S hl 0) ∧
      Sep w [] [devR d t, rowR 3 ov (atsOf (placed ((kOf l r s).from_ 0) (kOf l r s).S hl 0)), rowR 38 rv (uw (rootsOf t (kOf l r s) (kOf l r s).R))] w' := by
  obtain ⟨hk, _, _, hkS⟩ := kOf_ok (l := l) (r := r) (s := s) l0 r0 s0
  have hmk := fun w => kmake_of l r s w l0 l1 r0 r1 s0 s1
  generalize kOf l r s = k at *
  have HMK := Lib.hid hmk
  have HK := Lib.hid hk
  clear hmk hk
  have HM0 := Lib.hid hm
  obtain ⟨HA, HC, rfl, hms⟩ := hm
  have HS := Lib.hid ((Sep.start w []).new 24 #[.int .u16 l, .int .u16 r, .int .u16 s])
  have HOK := Lib.hid hok
  clear hms hok
  go_enter Try.func24, Try.ntmps24
  go_upto_region 1 with fail
  replace HS := Lib.hid ((HS.out.new 30 #[.int .i64 0, .int .i64 0, .int .i64 0]).new 33 #[.int .i64 0, .int .i64 0, .slice none 0 0])
  rw [show ((w.alloc (.cells #[.int .u16 l, .int .u16 r, .int .u16 s] 24)).alloc (.cells #[.int .i64 0, .int .i64 0, .int .i64 0] 30)).heap.size = w.heap.size + 1 + 1 by simp, show (w.alloc (.cells #[.int .u16 l, .int .u16 r, .int .u16 s] 24)).heap.size = w.heap.size + 1 by simp] at HS
  generalize ((w.alloc _).alloc _).alloc _ = w2 at *
  generalize w.heap.size = gx at *
  generalize gx + 1 = g5 at *
  generalize g5 + 1 = g6 at *
  have c0 := (HS.out.blk 0 rfl).cell 0
  simp at c0
  have c1 := (HS.out.blk 0 rfl).cell 1
  simp at c1
  have c2 := (HS.out.blk 0 rfl).cell 2
  simp at c2
  go_wp2_with fail
  refine (HMK.out _).mono ?_
  rintro e w3 ⟨rfl, hkk⟩
  simp only [Kfg.cells]
  replace HS := Lib.hid ((HS.out.grow hkk).new 30 #[.int .i64 (k.L : Int), .int .i64 (k.R : Int), .int .i64 (k.S : Int)])
  clear hkk c0 c1 c2 HMK
  go_wp2_with fail
  generalize w3.alloc _ = w4 at *
  generalize w3.heap.size = gk at *
  refine (formatted_any k _ [] _ HK.out (rd_nil6 _ 0) (by decide)).mono ?_
  rintro e w5 ⟨d, rfl, hdb, hd, hkk⟩
  obtain ⟨s5, hs5⟩ : ∃ s5, s5 = (St.fresh (-1) 0 (fill [] k.words)).run (fmtOps k) := ⟨_, rfl⟩
  rw [← hs5] at hd
  have hI : s5.Is k.words := by rw [hs5]; exact (fresh_fill [] k).run _
  have hA : AllS s5 k := by rw [hs5]; exact all_of HK.out (fresh_fill [] k)
  have hl5 : s5.l < 0 := by rw [hs5, St.run_l]; show (-1 : Int) < 0; decide
  have hf0 : FillS s5 k 0 [] 0 := FillS.start ⟨hI, hl5, (hA.zer 0 (by omega)).1, (hA.zer 1 (by omega)).1⟩
  have hb0 : BlankS s5 k [] := ⟨fun i hi => by have := (hA.zer (2 + i) (by omega)).1; rwa [show k.act + (2 + i) = k.act + 2 + i by omega] at this, by simp, by rw [hs5]; exact fmt_rng HK.out (by simp)⟩
  replace HS := Lib.hid ((HS.out.add hkk (r := devR d s5) hd hdb).nilRow 3)
  have HF := Lib.hid hf0
  have HB := Lib.hid hb0
  clear hdb hd hkk hs5 hI hA hl5 hf0 hb0
  go_upto_region 6 with fail
  have hSq : Sep w [] [blkR g5 30 #[.int .i64 0, .int .i64 0, .int .i64 0], blkR g6 33 #[.int .i64 0, .int .i64 0, .slice none 0 0], blkR gk 30 #[.int .i64 (k.L : Int), .int .i64 (k.R : Int), .int .i64 (k.S : Int)], devR d (s5), rowR 3 (.slice none 0 0) (atsOf ([]))] w5 := HS.out.tail
  replace HS := Lib.hid hSq
  clear hSq
  go_wp2_with fail
  go_loopw [11, 13, 14, 15, 31] (fun v11 _ _ _ v' wr => ∃ (j : Nat) (t : St), j ≤ hl.length ∧ v' = .int .i64 (j : Int) ∧ FillS t k 0 (placed (k.from_ 0) k.S (hl.take j) 0) (usedOf k.S (hl.take j) 0) ∧ BlankS t k (placed (k.from_ 0) k.S (hl.take j) 0) ∧ Sep w [] [blkR g5 30 #[.int .i64 0, .int .i64 0, .int .i64 0], blkR g6 33 #[.int .i64 0, .int .i64 0, .slice none 0 0], blkR gk 30 #[.int .i64 (k.L : Int), .int .i64 (k.R : Int), .int .i64 (k.S : Int)], devR d (t), rowR 3 (v11) (atsOf (placed (k.from_ 0) k.S (hl.take j) 0))] wr) (fun _ _ _ _ v' _ => hl.length - (intOf v').toNat)
  case atStart => exact ⟨0, s5, by omega, rfl, HF.out, HB.out, HS.out⟩
  case round =>
    clear HS HF HB
    rename_i v11 _ _ _
    obtain ⟨j, t, hj, rfl, hf, hb, hs⟩ := hrel
    obtain ⟨A0, C0, hvv⟩ := rowR_val (hs.row 4 rfl)
    subst hvv
    have HS := Lib.hid hs
    have HF := Lib.hid hf
    have HB := Lib.hid hb
    clear hs hf hb
    obtain ⟨os, hos⟩ : ∃ os, placed (k.from_ 0) k.S (hl.take j) 0 = os := ⟨_, rfl⟩
    obtain ⟨u, hu⟩ : ∃ u, usedOf k.S (hl.take j) 0 = u := ⟨_, rfl⟩
    have hosl : os.length ≤ 1000 := by
      have h1 := placed_length (k.from_ 0) k.S (hl.take j) 0
      rw [hos, List.length_take] at h1
      omega
    rw [hos] at HS HF HB
    rw [hu] at HF
    rw [hos]
    have HOSL := Lib.hid hosl
    clear hosl
    by_cases hlt : j < hl.length
    · have hjI : (j : Int) < hl.length := by omega
      obtain ⟨h, hh⟩ : ∃ h, hl[j]? = some h := ⟨_, List.getElem?_eq_getElem (by omega)⟩
      have hko := HOK.out h (List.mem_of_getElem? hh)
      have htk : hl.take (j + 1) = hl.take j ++ [h] := by rw [List.take_add_one, hh]; rfl
      have hos2 := placed_snoc (k.from_ 0) k.S h (hl.take j) 0
      have hu2 := usedOf_snoc k.S h (hl.take j) 0
      rw [← htk, hos, hu] at hos2
      rw [← htk, hu] at hu2
      have HOS2 := Lib.hid hos2
      have HU2 := Lib.hid hu2
      obtain ⟨A', c', hA, hr⟩ := HM0.out.keep HS.out.keep
      injection hA with e1 e2 e3
      subst e1
      obtain ⟨g, off, rfl, k0, k1⟩ := hr j h hh
      obtain ⟨hn8, hnq⟩ := HV.n_le hko
      obtain ⟨hbn, hbq⟩ := HV.b_le hko
      obtain ⟨q0, q1, q2, q3⟩ := hko
      have hmk := fun w => make_h h.rf h.wd w q0 q1 q2 q3
      rw [hnq, hbq] at hmk
      obtain ⟨n, hn⟩ : ∃ n, h.n = n := ⟨_, rfl⟩
      obtain ⟨b, hb⟩ : ∃ b, h.b = b := ⟨_, rfl⟩
      obtain ⟨rf, hrf⟩ : ∃ rf, h.rf = rf := ⟨_, rfl⟩
      obtain ⟨wd, hwd⟩ : ∃ wd, h.wd = wd := ⟨_, rfl⟩
      rw [hn, hb] at HOS2
      rw [hn] at HU2 hn8 hbn
      rw [hb] at hbn
      rw [hn, hb, hrf, hwd] at hmk
      rw [hrf] at k0
      rw [hwd] at k1
      rw [show off + 2 * j = off + j * 2 by omega] at k0
      rw [show off + (2 * j + 1) = off + j * 2 + 1 by omega] at k1
      have HMH := Lib.hid hmk
      have hok : headOk (n : Int) (b : Int) := ⟨by omega, by omega, by omega, by omega⟩
      have HOK1 := Lib.hid hok
      clear hr e2 e3 hh htk hos2 hu2 hnq hbq q0 q1 q2 q3 hmk hn hb hrf hwd hok hos hu
      go_upto_region 9 with fail
      replace HS := Lib.hid (HS.out.new 61 #[.int .u8 rf, .int .u8 wd])
      generalize wr.alloc _ = w9 at *
      generalize wr.heap.size = gy at *
      clear k0 k1
      by_cases hfit : u + (n + 1) ≤ k.S
      · rw [if_pos hfit] at HU2 HOS2
        have hall := fun w (hd : Dev w d t) => alloc_dev d t k n 0 u (k.from_ 0 + u) (b : Int) w HK.out HF.out.use.is HF.out.use.lim HOK1.out HF.out.use.act HF.out.use.used (by decide) hfit rfl hd
        have hf2 := HF.out.alloc HK.out (by decide) hn8 hbn rfl hfit
        have hb2 := HB.out.alloc (n := n) (b := b) HF.out HK.out (by decide) rfl hfit (hw (n : Nat) (b : Nat)) (hw_wd (by omega) hbn)
        generalize allocS t k u n (k.from_ 0 + u) (hw (n : Nat) (b : Nat)) = t2 at *
        obtain ⟨f, hfe⟩ : ∃ f, k.from_ 0 + u = f := ⟨_, rfl⟩
        rw [hfe] at hall HOS2 hf2 hb2
        have HALL := Lib.hid hall
        have HF2 := Lib.hid hf2
        have HB2 := Lib.hid hb2
        clear hall hf2 hb2 hfe hfit
        refine wp_region_st3 (W := w) (S := []) (by kernel_rfl) (by kernel_rfl) (by kernel_rfl) (fun D uu => [blkR g5 30 #[.int .i64 0, .int .i64 0, .int .i64 0], blkR g6 33 #[.int .i64 0, .int .i64 0, .slice none 0 0], blkR gk 30 #[.int .i64 (k.L : Int), .int .i64 (k.R : Int), .int .i64 (k.S : Int)], devR d (bif D 6 then t2 else t), rowR 3 (.slice A0 (atsOf os).length C0) (atsOf os), blkR gy 61 #[.int .u8 rf, .int .u8 wd]])
          (fun j v => match j with
            | 0 => v = .pointer (some ⟨d.b, 0, none⟩)
            | 1 => v = .agg #[.int .i64 (k.L : Int), .int .i64 (k.R : Int), .int .i64 (k.S : Int)]
            | 2 => v = .agg #[.int .u8 rf, .int .u8 wd]
            | 3 => v = .agg #[.int .i64 (n : Int), .int .i64 (b : Int)]
            | 4 => v = .pointer (some ⟨d.b, 0, none⟩)
            | 5 => v = .func (.func 27) #[.pointer (some ⟨d.b, 0, none⟩)] #[]
            | 6 => v = .tuple #[.int .i64 (f : Int), .int .i64 0]
            | 7 => v = .tuple #[.int .i64 (f : Int), .int .i64 0]
            | 8 => v = .int .i64 (f : Int)
            | 9 => v = .int .i64 0
            | 10 => v = .int .i64 (f : Int)
            | 11 => v = .int .i64 0
            | _ => True) ?start ?step ?fin
        case start => exact fun u => HS.out
        case step =>
          clear HS
          refine ⟨?_, ?_, ?_, ?_, ?_, ?_, ?_, ?_, ?_, ?_, ?_, ?_, trivial⟩
          · intro D uu w' K hD hF hl hS hK
            simp only [puts, Act.put, List.setIfInBounds_toArray, List.set_cons_succ, List.set_cons_zero, Nat.zero_add, Nat.reduceAdd]
            go_simp
            simp only [yUpon]
            exact hK _ _ rfl hS
          · intro D uu w' K hD hF hl hS hK
            simp only [puts, Act.put, List.setIfInBounds_toArray, List.set_cons_succ, List.set_cons_zero, Nat.zero_add, Nat.reduceAdd]
            have x0 := (hS.blk 2 rfl).cell 0
            have x1 := (hS.blk 2 rfl).cell 1
            have x2 := (hS.blk 2 rfl).cell 2
            simp at x0 x1 x2
            go_simp
            simp only [yUpon]
            exact hK _ _ rfl hS
          · intro D uu w' K hD hF hl hS hK
            simp only [puts, Act.put, List.setIfInBounds_toArray, List.set_cons_succ, List.set_cons_zero, Nat.zero_add, Nat.reduceAdd]
            have x0 := (hS.blk 5 rfl).cell 0
            have x1 := (hS.blk 5 rfl).cell 1
            simp at x0 x1
            go_simp
            simp only [yUpon]
            exact hK _ _ rfl hS
          · intro D uu w' K hD hF hl hS hK
            have f2 := (hF 2 (by kernel_rfl)).2
            simp only at f2
            simp only [puts, Act.put, List.setIfInBounds_toArray, List.set_cons_succ, List.set_cons_zero, Nat.zero_add, Nat.reduceAdd]
            simp only [f2]
            go_simp
            simp only [yUpon]
            refine (HMH.out _).mono ?_
            rintro e w1 ⟨rfl, hkk⟩
            exact hK _ _ rfl (hS.grow hkk)
          · intro D uu w' K hD hF hl hS hK
            simp only [puts, Act.put, List.setIfInBounds_toArray, List.set_cons_succ, List.set_cons_zero, Nat.zero_add, Nat.reduceAdd]
            go_simp
            simp only [yUpon]
            exact hK _ _ rfl hS
          · intro D uu w' K hD hF hl hS hK
            have f4 := (hF 4 (by kernel_rfl)).2
            simp only at f4
            simp only [puts, Act.put, List.setIfInBounds_toArray, List.set_cons_succ, List.set_cons_zero, Nat.zero_add, Nat.reduceAdd]
            simp only [f4]
            go_simp
            simp only [yUpon]
            exact hK _ _ rfl hS
          · intro D uu w' K hD hF hl hS hK
            have f0 := (hF 0 (by kernel_rfl)).2
            simp only at f0
            have f1 := (hF 1 (by kernel_rfl)).2
            simp only at f1
            have f3 := (hF 3 (by kernel_rfl)).2
            simp only at f3
            have f5 := (hF 5 (by kernel_rfl)).2
            simp only at f5
            simp only [puts, Act.put, List.setIfInBounds_toArray, List.set_cons_succ, List.set_cons_zero, Nat.zero_add, Nat.reduceAdd]
            simp only [f0, f1, f3, f5]
            simp only [hD, cond_false] at hS
            have e1 : (fset D 6 true) 6 = true := rfl
            go_simp
            simp only [yUpon]
            refine (HALL.out _ (hS.dev 3 rfl)).mono ?_
            rintro e w1 ⟨rfl, hS2⟩
            refine hK _ _ rfl ?_
            simp only [e1, cond_true]
            exact hS.app hS2 (i := 3) rfl (fun k h => h) (j := 0) rfl
          · intro D uu w' K hD hF hl hS hK
            have f6 := (hF 6 (by kernel_rfl)).2
            simp only at f6
            simp only [puts, Act.put, List.setIfInBounds_toArray, List.set_cons_succ, List.set_cons_zero, Nat.zero_add, Nat.reduceAdd]
            simp only [f6]
            go_simp
            simp only [yUpon]
            exact hK _ _ rfl hS
          · intro D uu w' K hD hF hl hS hK
            have f7 := (hF 7 (by kernel_rfl)).2
            simp only at f7
            simp only [puts, Act.put, List.setIfInBounds_toArray, List.set_cons_succ, List.set_cons_zero, Nat.zero_add, Nat.reduceAdd]
            simp only [f7]
            go_simp
            simp only [yUpon]
            exact hK _ _ rfl hS
          · intro D uu w' K hD hF hl hS hK
            have f7 := (hF 7 (by kernel_rfl)).2
            simp only at f7
            simp only [puts, Act.put, List.setIfInBounds_toArray, List.set_cons_succ, List.set_cons_zero, Nat.zero_add, Nat.reduceAdd]
            simp only [f7]
            go_simp
            simp only [yUpon]
            exact hK _ _ rfl hS
          · intro D uu w' K hD hF hl hS hK
            have f8 := (hF 8 (by kernel_rfl)).2
            simp only at f8
            simp only [puts, Act.put, List.setIfInBounds_toArray, List.set_cons_succ, List.set_cons_zero, Nat.zero_add, Nat.reduceAdd]
            simp only [f8]
            go_simp
            simp only [yUpon]
            exact hK _ _ rfl hS
          · intro D uu w' K hD hF hl hS hK
            have f9 := (hF 9 (by kernel_rfl)).2
            simp only at f9
            simp only [puts, Act.put, List.setIfInBounds_toArray, List.set_cons_succ, List.set_cons_zero, Nat.zero_add, Nat.reduceAdd]
            simp only [f9]
            go_simp
            simp only [yUpon]
            exact hK _ _ rfl hS
        case fin =>
          intro D u wf hall hS
          have f6 := (hall 6 (by simp)).1
          have v0 := (hall 0 (by simp)).2
          have v1 := (hall 1 (by simp)).2
          have v2 := (hall 2 (by simp)).2
          have v3 := (hall 3 (by simp)).2
          have v4 := (hall 4 (by simp)).2
          have v5 := (hall 5 (by simp)).2
          have v6 := (hall 6 (by simp)).2
          have v7 := (hall 7 (by simp)).2
          have v8 := (hall 8 (by simp)).2
          have v9 := (hall 9 (by simp)).2
          have v10 := (hall 10 (by simp)).2
          have v11 := (hall 11 (by simp)).2
          simp only at v0 v1 v2 v3 v4 v5 v6 v7 v8 v9 v10 v11
          simp only [f6, cond_true] at hS
          have HS := Lib.hid hS
          clear hall hS
          simp only [puts, Act.put, List.setIfInBounds_toArray, List.set_cons_succ, List.set_cons_zero, Nat.zero_add, Nat.reduceAdd]
          simp only [v0, v1, v2, v3, v4, v5, v6, v7, v8, v9, v10, v11]
          clear v0 v1 v2 v3 v4 v5 v6 v7 v8 v9 v10 v11
          replace HS : Hid (Sep w [] [blkR g5 30 #[.int .i64 0, .int .i64 0, .int .i64 0], blkR g6 33 #[.int .i64 0, .int .i64 0, .slice none 0 0], blkR gk 30 #[.int .i64 (k.L : Int), .int .i64 (k.R : Int), .int .i64 (k.S : Int)], devR d (t2), rowR 3 (.slice A0 (atsOf os).length C0) (atsOf (os)), blkR gy 61 #[.int .u8 rf, .int .u8 wd]] wf) := HS
          go_wp2_with (at_builtin; refine of_stop ?_)
          unfold Stop
          replace HS := Lib.hid (HS.out.new 3 #[.int .i64 (f : Int)])
          generalize wf.alloc _ = wg at *
          generalize wf.heap.size = gn at *
          have hc := (HS.out.blk 6 rfl).cell
          refine wpList_append HS.out 4 rfl rfl _ _ 34 rfl rfl rfl rfl (by decide) rfl ⟨gn, 0, none⟩ 1 1 [.int .i64 (f : Int)] rfl rfl (by decide) (fun i v hv => by rw [show (⟨gn, 0, none⟩ : Addr).add i = ⟨gn, i, none⟩ by unfold Addr.add; split <;> simp_all, hc]; simpa using hv) (by simp [Value.oneCell']) (by rw [atsOf_length]; have := HOSL.out; omega) ?_
          intro v' w5 hS
          obtain ⟨A, c, hv'⟩ := rowR_val (hS.row 4 rfl)
          subst hv'
          replace HS := Lib.hid hS
          clear hS hc
          have hat : atsOf os ++ [Value.int .i64 (f : Int)] = atsOf (os ++ [⟨f, n, b⟩]) := by simp [atsOf]
          rw [hat] at HS
          clear hat
          go_wp2
          refine ⟨⟨j + 1, t2, by omega, by first | rfl | go_num | simp, by rw [HOS2.out, HU2.out]; exact HF2.out, by rw [HOS2.out]; exact HB2.out, ?_⟩, by simp [intOf]; omega⟩
          rw [HOS2.out]
          have h5 := HS.out.take 5
          simpa [atsOf] using h5
      · rw [if_neg hfit] at HU2 HOS2
        have hall := fun w (hd : Dev w d t) => alloc_space d t k n 0 u (b : Int) (.func (.func 27) #[.pointer (some ⟨d.b, 0, none⟩)] #[]) w hd HK.out HF.out.use.is.now HOK1.out HF.out.use.act HF.out.use.used (by decide) HF.out.le (by omega)
        have HALL := Lib.hid hall
        clear hall hfit
        refine wp_region_st3 (W := w) (S := []) (by kernel_rfl) (by kernel_rfl) (by kernel_rfl) (fun D uu => [blkR g5 30 #[.int .i64 0, .int .i64 0, .int .i64 0], blkR g6 33 #[.int .i64 0, .int .i64 0, .slice none 0 0], blkR gk 30 #[.int .i64 (k.L : Int), .int .i64 (k.R : Int), .int .i64 (k.S : Int)], devR d t, rowR 3 (.slice A0 (atsOf os).length C0) (atsOf os), blkR gy 61 #[.int .u8 rf, .int .u8 wd]])
          (fun j v => match j with
            | 0 => v = .pointer (some ⟨d.b, 0, none⟩)
            | 1 => v = .agg #[.int .i64 (k.L : Int), .int .i64 (k.R : Int), .int .i64 (k.S : Int)]
            | 2 => v = .agg #[.int .u8 rf, .int .u8 wd]
            | 3 => v = .agg #[.int .i64 (n : Int), .int .i64 (b : Int)]
            | 4 => v = .pointer (some ⟨d.b, 0, none⟩)
            | 5 => v = .func (.func 27) #[.pointer (some ⟨d.b, 0, none⟩)] #[]
            | 6 => v = .tuple #[.int .i64 0, .int .i64 4]
            | 7 => v = .tuple #[.int .i64 0, .int .i64 4]
            | 8 => v = .int .i64 0
            | 9 => v = .int .i64 4
            | 10 => v = .int .i64 0
            | 11 => v = .int .i64 4
            | _ => True) ?start ?step ?fin
        case start => exact fun u => HS.out
        case step =>
          clear HS
          refine ⟨?_, ?_, ?_, ?_, ?_, ?_, ?_, ?_, ?_, ?_, ?_, ?_, trivial⟩
          · intro D uu w' K hD hF hl hS hK
            simp only [puts, Act.put, List.setIfInBounds_toArray, List.set_cons_succ, List.set_cons_zero, Nat.zero_add, Nat.reduceAdd]
            go_simp
            simp only [yUpon]
            exact hK _ _ rfl hS
          · intro D uu w' K hD hF hl hS hK
            simp only [puts, Act.put, List.setIfInBounds_toArray, List.set_cons_succ, List.set_cons_zero, Nat.zero_add, Nat.reduceAdd]
            have x0 := (hS.blk 2 rfl).cell 0
            have x1 := (hS.blk 2 rfl).cell 1
            have x2 := (hS.blk 2 rfl).cell 2
            simp at x0 x1 x2
            go_simp
            simp only [yUpon]
            exact hK _ _ rfl hS
          · intro D uu w' K hD hF hl hS hK
            simp only [puts, Act.put, List.setIfInBounds_toArray, List.set_cons_succ, List.set_cons_zero, Nat.zero_add, Nat.reduceAdd]
            have x0 := (hS.blk 5 rfl).cell 0
            have x1 := (hS.blk 5 rfl).cell 1
            simp at x0 x1
            go_simp
            simp only [yUpon]
            exact hK _ _ rfl hS
          · intro D uu w' K hD hF hl hS hK
            have f2 := (hF 2 (by kernel_rfl)).2
            simp only at f2
            simp only [puts, Act.put, List.setIfInBounds_toArray, List.set_cons_succ, List.set_cons_zero, Nat.zero_add, Nat.reduceAdd]
            simp only [f2]
            go_simp
            simp only [yUpon]
            refine (HMH.out _).mono ?_
            rintro e w1 ⟨rfl, hkk⟩
            exact hK _ _ rfl (hS.grow hkk)
          · intro D uu w' K hD hF hl hS hK
            simp only [puts, Act.put, List.setIfInBounds_toArray, List.set_cons_succ, List.set_cons_zero, Nat.zero_add, Nat.reduceAdd]
            go_simp
            simp only [yUpon]
            exact hK _ _ rfl hS
          · intro D uu w' K hD hF hl hS hK
            have f4 := (hF 4 (by kernel_rfl)).2
            simp only at f4
            simp only [puts, Act.put, List.setIfInBounds_toArray, List.set_cons_succ, List.set_cons_zero, Nat.zero_add, Nat.reduceAdd]
            simp only [f4]
            go_simp
            simp only [yUpon]
            exact hK _ _ rfl hS
          · intro D uu w' K hD hF hl hS hK
            have f0 := (hF 0 (by kernel_rfl)).2
            simp only at f0
            have f1 := (hF 1 (by kernel_rfl)).2
            simp only at f1
            have f3 := (hF 3 (by kernel_rfl)).2
            simp only at f3
            have f5 := (hF 5 (by kernel_rfl)).2
            simp only at f5
            simp only [puts, Act.put, List.setIfInBounds_toArray, List.set_cons_succ, List.set_cons_zero, Nat.zero_add, Nat.reduceAdd]
            simp only [f0, f1, f3, f5]
            go_simp
            simp only [yUpon]
            refine (HALL.out _ (hS.dev 3 rfl)).mono ?_
            rintro e w1 ⟨rfl, hkk⟩
            exact hK _ _ rfl (hS.grow hkk)
          · intro D uu w' K hD hF hl hS hK
            have f6 := (hF 6 (by kernel_rfl)).2
            simp only at f6
            simp only [puts, Act.put, List.setIfInBounds_toArray, List.set_cons_succ, List.set_cons_zero, Nat.zero_add, Nat.reduceAdd]
            simp only [f6]
            go_simp
            simp only [yUpon]
            exact hK _ _ rfl hS
          · intro D uu w' K hD hF hl hS hK
            have f7 := (hF 7 (by kernel_rfl)).2
            simp only at f7
            simp only [puts, Act.put, List.setIfInBounds_toArray, List.set_cons_succ, List.set_cons_zero, Nat.zero_add, Nat.reduceAdd]
            simp only [f7]
            go_simp
            simp only [yUpon]
            exact hK _ _ rfl hS
          · intro D uu w' K hD hF hl hS hK
            have f7 := (hF 7 (by kernel_rfl)).2
            simp only at f7
            simp only [puts, Act.put, List.setIfInBounds_toArray, List.set_cons_succ, List.set_cons_zero, Nat.zero_add, Nat.reduceAdd]
            simp only [f7]
            go_simp
            simp only [yUpon]
            exact hK _ _ rfl hS
          · intro D uu w' K hD hF hl hS hK
            have f8 := (hF 8 (by kernel_rfl)).2
            simp only at f8
            simp only [puts, Act.put, List.setIfInBounds_toArray, List.set_cons_succ, List.set_cons_zero, Nat.zero_add, Nat.reduceAdd]
            simp only [f8]
            go_simp
            simp only [yUpon]
            exact hK _ _ rfl hS
          · intro D uu w' K hD hF hl hS hK
            have f9 := (hF 9 (by kernel_rfl)).2
            simp only at f9
            simp only [puts, Act.put, List.setIfInBounds_toArray, List.set_cons_succ, List.set_cons_zero, Nat.zero_add, Nat.reduceAdd]
            simp only [f9]
            go_simp
            simp only [yUpon]
            exact hK _ _ rfl hS
        case fin =>
          intro D u wf hall hS
          have v0 := (hall 0 (by simp)).2
          have v1 := (hall 1 (by simp)).2
          have v2 := (hall 2 (by simp)).2
          have v3 := (hall 3 (by simp)).2
          have v4 := (hall 4 (by simp)).2
          have v5 := (hall 5 (by simp)).2
          have v6 := (hall 6 (by simp)).2
          have v7 := (hall 7 (by simp)).2
          have v8 := (hall 8 (by simp)).2
          have v9 := (hall 9 (by simp)).2
          have v10 := (hall 10 (by simp)).2
          have v11 := (hall 11 (by simp)).2
          simp only at v0 v1 v2 v3 v4 v5 v6 v7 v8 v9 v10 v11
          have HS := Lib.hid hS
          clear hall hS
          simp only [puts, Act.put, List.setIfInBounds_toArray, List.set_cons_succ, List.set_cons_zero, Nat.zero_add, Nat.reduceAdd]
          simp only [v0, v1, v2, v3, v4, v5, v6, v7, v8, v9, v10, v11]
          clear v0 v1 v2 v3 v4 v5 v6 v7 v8 v9 v10 v11
          go_wp2
          exact ⟨⟨j + 1, t, by omega, by first | rfl | go_num | simp, by rw [HOS2.out, HU2.out, List.append_nil]; exact HF.out, by rw [HOS2.out, List.append_nil]; exact HB.out, by rw [HOS2.out, List.append_nil]; exact HS.out.take 5⟩, by simp [intOf]; omega⟩
    · have hjl : j = hl.length := by omega
      have hlt' : ¬ (j : Int) < (hl.length : Int) := by omega
      have htk : hl.take j = hl := by rw [hjl, List.take_length]
      rw [htk] at hos hu
      have c0 := (HS.out.blk 2 rfl).cell 0
      simp at c0
      have c1 := (HS.out.blk 2 rfl).cell 1
      simp at c1
      have c2 := (HS.out.blk 2 rfl).cell 2
      simp at c2
      go_wp2_with fail
      refine (rread_any d t k 0 u _ (HS.out.dev 3 rfl) HK.out HF.out.use.is.now HF.out.use.act HF.out.use.used (by decide) HF.out.le).mono ?_
      rintro e w6 ⟨rv, rfl, hkk, hrow, hnew⟩
      obtain ⟨RA, RC, hv⟩ := rowR_val hrow
      subst hv
      simp only [rbC]
      obtain ⟨RL, hRL⟩ : ∃ RL, (uw (rootsOf t k k.R)).length = RL := ⟨_, rfl⟩
      replace HS := Lib.hid (HS.out.add hkk (r := rowR 38 (.slice RA (uw (rootsOf t k k.R)).length RC) (uw (rootsOf t k k.R))) hrow hnew)
      rw [hRL] at HS ⊢
      clear hkk hrow hnew c0 c1 c2
      go_upto_region 14 with fail
      replace HS := Lib.hid (HS.out.new 33 #[.int .i64 0, .int .i64 (u : Int), .slice RA RL RC])
      generalize w6.alloc _ = w7 at *
      generalize w6.heap.size = gb at *
      refine wp_region_st3 (W := w) (S := []) (by kernel_rfl) (by kernel_rfl) (by kernel_rfl) (fun D uu => [blkR g5 30 (bif D 5 then #[.int .i64 (k.L : Int), .int .i64 (k.R : Int), .int .i64 (k.S : Int)] else #[.int .i64 0, .int .i64 0, .int .i64 0]), blkR g6 33 (bif D 6 then #[.int .i64 0, .int .i64 (u : Int), .slice RA RL RC] else #[.int .i64 0, .int .i64 0, .slice none 0 0]), blkR gk 30 #[.int .i64 (k.L : Int), .int .i64 (k.R : Int), .int .i64 (k.S : Int)], devR d t, rowR 3 (.slice A0 (atsOf os).length C0) (atsOf os), rowR 38 (.slice RA RL RC) (uw (rootsOf t k k.R)), blkR gb 33 #[.int .i64 0, .int .i64 (u : Int), .slice RA RL RC]])
        (fun j v => match j with
          | 0 => v = .pointer (some ⟨d.b, 0, none⟩)
          | 1 => v = .agg #[.int .i64 (k.L : Int), .int .i64 (k.R : Int), .int .i64 (k.S : Int)]
          | 2 => v = .agg #[.int .i64 0, .int .i64 (u : Int), .slice RA RL RC]
          | 3 => v = .slice A0 (atsOf os).length C0
          | 4 => v = .pointer (some ⟨d.b, 0, none⟩)
          | 7 => v = .slice A0 (atsOf os).length C0
          | _ => True) ?start ?step ?fin
      case start => exact fun u => HS.out
      case step =>
        clear HS
        refine ⟨?_, ?_, ?_, ?_, ?_, ?_, ?_, ?_, trivial⟩
        · intro D uu w' K hD hF hl hS hK
          simp only [puts, Act.put, List.setIfInBounds_toArray, List.set_cons_succ, List.set_cons_zero, Nat.zero_add, Nat.reduceAdd]
          go_simp
          simp only [yUpon]
          exact hK _ _ rfl hS
        · intro D uu w' K hD hF hl hS hK
          simp only [puts, Act.put, List.setIfInBounds_toArray, List.set_cons_succ, List.set_cons_zero, Nat.zero_add, Nat.reduceAdd]
          have x0 := (hS.blk 2 rfl).cell 0
          have x1 := (hS.blk 2 rfl).cell 1
          have x2 := (hS.blk 2 rfl).cell 2
          simp at x0 x1 x2
          go_simp
          simp only [yUpon]
          exact hK _ _ rfl hS
        · intro D uu w' K hD hF hl hS hK
          simp only [puts, Act.put, List.setIfInBounds_toArray, List.set_cons_succ, List.set_cons_zero, Nat.zero_add, Nat.reduceAdd]
          have x0 := (hS.blk 6 rfl).cell 0
          have x1 := (hS.blk 6 rfl).cell 1
          have x2 := (hS.blk 6 rfl).cell 2
          simp at x0 x1 x2
          go_simp
          simp only [yUpon]
          exact hK _ _ rfl hS
        · intro D uu w' K hD hF hl hS hK
          simp only [puts, Act.put, List.setIfInBounds_toArray, List.set_cons_succ, List.set_cons_zero, Nat.zero_add, Nat.reduceAdd]
          go_simp
          simp only [yUpon]
          exact hK _ _ rfl hS
        · intro D uu w' K hD hF hl hS hK
          have f0 := (hF 0 (by kernel_rfl)).2
          simp only at f0
          simp only [puts, Act.put, List.setIfInBounds_toArray, List.set_cons_succ, List.set_cons_zero, Nat.zero_add, Nat.reduceAdd]
          simp only [f0]
          go_simp
          simp only [yUpon]
          exact hK _ _ rfl hS
        · intro D uu w' K hD hF hl hS hK
          have f1 := (hF 1 (by kernel_rfl)).2
          simp only at f1
          simp only [puts, Act.put, List.setIfInBounds_toArray, List.set_cons_succ, List.set_cons_zero, Nat.zero_add, Nat.reduceAdd]
          simp only [f1]
          simp only [hD, cond_false] at hS
          have x0 := (hS.blk 0 rfl).cell 0
          have x1 := (hS.blk 0 rfl).cell 1
          have x2 := (hS.blk 0 rfl).cell 2
          simp at x0 x1 x2
          have z0 := (hS.blk 0 rfl).frozen 0
          have z1 := (hS.blk 0 rfl).frozen 1
          have z2 := (hS.blk 0 rfl).frozen 2
          have hput := ((hS.put (i := 0) rfl 0 (.int .i64 (k.L : Int))).put (i := 0) rfl 1 (.int .i64 (k.R : Int))).put (i := 0) rfl 2 (.int .i64 (k.S : Int))
          have e1 : (fset D 5 true) 5 = true := rfl
          go_simp
          simp only [yUpon]
          refine hK _ _ trivial ?_
          simp only [e1, cond_true]
          exact hput
        · intro D uu w' K hD hF hl hS hK
          have f2 := (hF 2 (by kernel_rfl)).2
          simp only at f2
          simp only [puts, Act.put, List.setIfInBounds_toArray, List.set_cons_succ, List.set_cons_zero, Nat.zero_add, Nat.reduceAdd]
          simp only [f2]
          simp only [hD, cond_false] at hS
          have x0 := (hS.blk 1 rfl).cell 0
          have x1 := (hS.blk 1 rfl).cell 1
          have x2 := (hS.blk 1 rfl).cell 2
          simp at x0 x1 x2
          have z0 := (hS.blk 1 rfl).frozen 0
          have z1 := (hS.blk 1 rfl).frozen 1
          have z2 := (hS.blk 1 rfl).frozen 2
          have hput := ((hS.put (i := 1) rfl 0 (.int .i64 0)).put (i := 1) rfl 1 (.int .i64 (u : Int))).put (i := 1) rfl 2 (.slice RA RL RC)
          have e1 : (fset D 6 true) 6 = true := rfl
          go_simp
          simp only [yUpon]
          refine hK _ _ trivial ?_
          simp only [e1, cond_true]
          exact hput
        · intro D uu w' K hD hF hl hS hK
          have f3 := (hF 3 (by kernel_rfl)).2
          simp only at f3
          simp only [puts, Act.put, List.setIfInBounds_toArray, List.set_cons_succ, List.set_cons_zero, Nat.zero_add, Nat.reduceAdd]
          simp only [f3]
          go_simp
          simp only [yUpon]
          exact hK _ _ rfl hS
      case fin =>
        intro D u2 wf hall hS
        have f5 := (hall 5 (by simp)).1
        have f6 := (hall 6 (by simp)).1
        have v0 := (hall 0 (by simp)).2
        have v1 := (hall 1 (by simp)).2
        have v2 := (hall 2 (by simp)).2
        have v3 := (hall 3 (by simp)).2
        have v4 := (hall 4 (by simp)).2
        have v7 := (hall 7 (by simp)).2
        simp only at v0 v1 v2 v3 v4 v7
        simp only [f5, f6, cond_true] at hS
        have HS := Lib.hid hS
        clear hall hS
        simp only [puts, Act.put, List.setIfInBounds_toArray, List.set_cons_succ, List.set_cons_zero, Nat.zero_add, Nat.reduceAdd]
        simp only [v0, v1, v2, v3, v4, v7]
        clear v0 v1 v2 v3 v4 v7
        go_wp2
        have hb1 := HS.out.blk 0 rfl
        have hb2 := HS.out.blk 1 rfl
        have ld1 : (loadVar 30 ⟨g5, 0, none⟩).run Try.prog wf = .ok (.agg #[.int .i64 (k.L : Int), .int .i64 (k.R : Int), .int .i64 (k.S : Int)]) wf := run_loadVar_mid wf g5 0 30 [.int .i64 (k.L : Int), .int .i64 (k.R : Int), .int .i64 (k.S : Int)] ((Try.prog.underlying 30).getD (.int .i64)) (fun j v hv => by rw [Nat.zero_add, hb1.cell]; simpa using hv) (by kernel_rfl) (by kernel_rfl) (by kernel_rfl)
        have ld2 : (loadVar 33 ⟨g6, 0, none⟩).run Try.prog wf = .ok (.agg #[.int .i64 0, .int .i64 (u : Int), .slice RA RL RC]) wf := run_loadVar_mid wf g6 0 33 [.int .i64 0, .int .i64 (u : Int), .slice RA RL RC] ((Try.prog.underlying 33).getD (.int .i64)) (fun j v hv => by rw [Nat.zero_add, hb2.cell]; simpa using hv) (by kernel_rfl) (by kernel_rfl) (by kernel_rfl)
        refine bodyPost_ret (v := .tuple #[.pointer (some ⟨d.b, 0, none⟩), .agg #[.int .i64 (k.L : Int), .int .i64 (k.R : Int), .int .i64 (k.S : Int)], .agg #[.int .i64 0, .int .i64 (u : Int), .slice RA RL RC], .slice A0 (atsOf os).length C0]) ?_ rfl ?_
        · rw [results_4 (fn := Try.f24) (p := 4) (q := 5) (r := 6) (s := 7) (ty := 30) (tz := 33) (a1 := ⟨g5, 0, none⟩) (a2 := ⟨g6, 0, none⟩) rfl _ _ _ ?h1 ?h2 ld1 ld2]
          · rfl
          · rfl
          · rfl
        refine ⟨d, t, .slice RA RL RC, .slice A0 (atsOf os).length C0, ?_, ?_, ?_, ?_⟩
        · rw [hu]; rfl
        · rw [hu, hos]; exact HF.out
        · rw [hos]; exact HB.out
        · rw [hos]; exact (HS.out.dropN 3).take 3
end Go.Proofs.Ytbdomdmnjclpdaa
