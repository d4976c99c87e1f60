/-
  ReachFrom: the walk.
-/
import Derived.Deep.CutRange
import Derived.Test.YthdiehcmjknhiaaAwk13
import Derived.Test.YthdiehcmjknhiaaRchL
import Derived.Sort.CutIn
set_option linter.unusedSimpArgs false
set_option linter.unusedVariables false
set_option maxRecDepth 100000
namespace Go.Proofs.Ythdiehcmjknhiaa
open Go.RowKit Go.Shelf

attribute [local go_sem] Oper.semAt_some

theorem pickF_bounds {os : List Ob} {nm : List Int} (hn : ∀ x ∈ nm, 0 ≤ x ∧ x ≤ 65535) (ho : ∀ o ∈ os, o.at_ ≤ 20000) : ∀ x ∈ pickF os nm, 0 ≤ x ∧ x ≤ 20000 := by
  intro x hx
  obtain ⟨n, hnm, rfl⟩ := List.mem_map.1 hx
  have h1 := hn n hnm
  unfold pickAt
  split
  · omega
  · cases h : os[(n / 6).toNat % os.length]? with
    | none => simp
    | some o =>
      have := ho o (List.mem_of_getElem? h)
      simp
      omega
theorem rd_of_row {w : World} {e : TypeId} {v : Value} {xs : List Value} (h : w.ownsRow 0 e 1 v xs.length xs) : Rd w v xs := by
  rcases h.2 with ⟨hv, h0⟩ | ⟨g, cap, cur, hv, _⟩
  · exact ⟨none, 0, by rw [hv, h0], fun hp => by omega⟩
  · subst hv
    refine ⟨some ⟨g, 0, none⟩, cap, rfl, fun hp => ⟨g, 0, rfl, fun j u hu => ?_⟩⟩
    have := h.cells (g := g) rfl j u hu
    rwa [addrZ, ← Nat.zero_add j] at this
set_option maxRecDepth 100000 in
set_option maxHeartbeats 8000000 in
theorem ReachFrom.core (l r s : Int) (v1 : Value) (hl1 : List HV) (v2 : Value) (xs2 : List Int) (v3 : Value) (xs3 : List Int) (a4 : Int) (w : World) (l0 : 0 ≤ l) (l1 : l ≤ 65535) (r0 : 0 ≤ r) (r1 : r ≤ 65535) (s0 : 0 ≤ s) (s1 : s ≤ 65535) (hm1 : RdH w v1 hl1) (ho1 : ∀ x ∈ hl1, x.Ok) (hn1 : hl1.length ≤ maxLen) (hr2 : Rd w v2 (xs2.map (Value.int .u16))) (hb2 : ∀ x ∈ xs2, 0 ≤ x ∧ x ≤ 65535) (hn2 : xs2.length ≤ maxLen) (hr3 : Rd w v3 (xs3.map (Value.int .u16))) (hb3 : ∀ x ∈ xs3, 0 ≤ x ∧ x ≤ 65535) (hn3 : xs3.length ≤ maxLen) (a40 : 0 ≤ a4) (a41 : a4 ≤ 255) :
    Calls Try.prog 13 #[.agg #[.int .u16 l, .int .u16 r, .int .u16 s], v1, v2, v3, .int .u8 a4] w fun e w' => e = .returned (.bool true) ∧ Keep w.heap.size [] w w' := by
  simp only [maxLen] at hn1 hn2 hn3
  obtain ⟨q4, rfl⟩ : ∃ q4 : Nat, a4 = (q4 : Int) := ⟨a4.toNat, by omega⟩
  have HS := Lib.hid ((((Sep.start w []).new 24 #[.int .u16 l, .int .u16 r, .int .u16 s]).new 5 #[.int .u8 (q4 : Int)]).new 4 #[.bool false])
  simp only [World.size_alloc] at HS
  have HRD3 := Lib.hid hr3
  obtain ⟨NA3, NC3, hv3, _⟩ := hr3.cells
  subst hv3
  have HB3 := Lib.hid hb3
  obtain ⟨hk, hkL, hkR, hkS⟩ := kOf_ok (l := l) (r := r) (s := s) l0 r0 s0
  have hla := fun w hm hml hr hnl => linked_any l r s (7) v1 v2 hl1 xs2 w l0 l1 r0 r1 s0 s1 hm ho1 hml hr hb2 hnl (by decide) (by decide)
  have hpl := placed_length ((kOf l r s).from_ 0) (kOf l r s).S hl1 0
  generalize kOf l r s = k at *
  obtain ⟨os, hos⟩ : ∃ os, placed (k.from_ 0) k.S hl1 0 = os := ⟨_, rfl⟩
  obtain ⟨u, hu⟩ : ∃ u, usedOf k.S hl1 0 = u := ⟨_, rfl⟩
  simp only [hos, hu] at hla hpl
  have HLA := Lib.hid hla
  have HK := Lib.hid hk
  have HM := Lib.hid hm1
  have HRD := Lib.hid hr2
  have hS8 : 8 ≤ k.S := hk.s0
  have hw2 : k.words ≤ 10000 := (Kfg.words_le hk).2
  have hw1 : k.act + 2 + k.R ≤ k.words := (Kfg.words_le hk).1
  obtain ⟨HA, HC, hv1, hvv⟩ := hm1
  subst hv1
  obtain ⟨NA, NC, hv2, hvv2⟩ := hr2.cells
  subst hv2
  clear hla hk hos hu hvv hvv2 hr2
  clear hr3 hb3
  refine Calls.mono (R := fun e w' => e = .returned (.bool true) ∧ Sep w [] [] w') ?_ fun e w' h => ⟨h.1, h.2.keep⟩
  refine calls_of_wpFr Try.func13 rfl ?_
  simp only [Try.ntmps13, List.size_toArray, List.length_cons, List.length_nil, Nat.reduceAdd, Nat.reduceSub, Array.replicate_succ,
     Array.replicate_zero, List.push_toArray, List.append_toArray, List.nil_append, List.cons_append]
  refine wpFr_seq (wpFr_of_wp ?_)
  go_wp2
  generalize ((w.alloc _).alloc _).alloc _ = w2 at *
  generalize w.heap.size = gx at *
  generalize gx + 1 = gs at *
  generalize gs + 1 = gr at *
  refine wpFr_seq (wpFr_of_wp ?_)
  go_wp2_with fail
  refine (awake13_any _).mono ?_
  rintro e w1 ⟨rfl, hk⟩
  replace HS := Lib.hid (HS.out.grow hk)
  clear hk
  go_wp2
  refine wpFr_seq (wpFr_of_wp ?_)
  by_cases hb1 : 25 < hl1.length
  · have hbI : (25 : Int) < hl1.length := by omega
    have r0 := (HS.out.blk 2 rfl).cell 0
    simp at r0
    have z2 := (HS.out.blk 2 rfl).frozen 0
    have hs2 := HS.out.put (i := 2) rfl 0 (.bool true)
    have HS2 := Lib.hid hs2
    clear hs2
    go_wp2
    have ld := loadVar_one (P := Try.prog) (ty := 4) (a := ⟨gr, 0, none⟩) (v := .bool true) (d := .bool) (by kernel_rfl) rfl (by rw [(HS2.out.blk 2 rfl).cell 0]; rfl)
    exact leave_none (results_c (fn := Try.f13) (p := 10) (ty := 4) (a1 := ⟨gr, 0, none⟩) rfl _ _ _ rfl ld) ⟨rfl, HS2.out.take 0⟩
  have hx2 : ((25 : Int) < hl1.length) = False := by rw [eq_iff_iff, iff_false]; omega
  have hx3 : (25 < hl1.length) = False := by rw [eq_iff_iff, iff_false]; omega
  by_cases hb4 : 60 < xs2.length
  · have hbI : (60 : Int) < xs2.length := by omega
    have r0 := (HS.out.blk 2 rfl).cell 0
    simp at r0
    have z2 := (HS.out.blk 2 rfl).frozen 0
    have hs2 := HS.out.put (i := 2) rfl 0 (.bool true)
    have HS2 := Lib.hid hs2
    clear hs2
    go_wp2
    have ld := loadVar_one (P := Try.prog) (ty := 4) (a := ⟨gr, 0, none⟩) (v := .bool true) (d := .bool) (by kernel_rfl) rfl (by rw [(HS2.out.blk 2 rfl).cell 0]; rfl)
    exact leave_none (results_c (fn := Try.f13) (p := 10) (ty := 4) (a1 := ⟨gr, 0, none⟩) rfl _ _ _ rfl ld) ⟨rfl, HS2.out.take 0⟩
  have hx4 : ((60 : Int) < xs2.length) = False := by rw [eq_iff_iff, iff_false]; omega
  have hx5 : (60 < xs2.length) = False := by rw [eq_iff_iff, iff_false]; omega
  by_cases hb5 : 10 < xs3.length
  · have hbI : (10 : Int) < xs3.length := by omega
    have r0 := (HS.out.blk 2 rfl).cell 0
    simp at r0
    have z2 := (HS.out.blk 2 rfl).frozen 0
    have hs2 := HS.out.put (i := 2) rfl 0 (.bool true)
    have HS2 := Lib.hid hs2
    clear hs2
    go_wp2
    have ld := loadVar_one (P := Try.prog) (ty := 4) (a := ⟨gr, 0, none⟩) (v := .bool true) (d := .bool) (by kernel_rfl) rfl (by rw [(HS2.out.blk 2 rfl).cell 0]; rfl)
    exact leave_none (results_c (fn := Try.f13) (p := 10) (ty := 4) (a1 := ⟨gr, 0, none⟩) rfl _ _ _ rfl ld) ⟨rfl, HS2.out.take 0⟩
  have hx6 : ((10 : Int) < xs3.length) = False := by rw [eq_iff_iff, iff_false]; omega
  have hx7 : (10 < xs3.length) = False := by rw [eq_iff_iff, iff_false]; omega
  go_wp2
  clear hx2 hx3 hx4 hx5 hx6 hx7
  refine wpFr_seq (wpFr_of_wp ?_)
  have c0 := (HS.out.blk 0 rfl).cell 0
  simp at c0
  have c1 := (HS.out.blk 0 rfl).cell 1
  simp at c1
  have c2 := (HS.out.blk 0 rfl).cell 2
  simp at c2
  go_wp2_with fail
  refine (HLA.out _ (HM.out.keep HS.out.keep) (by omega) (HRD.out.keep HS.out.keep) (by omega)).mono ?_
  rintro e w3 ⟨d, t, rv, ov, rfl, hf, hS⟩
  obtain ⟨OA, OC, hov⟩ := rowR_val (hS.row 1 rfl)
  obtain ⟨RA, RC, hrv⟩ := rowR_val (hS.row 2 rfl)
  rw [atsOf_length] at hov
  obtain ⟨rs, hrs⟩ : ∃ rs, rootsOf t k k.R = rs := ⟨_, rfl⟩
  rw [hrs] at hrv hS
  obtain ⟨RL, hRL⟩ : ∃ RL, (uw rs).length = RL := ⟨_, rfl⟩
  rw [hRL] at hrv
  subst hov hrv
  have hadds := HS.out.adds hS
  replace HS := Lib.hid hadds
  have HL := Lib.hid hf
  simp only [Kfg.cells, rbC]
  clear hS hadds hf hrs hRL c0 c1 c2 HLA HM HRD
  go_wp2
  replace HS := Lib.hid ((HS.out.new 30 #[.int .i64 (k.L : Int), .int .i64 (k.R : Int), .int .i64 (k.S : Int)]).new 33 #[.int .i64 0, .int .i64 (u : Int), .slice RA RL RC])
  simp only [World.size_alloc] at HS
  generalize (w3.alloc _).alloc _ = w4 at *
  generalize w3.heap.size = gk at *
  generalize gk + 1 = gb at *
  refine wpFr_seq (wpFr_of_wp ?_)
  go_wp2
  have hus : u ≤ k.S := HL.out.fill.le
  have hus97 : u ≤ 97 := by omega
  have hosl : os.length ≤ 1000 := by omega
  have hat : ∀ o ∈ os, o.at_ ≤ 20000 := fun o ho => by have := HL.out.fill.in_ HK.out (by decide) ho; omega
  have hpb := pickF_bounds HB3.out hat
  have hpk := fun w h1 h2 => pick_any (.slice OA os.length OC) (.slice NA3 xs3.length NC3) os xs3 w h1 h2 HB3.out (by omega) hosl hat
  have hpl' := pickF_length os xs3
  obtain ⟨ws, hws⟩ : ∃ ws, pickF os xs3 = ws := ⟨_, rfl⟩
  rw [hws] at hpb hpk hpl'
  have hpb2 : ∀ x ∈ ws, 0 ≤ x ∧ x ≤ 18446744073709551615 := fun x hx => by have := hpb x hx; omega
  have hre := fun w wv hd hr => reached_any d t k 0 u RA RL RC wv ws w hd HK.out (by decide) hus HL.out.rng hpb2 (by omega) hr
  have hsi := fun w wv hd hr => size_any d t k 0 u RA RL RC wv ws w hd HK.out (by decide) hus HL.out.rng hpb2 (by omega) hr (HL.out.small HK.out)
  have hfs := fun gb gk gd gw wv => from_seq d t k 0 u gb gk gd gw RA RL RC wv ws HK.out (by decide) hus HL.out.rng hpb2 (by omega) (HL.out.small HK.out)
  have hfine := Fine.fo (G := isOb t k 0 u) (nm := nmsOf t) (ws := ws) u
  have hlen := Fine.le _ hfine
  have hwo : ∀ x ∈ reachF (isOb t k 0 u) (nmsOf t) ws u, wordsOf t x ≤ 64 ∧ (headOf (t.nw x.toNat)).1 = (wordsOf t x : Int) := fun x hx => by
    obtain ⟨p, rfl, _⟩ := isOb_in (hfine.2 x hx)
    have hok := headOf_ok (x := t.nw p) (HL.out.rng.nw p).1
    have h0 := hok.1
    have h1 := hok.2.1
    unfold wordsOf
    simp only [Int.toNat_natCast]
    omega
  change (reachF (isOb t k 0 u) (nmsOf t) ws u).length ≤ u at hlen
  obtain ⟨Rch, hRc⟩ : ∃ Rch, reachF (isOb t k 0 u) (nmsOf t) ws u = Rch := ⟨_, rfl⟩
  rw [hRc] at hlen hwo
  simp only [hRc] at hre hsi hfs
  have hsz : ∀ m, sizeF t (Rch.take m) ≤ 300000 := fun m => by
    have h1 := sizeF_le (t := t) (N := 64) (L := Rch.take m) (fun x hx => (hwo x (List.mem_of_mem_take hx)).1)
    rw [List.length_take] at h1
    omega
  simp only [Kfg.cells, rbC] at hre hsi
  have HPK := Lib.hid hpk
  have HRE := Lib.hid hre
  have HSI := Lib.hid hsi
  have HFS := Lib.hid hfs
  have HWO := Lib.hid hwo
  have HSZ := Lib.hid hsz
  have HPL := Lib.hid hpl'
  clear hat hpb hpk hpl' hws hpb2 hre hsi hfs hfine hwo hRc hsz HL HK
  refine wpFr_seq (wpFr_of_wp ?_)
  go_wp2_with fail
  refine (HPK.out _ (RdP.of_row (HS.out.row 4 rfl)) (HRD3.out.keep HS.out.keep)).mono ?_
  rintro e1 w5 ⟨wv, rfl, hS⟩
  obtain ⟨VA, VC, hvv⟩ := rowR_val (hS.row 0 rfl)
  rw [uw_length, HPL.out] at hvv
  subst hvv
  replace HS := Lib.hid (HS.out.adds hS)
  clear hS HPK
  go_wp2
  refine wpFr_seq (wpFr_of_wp ?_)
  have c0 := (HS.out.blk 6 rfl).cell 0
  simp at c0
  have c1 := (HS.out.blk 6 rfl).cell 1
  simp at c1
  have c2 := (HS.out.blk 6 rfl).cell 2
  simp at c2
  have b0 := (HS.out.blk 7 rfl).cell 0
  simp at b0
  have b1 := (HS.out.blk 7 rfl).cell 1
  simp at b1
  have b2 := (HS.out.blk 7 rfl).cell 2
  simp at b2
  go_wp2_with fail
  refine (HRE.out _ _ (HS.out.dev 3 rfl) (rd_of_row (HS.out.row 8 rfl))).mono ?_
  rintro e1 w6 ⟨qv, rfl, hS⟩
  obtain ⟨QA, QC, hvv⟩ := rowR_val (hS.row 0 rfl)
  rw [iw_length] at hvv
  subst hvv
  replace HS := Lib.hid ((HS.out.adds hS).new 34 #[.slice QA Rch.length QC])
  clear hS HRE c0 c1 c2 b0 b1 b2
  go_wp2
  generalize w6.alloc _ = w7 at *
  generalize w6.heap.size = gw at *
  refine wpFr_seq (wpFr_of_wp ?_)
  go_wp2
  replace HS := Lib.hid ((HS.out.new 3 #[.int .i64 ((0 : Nat) : Int)]).new 3 #[.int .i64 ((0 : Nat) : Int)])
  simp only [World.size_alloc] at HS
  generalize (w7.alloc _).alloc _ = w8 at *
  generalize w7.heap.size = gn at *
  generalize gn + 1 = gz at *
  refine wpFr_seq (wpFr_seq (wpFr_of_wp ?_))
  have c0 := (HS.out.blk 6 rfl).cell 0
  simp at c0
  have c1 := (HS.out.blk 6 rfl).cell 1
  simp at c1
  have c2 := (HS.out.blk 6 rfl).cell 2
  simp at c2
  have b0 := (HS.out.blk 7 rfl).cell 0
  simp at b0
  have b1 := (HS.out.blk 7 rfl).cell 1
  simp at b1
  have b2 := (HS.out.blk 7 rfl).cell 2
  simp at b2
  go_wp2_with fail
  refine (rfrom_any _ _ _ _ _ _ _ _ _ ⟨_, rfl⟩ ⟨_, _, _, rfl, rfl, rfl⟩ ⟨_, _, _, _, _, rfl, rfl, rfl⟩ ⟨_, _, _, rfl⟩).mono ?_
  rintro e1 w9 ⟨rfl, rfl⟩
  replace HS := Lib.hid ((((HS.out.new 28 #[.pointer (some ⟨d.b, 0, none⟩)]).new 30 #[.int .i64 (k.L : Int), .int .i64 (k.R : Int), .int .i64 (k.S : Int)]).new 33 #[.int .i64 0, .int .i64 (u : Int), .slice RA RL RC]).new 31 #[.slice VA xs3.length VC])
  simp only [World.size_alloc] at HS
  generalize (((w8.alloc _).alloc _).alloc _).alloc _ = w9 at *
  generalize w8.heap.size = g1 at *
  generalize g1 + 1 = g2 at *
  generalize g2 + 1 = g3 at *
  generalize g3 + 1 = g4 at *
  clear c0 c1 c2 b0 b1 b2
  go_wp2
  replace HS : Hid (Sep w [] [blkR gx 24 #[.int .u16 l, .int .u16 r, .int .u16 s], blkR gs 5 #[.int .u8 (q4 : Int)], blkR gr 4 #[.bool false], devR d t, rowR 3 (.slice OA os.length OC) (atsOf os), rowR 26 (.slice RA RL RC) (uw rs), blkR gk 30 #[.int .i64 (k.L : Int), .int .i64 (k.R : Int), .int .i64 (k.S : Int)], blkR gb 33 #[.int .i64 0, .int .i64 (u : Int), .slice RA RL RC], rowR 26 (.slice VA xs3.length VC) (uw ws), rowR 3 (.slice QA Rch.length QC) (iw Rch), blkR gw 34 #[.slice QA Rch.length QC], blkR gn 3 #[.int .i64 (((0) : Nat) : Int)], blkR gz 3 #[.int .i64 (((sizeF t (Rch.take 0)) : Nat) : Int)], blkR g1 28 #[.pointer (some ⟨d.b, 0, none⟩)], blkR g2 30 #[.int .i64 (k.L : Int), .int .i64 (k.R : Int), .int .i64 (k.S : Int)], blkR g3 33 #[.int .i64 0, .int .i64 (u : Int), .slice RA RL RC], blkR g4 31 #[.slice VA xs3.length VC]] w9) := HS
  refine wpFr_block ?_
  refine wpFr_rangeX HS.out rfl (enters_of Try.func67 (by kernel_rfl) rfl) (HFS.out g3 g2 g1 g4 (.slice VA xs3.length VC)) (fun _ => rfl)
    (fun m L => L = [blkR gx 24 #[.int .u16 l, .int .u16 r, .int .u16 s], blkR gs 5 #[.int .u8 (q4 : Int)], blkR gr 4 #[.bool false], devR d t, rowR 3 (.slice OA os.length OC) (atsOf os), rowR 26 (.slice RA RL RC) (uw rs), blkR gk 30 #[.int .i64 (k.L : Int), .int .i64 (k.R : Int), .int .i64 (k.S : Int)], blkR gb 33 #[.int .i64 0, .int .i64 (u : Int), .slice RA RL RC], rowR 26 (.slice VA xs3.length VC) (uw ws), rowR 3 (.slice QA Rch.length QC) (iw Rch), blkR gw 34 #[.slice QA Rch.length QC], blkR gn 3 #[.int .i64 (((m) : Nat) : Int)], blkR gz 3 #[.int .i64 (((sizeF t (Rch.take m)) : Nat) : Int)], blkR g1 28 #[.pointer (some ⟨d.b, 0, none⟩)], blkR g2 30 #[.int .i64 (k.L : Int), .int .i64 (k.R : Int), .int .i64 (k.S : Int)], blkR g3 33 #[.int .i64 0, .int .i64 (u : Int), .slice RA RL RC], blkR g4 31 #[.slice VA xs3.length VC]] ∧ m ≤ Rch.length) (fun c L => c = .ret ∧ ∃ (m sz : Nat), L = [blkR gx 24 #[.int .u16 l, .int .u16 r, .int .u16 s], blkR gs 5 #[.int .u8 (q4 : Int)], blkR gr 4 #[.bool true], devR d t, rowR 3 (.slice OA os.length OC) (atsOf os), rowR 26 (.slice RA RL RC) (uw rs), blkR gk 30 #[.int .i64 (k.L : Int), .int .i64 (k.R : Int), .int .i64 (k.S : Int)], blkR gb 33 #[.int .i64 0, .int .i64 (u : Int), .slice RA RL RC], rowR 26 (.slice VA xs3.length VC) (uw ws), rowR 3 (.slice QA Rch.length QC) (iw Rch), blkR gw 34 #[.slice QA Rch.length QC], blkR gn 3 #[.int .i64 (((m) : Nat) : Int)], blkR gz 3 #[.int .i64 (((sz) : Nat) : Int)], blkR g1 28 #[.pointer (some ⟨d.b, 0, none⟩)], blkR g2 30 #[.int .i64 (k.L : Int), .int .i64 (k.R : Int), .int .i64 (k.S : Int)], blkR g3 33 #[.int .i64 0, .int .i64 (u : Int), .slice RA RL RC], blkR g4 31 #[.slice VA xs3.length VC]]) (fun _ _ => False) ⟨rfl, by omega⟩ ?rr (fun fn hfn => .inr (fun ch L h => h)) ?round ?done ?stop (fun _ _ _ _ _ h _ => h.elim)
  case rr =>
    rintro m L X W' hm ⟨rfl, _⟩ hs
    exact ⟨hs.blk 15 rfl, hs.blk 14 rfl, hs.blk 13 rfl, hs.blk 16 rfl, rd_of_row (hs.row 8 rfl), hs.dev 3 rfl⟩
  case round =>
    rintro l9 m L X r1 r2 W' hm ⟨rfl, hmN⟩ hs
    obtain ⟨x, hx⟩ : ∃ x, Rch[m]? = some x := ⟨_, List.getElem?_eq_getElem hm⟩
    have hgd : Rch.getD m 0 = x := by rw [List.getD_eq_getElem?_getD, hx]; rfl
    rw [hgd]
    have hst := sizeF_take (t := t) hx
    obtain ⟨hw64, hwe⟩ := HWO.out x (List.mem_of_getElem? hx)
    have hsm := HSZ.out (m + 1)
    obtain ⟨q, hq⟩ : ∃ q, wordsOf t x = q := ⟨_, rfl⟩
    obtain ⟨b, hb⟩ : ∃ b, (headOf (t.nw x.toNat)).2.1 = b := ⟨_, rfl⟩
    have hob : obOf t x = [.int .i64 (q : Int), .int .i64 b, .int .i64 x] := by unfold obOf; rw [hwe, hq, hb]
    rw [hob]
    obtain ⟨sm, hsme⟩ : ∃ sm, sizeF t (Rch.take m) = sm := ⟨_, rfl⟩
    obtain ⟨s2, hs2e⟩ : ∃ s2, sizeF t (Rch.take (m + 1)) = s2 := ⟨_, rfl⟩
    rw [hsme, hs2e, hq] at hst
    rw [hs2e] at hsm
    rw [hsme] at hs
    rw [hq] at hw64
    rw [hs2e]
    have hadd : IntKind.i64.wrap ((sm : Int) + ((q : Int) + 1)) = (s2 : Int) := by rw [IntWalk.i64_in _ (by omega)]; omega
    have HZ1 := Lib.hid (fun w => hsize_eq (q : Int) b ((q : Int) + 1) w (by omega) (by omega) rfl)
    have HX := Lib.hid hx
    have hmI : (m : Int) < (Rch.length : Int) := by omega
    clear hgd HS hx hwe hq hb hob hsme hs2e hst HFS
    gi_wp2
    refine ⟨[blkR gx 24 #[.int .u16 l, .int .u16 r, .int .u16 s], blkR gs 5 #[.int .u8 (q4 : Int)], blkR gr 4 #[.bool false], devR d t, rowR 3 (.slice OA os.length OC) (atsOf os), rowR 26 (.slice RA RL RC) (uw rs), blkR gk 30 #[.int .i64 (k.L : Int), .int .i64 (k.R : Int), .int .i64 (k.S : Int)], blkR gb 33 #[.int .i64 0, .int .i64 (u : Int), .slice RA RL RC], rowR 26 (.slice VA xs3.length VC) (uw ws), rowR 3 (.slice QA Rch.length QC) (iw Rch), blkR gw 34 #[.slice QA Rch.length QC], blkR gn 3 #[.int .i64 (((m) : Nat) : Int)], blkR gz 3 #[.int .i64 (((sm) : Nat) : Int)], blkR g1 28 #[.pointer (some ⟨d.b, 0, none⟩)], blkR g2 30 #[.int .i64 (k.L : Int), .int .i64 (k.R : Int), .int .i64 (k.S : Int)], blkR g3 33 #[.int .i64 0, .int .i64 (u : Int), .slice RA RL RC], blkR g4 31 #[.slice VA xs3.length VC]] ++ [blkR W'.heap.size 44 #[.int .i64 (q : Int), .int .i64 b, .int .i64 x]], Sep.bring _ _ (hs.new 44 #[.int .i64 (q : Int), .int .i64 b, .int .i64 x]), ?_⟩
    clear hs
    generalize W'.heap.size = go at *
    rintro q2 W2 hs
    have HS := Lib.hid hs
    clear hs
    obtain ⟨g, hQA, _⟩ := iw_cells (HS.out.row 9 rfl) m x HX.out
    subst hQA
    have hge : decide ((m : Int) ≥ (Rch.length : Int)) = false := by rw [decide_eq_false_iff_not]; omega
    have hge2 : decide (Rch.length ≤ m) = false := by rw [decide_eq_false_iff_not]; omega
    gi_upto_region 13 with fail
    refine wpIn_region_st3 (W := w) (S := []) (by kernel_rfl) (by kernel_rfl) (by kernel_rfl) (by kernel_rfl) (fun D uu => ([blkR gx 24 #[.int .u16 l, .int .u16 r, .int .u16 s], blkR gs 5 #[.int .u8 (q4 : Int)], blkR gr 4 #[.bool false], devR d t, rowR 3 (.slice OA os.length OC) (atsOf os), rowR 26 (.slice RA RL RC) (uw rs), blkR gk 30 #[.int .i64 (k.L : Int), .int .i64 (k.R : Int), .int .i64 (k.S : Int)], blkR gb 33 #[.int .i64 0, .int .i64 (u : Int), .slice RA RL RC], rowR 26 (.slice VA xs3.length VC) (uw ws), rowR 3 (.slice (some ⟨g, 0, none⟩) Rch.length QC) (iw Rch), blkR gw 34 #[.slice (some ⟨g, 0, none⟩) Rch.length QC], blkR gn 3 #[.int .i64 (((m) : Nat) : Int)], blkR gz 3 #[.int .i64 (((sm) : Nat) : Int)], blkR g1 28 #[.pointer (some ⟨d.b, 0, none⟩)], blkR g2 30 #[.int .i64 (k.L : Int), .int .i64 (k.R : Int), .int .i64 (k.S : Int)], blkR g3 33 #[.int .i64 0, .int .i64 (u : Int), .slice RA RL RC], blkR g4 31 #[.slice VA xs3.length VC]] ++ [blkR go 44 #[.int .i64 (q : Int), .int .i64 b, .int .i64 x]] ++ r1 :: q2 :: X))
      (fun j v => match j with
        | 0 => v = .int .i64 (m : Int)
        | 1 => v = .slice (some ⟨g, 0, none⟩) Rch.length QC
        | 2 => v = .int .i64 (Rch.length : Int)
        | 3 => v = .bool false
        | 4 => v = .bool false
        | 5 => v = .pointer (some ⟨go, 2, none⟩)
        | 6 => v = .int .i64 x
        | 7 => v = .slice (some ⟨g, 0, none⟩) Rch.length QC
        | 8 => v = .int .i64 (m : Int)
        | 9 => v = .pointer (some ⟨g, m, none⟩)
        | 10 => v = .int .i64 x
        | 11 => v = .bool false
        | 12 => v = .bool false
        | _ => True) ?start ?step ?fin
    case start => exact fun u => HS.out
    case step =>
      clear HS
      refine ⟨?_, ?_, ?_, ?_, ?_, ?_, ?_, ?_, ?_, ?_, ?_, ?_, ?_, trivial⟩
      · intro D uu w' K hD hF hl hS hK
        simp only [puts, Act.put, List.setIfInBounds_toArray, List.set_cons_succ, List.set_cons_zero, Nat.zero_add, Nat.reduceAdd]
        have x0 := (hS.blk 11 rfl).cell 0
        simp at x0
        go_simp
        simp only [yUpon]
        exact hK _ _ rfl hS
      · intro D uu w' K hD hF hl hS hK
        simp only [puts, Act.put, List.setIfInBounds_toArray, List.set_cons_succ, List.set_cons_zero, Nat.zero_add, Nat.reduceAdd]
        have x0 := (hS.blk 10 rfl).cell 0
        simp at x0
        go_simp
        simp only [yUpon]
        exact hK _ _ rfl hS
      · intro D uu w' K hD hF hl hS hK
        have f1 := (hF 1 (by kernel_rfl)).2
        simp only at f1
        simp only [puts, Act.put, List.setIfInBounds_toArray, List.set_cons_succ, List.set_cons_zero, Nat.zero_add, Nat.reduceAdd]
        simp only [f1]
        go_simp
        simp only [yUpon]
        exact hK _ _ rfl hS
      · intro D uu w' K hD hF hl hS hK
        have f0 := (hF 0 (by kernel_rfl)).2
        simp only at f0
        have f2 := (hF 2 (by kernel_rfl)).2
        simp only at f2
        simp only [puts, Act.put, List.setIfInBounds_toArray, List.set_cons_succ, List.set_cons_zero, Nat.zero_add, Nat.reduceAdd]
        simp only [f0, f2]
        go_simp
        simp only [yUpon]
        exact hK _ _ rfl hS
      · intro D uu w' K hD hF hl hS hK
        have f3 := (hF 3 (by kernel_rfl)).2
        simp only at f3
        simp only [puts, Act.put, List.setIfInBounds_toArray, List.set_cons_succ, List.set_cons_zero, Nat.zero_add, Nat.reduceAdd]
        simp only [f3]
        go_simp
        simp only [yUpon]
        exact hK _ _ rfl hS
      · intro D uu w' K hD hF hl hS hK
        have f4 := (hF 4 (by kernel_rfl)).2
        simp only at f4
        simp only [puts, Act.put, List.setIfInBounds_toArray, List.set_cons_succ, List.set_cons_zero, Nat.zero_add, Nat.reduceAdd]
        simp only [f4]
        go_simp
        simp only [yUpon]
        exact hK _ _ rfl hS
      · intro D uu w' K hD hF hl hS hK
        have f4 := (hF 4 (by kernel_rfl)).2
        simp only at f4
        have f5 := (hF 5 (by kernel_rfl)).2
        simp only at f5
        simp only [puts, Act.put, List.setIfInBounds_toArray, List.set_cons_succ, List.set_cons_zero, Nat.zero_add, Nat.reduceAdd]
        simp only [f4, f5]
        have x2 := (hS.blk 17 rfl).cell 2
        simp at x2
        go_simp
        simp only [yUpon]
        exact hK _ _ rfl hS
      · intro D uu w' K hD hF hl hS hK
        have f4 := (hF 4 (by kernel_rfl)).2
        simp only at f4
        simp only [puts, Act.put, List.setIfInBounds_toArray, List.set_cons_succ, List.set_cons_zero, Nat.zero_add, Nat.reduceAdd]
        simp only [f4]
        have x0 := (hS.blk 10 rfl).cell 0
        simp at x0
        go_simp
        simp only [yUpon]
        exact hK _ _ rfl hS
      · intro D uu w' K hD hF hl hS hK
        have f4 := (hF 4 (by kernel_rfl)).2
        simp only at f4
        simp only [puts, Act.put, List.setIfInBounds_toArray, List.set_cons_succ, List.set_cons_zero, Nat.zero_add, Nat.reduceAdd]
        simp only [f4]
        have x0 := (hS.blk 11 rfl).cell 0
        simp at x0
        go_simp
        simp only [yUpon]
        exact hK _ _ rfl hS
      · intro D uu w' K hD hF hl hS hK
        have f4 := (hF 4 (by kernel_rfl)).2
        simp only at f4
        have f7 := (hF 7 (by kernel_rfl)).2
        simp only at f7
        have f8 := (hF 8 (by kernel_rfl)).2
        simp only at f8
        simp only [puts, Act.put, List.setIfInBounds_toArray, List.set_cons_succ, List.set_cons_zero, Nat.zero_add, Nat.reduceAdd]
        simp only [f4, f7, f8]
        go_simp
        simp only [yUpon]
        exact hK _ _ rfl hS
      · intro D uu w' K hD hF hl hS hK
        have f4 := (hF 4 (by kernel_rfl)).2
        simp only at f4
        have f9 := (hF 9 (by kernel_rfl)).2
        simp only at f9
        simp only [puts, Act.put, List.setIfInBounds_toArray, List.set_cons_succ, List.set_cons_zero, Nat.zero_add, Nat.reduceAdd]
        simp only [f4, f9]
        obtain ⟨gq, hgq, xc⟩ := iw_cells (hS.row 9 rfl) m x HX.out
        cases hgq
        go_simp
        simp only [yUpon]
        exact hK _ _ rfl hS
      · intro D uu w' K hD hF hl hS hK
        have f4 := (hF 4 (by kernel_rfl)).2
        simp only at f4
        have f6 := (hF 6 (by kernel_rfl)).2
        simp only at f6
        have f10 := (hF 10 (by kernel_rfl)).2
        simp only at f10
        simp only [puts, Act.put, List.setIfInBounds_toArray, List.set_cons_succ, List.set_cons_zero, Nat.zero_add, Nat.reduceAdd]
        simp only [f4, f6, f10]
        go_simp
        simp only [yUpon]
        exact hK _ _ rfl hS
      · intro D uu w' K hD hF hl hS hK
        have f4 := (hF 4 (by kernel_rfl)).2
        simp only at f4
        have f11 := (hF 11 (by kernel_rfl)).2
        simp only at f11
        simp only [puts, Act.put, List.setIfInBounds_toArray, List.set_cons_succ, List.set_cons_zero, Nat.zero_add, Nat.reduceAdd]
        simp only [f4, f11]
        go_simp
        simp only [yUpon]
        exact hK _ _ rfl hS
    case fin =>
      clear HS
      intro D uu wf hall hS
      have v12 := (hall 12 (by simp)).2
      simp only at v12
      have HS := Lib.hid hS
      clear hall hS
      simp only [puts, Act.put, List.setIfInBounds_toArray, List.set_cons_succ, List.set_cons_zero, Nat.zero_add, Nat.reduceAdd]
      simp only [v12]
      clear v12 hge hge2 hmI
      gi_upto_region 15 with fail
      refine wpIn_region_st3 (W := w) (S := []) (by kernel_rfl) (by kernel_rfl) (by kernel_rfl) (by kernel_rfl) (fun D uu => ([blkR gx 24 #[.int .u16 l, .int .u16 r, .int .u16 s], blkR gs 5 #[.int .u8 (q4 : Int)], blkR gr 4 #[.bool false], devR d t, rowR 3 (.slice OA os.length OC) (atsOf os), rowR 26 (.slice RA RL RC) (uw rs), blkR gk 30 #[.int .i64 (k.L : Int), .int .i64 (k.R : Int), .int .i64 (k.S : Int)], blkR gb 33 #[.int .i64 0, .int .i64 (u : Int), .slice RA RL RC], rowR 26 (.slice VA xs3.length VC) (uw ws), rowR 3 (.slice (some ⟨g, 0, none⟩) Rch.length QC) (iw Rch), blkR gw 34 #[.slice (some ⟨g, 0, none⟩) Rch.length QC], blkR gn 3 #[.int .i64 (((m) : Nat) : Int)], blkR gz 3 #[.int .i64 (((bif D 5 then s2 else sm) : Nat) : Int)], blkR g1 28 #[.pointer (some ⟨d.b, 0, none⟩)], blkR g2 30 #[.int .i64 (k.L : Int), .int .i64 (k.R : Int), .int .i64 (k.S : Int)], blkR g3 33 #[.int .i64 0, .int .i64 (u : Int), .slice RA RL RC], blkR g4 31 #[.slice VA xs3.length VC]] ++ [blkR go 44 #[.int .i64 (q : Int), .int .i64 b, .int .i64 x]] ++ r1 :: q2 :: X))
        (fun j v => match j with
          | 0 => v = .int .i64 (sm : Int)
          | 1 => v = .pointer (some ⟨go, 0, none⟩)
          | 2 => v = .agg #[.int .i64 (q : Int), .int .i64 b]
          | 3 => v = .int .i64 ((q : Int) + 1)
          | 4 => v = .int .i64 (s2 : Int)
          | _ => True) ?start ?step ?fin
      case start => exact fun u => HS.out
      case step =>
        clear HS
        refine ⟨?_, ?_, ?_, ?_, ?_, ?_, trivial⟩
        · intro D uu w' K hD hF hl hS hK
          simp only [puts, Act.put, List.setIfInBounds_toArray, List.set_cons_succ, List.set_cons_zero, Nat.zero_add, Nat.reduceAdd]
          have h5 := hl 5 (by kernel_rfl)
          have hS1 := hS
          simp only [h5, cond_false] at hS1
          have x0 := (hS1.blk 12 rfl).cell 0
          simp at x0
          clear hS1
          go_simp
          simp only [yUpon]
          exact hK _ _ rfl hS
        · intro D uu w' K hD hF hl hS hK
          simp only [puts, Act.put, List.setIfInBounds_toArray, List.set_cons_succ, List.set_cons_zero, Nat.zero_add, Nat.reduceAdd]
          go_simp
          simp only [yUpon]
          exact hK _ _ rfl hS
        · intro D uu w' K hD hF hl hS hK
          have f1 := (hF 1 (by kernel_rfl)).2
          simp only at f1
          simp only [puts, Act.put, List.setIfInBounds_toArray, List.set_cons_succ, List.set_cons_zero, Nat.zero_add, Nat.reduceAdd]
          simp only [f1]
          have x0 := (hS.blk 17 rfl).cell 0
          have x1 := (hS.blk 17 rfl).cell 1
          simp at x0 x1
          go_simp
          simp only [yUpon]
          exact hK _ _ rfl hS
        · intro D uu w' K hD hF hl hS hK
          have f2 := (hF 2 (by kernel_rfl)).2
          simp only at f2
          simp only [puts, Act.put, List.setIfInBounds_toArray, List.set_cons_succ, List.set_cons_zero, Nat.zero_add, Nat.reduceAdd]
          simp only [f2]
          go_simp
          simp only [yUpon]
          refine (HZ1.out _).mono ?_
          rintro e w1 ⟨rfl, hkk⟩
          exact hK _ _ rfl (hS.grow hkk)
        · intro D uu w' K hD hF hl hS hK
          have f0 := (hF 0 (by kernel_rfl)).2
          simp only at f0
          have f3 := (hF 3 (by kernel_rfl)).2
          simp only at f3
          simp only [puts, Act.put, List.setIfInBounds_toArray, List.set_cons_succ, List.set_cons_zero, Nat.zero_add, Nat.reduceAdd]
          simp only [f0, f3]
          go_simp
          simp only [yUpon]
          exact hK _ _ rfl hS
        · intro D uu w' K hD hF hl hS hK
          have f4 := (hF 4 (by kernel_rfl)).2
          simp only at f4
          simp only [puts, Act.put, List.setIfInBounds_toArray, List.set_cons_succ, List.set_cons_zero, Nat.zero_add, Nat.reduceAdd]
          simp only [f4]
          simp only [hD, cond_false] at hS
          have x0 := (hS.blk 12 rfl).cell 0
          simp at x0
          have z0 := (hS.blk 12 rfl).frozen 0
          have hput := hS.put (i := 12) rfl 0 (.int .i64 (s2 : Int))
          have e1 : (fset D 5 true) 5 = true := rfl
          go_simp
          simp only [yUpon]
          refine hK _ _ trivial ?_
          simp only [e1, cond_true]
          exact hput
      case fin =>
        clear HS
        intro D uu wg hall hS
        have f5 := (hall 5 (by simp)).1
        simp only [f5, cond_true] at hS
        have HS := Lib.hid hS
        clear hall hS f5 hadd
        simp only [puts, Act.put, List.setIfInBounds_toArray, List.set_cons_succ, List.set_cons_zero, Nat.zero_add, Nat.reduceAdd]
        obtain ⟨m1, hm1⟩ : ∃ m1, m + 1 = m1 := ⟨_, rfl⟩
        have hmw : IntKind.i64.wrap ((m : Int) + 1) = (m1 : Int) := by rw [IntWalk.i64_in _ (by omega)]; omega
        have hqw : IntKind.i64.wrap (q4 : Int) = (q4 : Int) := IntWalk.i64_in _ (by omega)
        have n0 := (HS.out.blk 11 rfl).cell 0
        simp at n0
        have s0 := (HS.out.blk 1 rfl).cell 0
        simp at s0
        have z0 := (HS.out.blk 11 rfl).frozen 0
        have hs2 := HS.out.put (i := 11) rfl 0 (.int .i64 (m1 : Int))
        have HS2 := Lib.hid hs2
        have ngs := HS.out.ne 11 1 rfl rfl (by decide)
        have ngs2 := ngs.symm
        have HM1 := Lib.hid hm1
        by_cases hst : q4 < 20 ∧ q4 < m1
        · have t1 : (q4 : Int) < 20 := by omega
          have t2 : (q4 : Int) < (m1 : Int) := by omega
          have d1 : decide ((q4 : Int) < 20) = true := decide_eq_true t1
          have d2 : decide ((q4 : Int) < (m1 : Int)) = true := decide_eq_true t2
          have z2 := (hs2.blk 2 rfl).frozen 0
          have r0 := (hs2.blk 2 rfl).cell 0
          simp at r0
          have ngr := HS.out.ne 11 2 rfl rfl (by decide)
          have ngr2 := ngr.symm
          have r0' := (HS.out.blk 2 rfl).cell 0
          simp at r0'
          have hs3 := hs2.put (i := 2) rfl 0 (.bool true)
          have HS3 := Lib.hid hs3
          clear hs2 hs3 hm1 hst
          gi_wp2
          exact ⟨_, ⟨m1, s2, rfl⟩, Sep.dropMid (r := blkR go 44 #[.int .i64 (q : Int), .int .i64 b, .int .i64 x]) _ _ HS3.out⟩
        · clear hs2 hm1
          by_cases h20 : q4 < 20
          · have t1 : (q4 : Int) < 20 := by omega
            have t2 : ¬ (q4 : Int) < (m1 : Int) := by omega
            have d1 : decide ((q4 : Int) < 20) = true := decide_eq_true t1
            have d2 : decide ((q4 : Int) < (m1 : Int)) = false := decide_eq_false t2
            have HST := Lib.hid hst
            clear hst
            gi_wp2
            have hm1 := HM1.out
            subst hm1
            exact ⟨_, ⟨rfl, by omega⟩, Sep.dropMid (r := blkR go 44 #[.int .i64 (q : Int), .int .i64 b, .int .i64 x]) _ _ HS2.out⟩
          · have t1 : ¬ (q4 : Int) < 20 := by omega
            have d1 : decide ((q4 : Int) < 20) = false := decide_eq_false t1
            have HST := Lib.hid hst
            clear hst
            gi_wp2
            have hm1 := HM1.out
            subst hm1
            exact ⟨_, ⟨rfl, by omega⟩, Sep.dropMid (r := blkR go 44 #[.int .i64 (q : Int), .int .i64 b, .int .i64 x]) _ _ HS2.out⟩
  case done =>
    rintro D0 L r2 W' ⟨rfl, _⟩ hs
    simp only [Exit.inBlock, Exit.then]
    refine wpFr_of_wp ?_
    rw [List.take_length] at hs
    obtain ⟨sz, hsz⟩ : ∃ sz, sizeF t Rch = sz := ⟨_, rfl⟩
    have hsi := HSI.out
    rw [hsz] at hs hsi
    have HSI2 := Lib.hid hsi
    have HS := Lib.hid hs
    clear hs hsz hsi
    go_upto_region 19 with fail
    refine wp_region_st3 (W := w) (S := []) (by kernel_rfl) (by kernel_rfl) (by kernel_rfl) (fun D uu => ([blkR gx 24 #[.int .u16 l, .int .u16 r, .int .u16 s], blkR gs 5 #[.int .u8 (q4 : Int)], blkR gr 4 #[bif D 13 then .bool true else .bool false], devR d t, rowR 3 (.slice OA os.length OC) (atsOf os), rowR 26 (.slice RA RL RC) (uw rs), blkR gk 30 #[.int .i64 (k.L : Int), .int .i64 (k.R : Int), .int .i64 (k.S : Int)], blkR gb 33 #[.int .i64 0, .int .i64 (u : Int), .slice RA RL RC], rowR 26 (.slice VA xs3.length VC) (uw ws), rowR 3 (.slice QA Rch.length QC) (iw Rch), blkR gw 34 #[.slice QA Rch.length QC], blkR gn 3 #[.int .i64 (((Rch.length) : Nat) : Int)], blkR gz 3 #[.int .i64 (((sz) : Nat) : Int)], blkR g1 28 #[.pointer (some ⟨d.b, 0, none⟩)], blkR g2 30 #[.int .i64 (k.L : Int), .int .i64 (k.R : Int), .int .i64 (k.S : Int)], blkR g3 33 #[.int .i64 0, .int .i64 (u : Int), .slice RA RL RC], blkR g4 31 #[.slice VA xs3.length VC]] ++ [objR D0 (.deferred (some [])), r2]))
      (fun j v => match j with
        | 0 => v = .int .i64 (Rch.length : Int)
        | 1 => v = .slice QA Rch.length QC
        | 2 => v = .int .i64 (Rch.length : Int)
        | 3 => v = .bool true
        | 4 => v = .bool true
        | 5 => v = .pointer (some ⟨d.b, 0, none⟩)
        | 6 => v = .agg #[.int .i64 (k.L : Int), .int .i64 (k.R : Int), .int .i64 (k.S : Int)]
        | 7 => v = .agg #[.int .i64 0, .int .i64 (u : Int), .slice RA RL RC]
        | 8 => v = .slice VA xs3.length VC
        | 9 => v = .int .i64 (sz : Int)
        | 10 => v = .int .i64 (sz : Int)
        | 11 => v = .bool true
        | 12 => v = .bool true
        | _ => True) ?start ?step ?fin
    case start => exact fun u => HS.out
    case step =>
      clear HS
      refine ⟨?_, ?_, ?_, ?_, ?_, ?_, ?_, ?_, ?_, ?_, ?_, ?_, ?_, ?_, trivial⟩
      · intro D uu w' K hD hF hl hS hK
        simp only [puts, Act.put, List.setIfInBounds_toArray, List.set_cons_succ, List.set_cons_zero, Nat.zero_add, Nat.reduceAdd]
        have x0 := (hS.blk 11 rfl).cell 0
        simp at x0
        go_simp
        simp only [yUpon]
        exact hK _ _ rfl hS
      · intro D uu w' K hD hF hl hS hK
        simp only [puts, Act.put, List.setIfInBounds_toArray, List.set_cons_succ, List.set_cons_zero, Nat.zero_add, Nat.reduceAdd]
        have x0 := (hS.blk 10 rfl).cell 0
        simp at x0
        go_simp
        simp only [yUpon]
        exact hK _ _ rfl hS
      · intro D uu w' K hD hF hl hS hK
        have f1 := (hF 1 (by kernel_rfl)).2
        simp only at f1
        simp only [puts, Act.put, List.setIfInBounds_toArray, List.set_cons_succ, List.set_cons_zero, Nat.zero_add, Nat.reduceAdd]
        simp only [f1]
        go_simp
        simp only [yUpon]
        exact hK _ _ rfl hS
      · intro D uu w' K hD hF hl hS hK
        have f0 := (hF 0 (by kernel_rfl)).2
        simp only at f0
        have f2 := (hF 2 (by kernel_rfl)).2
        simp only at f2
        simp only [puts, Act.put, List.setIfInBounds_toArray, List.set_cons_succ, List.set_cons_zero, Nat.zero_add, Nat.reduceAdd]
        simp only [f0, f2]
        go_simp
        simp only [yUpon]
        exact hK _ _ rfl hS
      · intro D uu w' K hD hF hl hS hK
        have f3 := (hF 3 (by kernel_rfl)).2
        simp only at f3
        simp only [puts, Act.put, List.setIfInBounds_toArray, List.set_cons_succ, List.set_cons_zero, Nat.zero_add, Nat.reduceAdd]
        simp only [f3]
        go_simp
        simp only [yUpon]
        exact hK _ _ rfl hS
      · intro D uu w' K hD hF hl hS hK
        have f4 := (hF 4 (by kernel_rfl)).2
        simp only at f4
        simp only [puts, Act.put, List.setIfInBounds_toArray, List.set_cons_succ, List.set_cons_zero, Nat.zero_add, Nat.reduceAdd]
        simp only [f4]
        go_simp
        simp only [yUpon]
        exact hK _ _ rfl hS
      · intro D uu w' K hD hF hl hS hK
        have f4 := (hF 4 (by kernel_rfl)).2
        simp only at f4
        simp only [puts, Act.put, List.setIfInBounds_toArray, List.set_cons_succ, List.set_cons_zero, Nat.zero_add, Nat.reduceAdd]
        simp only [f4]
        have x0 := (hS.blk 6 rfl).cell 0
        have x1 := (hS.blk 6 rfl).cell 1
        have x2 := (hS.blk 6 rfl).cell 2
        simp at x0 x1 x2
        go_simp
        simp only [yUpon]
        exact hK _ _ rfl hS
      · intro D uu w' K hD hF hl hS hK
        have f4 := (hF 4 (by kernel_rfl)).2
        simp only at f4
        simp only [puts, Act.put, List.setIfInBounds_toArray, List.set_cons_succ, List.set_cons_zero, Nat.zero_add, Nat.reduceAdd]
        simp only [f4]
        have x0 := (hS.blk 7 rfl).cell 0
        have x1 := (hS.blk 7 rfl).cell 1
        have x2 := (hS.blk 7 rfl).cell 2
        simp at x0 x1 x2
        go_simp
        simp only [yUpon]
        exact hK _ _ rfl hS
      · intro D uu w' K hD hF hl hS hK
        have f4 := (hF 4 (by kernel_rfl)).2
        simp only at f4
        simp only [puts, Act.put, List.setIfInBounds_toArray, List.set_cons_succ, List.set_cons_zero, Nat.zero_add, Nat.reduceAdd]
        simp only [f4]
        go_simp
        simp only [yUpon]
        exact hK _ _ rfl hS
      · intro D uu w' K hD hF hl hS hK
        have f4 := (hF 4 (by kernel_rfl)).2
        simp only at f4
        have f5 := (hF 5 (by kernel_rfl)).2
        simp only at f5
        have f6 := (hF 6 (by kernel_rfl)).2
        simp only at f6
        have f7 := (hF 7 (by kernel_rfl)).2
        simp only at f7
        have f8 := (hF 8 (by kernel_rfl)).2
        simp only at f8
        simp only [puts, Act.put, List.setIfInBounds_toArray, List.set_cons_succ, List.set_cons_zero, Nat.zero_add, Nat.reduceAdd]
        simp only [f4, f5, f6, f7, f8]
        go_simp
        simp only [yUpon]
        refine (HSI2.out _ _ (hS.dev 3 rfl) (rd_of_row (hS.row 8 rfl))).mono ?_
        rintro e w1 ⟨rfl, hkk⟩
        exact hK _ _ rfl (hS.grow hkk)
      · intro D uu w' K hD hF hl hS hK
        have f4 := (hF 4 (by kernel_rfl)).2
        simp only at f4
        simp only [puts, Act.put, List.setIfInBounds_toArray, List.set_cons_succ, List.set_cons_zero, Nat.zero_add, Nat.reduceAdd]
        simp only [f4]
        have x0 := (hS.blk 12 rfl).cell 0
        simp at x0
        go_simp
        simp only [yUpon]
        exact hK _ _ rfl hS
      · intro D uu w' K hD hF hl hS hK
        have f4 := (hF 4 (by kernel_rfl)).2
        simp only at f4
        have f9 := (hF 9 (by kernel_rfl)).2
        simp only at f9
        have f10 := (hF 10 (by kernel_rfl)).2
        simp only at f10
        simp only [puts, Act.put, List.setIfInBounds_toArray, List.set_cons_succ, List.set_cons_zero, Nat.zero_add, Nat.reduceAdd]
        simp only [f4, f9, f10]
        go_simp
        simp only [yUpon]
        exact hK _ _ rfl hS
      · intro D uu w' K hD hF hl hS hK
        have f4 := (hF 4 (by kernel_rfl)).2
        simp only at f4
        have f11 := (hF 11 (by kernel_rfl)).2
        simp only at f11
        simp only [puts, Act.put, List.setIfInBounds_toArray, List.set_cons_succ, List.set_cons_zero, Nat.zero_add, Nat.reduceAdd]
        simp only [f4, f11]
        go_simp
        simp only [yUpon]
        exact hK _ _ rfl hS
      · intro D uu w' K hD hF hl hS hK
        have f12 := (hF 12 (by kernel_rfl)).2
        simp only at f12
        simp only [puts, Act.put, List.setIfInBounds_toArray, List.set_cons_succ, List.set_cons_zero, Nat.zero_add, Nat.reduceAdd]
        simp only [f12]
        simp only [hD, cond_false] at hS
        have x0 := (hS.blk 2 rfl).cell 0
        simp at x0
        have z0 := (hS.blk 2 rfl).frozen 0
        have hput := hS.put (i := 2) rfl 0 (.bool true)
        have e1 : (fset D 13 true) 13 = true := rfl
        go_simp
        simp only [yUpon]
        refine hK _ _ trivial ?_
        simp only [e1, cond_true]
        exact hput
    case fin =>
      clear HS
      intro D uu wf hall hS
      have f13 := (hall 13 (by simp)).1
      simp only [f13, cond_true] at hS
      have HS := Lib.hid hS
      clear hall hS f13
      simp only [puts, Act.put, List.setIfInBounds_toArray, List.set_cons_succ, List.set_cons_zero, Nat.zero_add, Nat.reduceAdd]
      go_wp2
      have hp := HS.out.putObj (i := 17) rfl (.deferred none)
      have ld := loadVar_one (P := Try.prog) (ty := 4) (a := ⟨gr, 0, none⟩) (v := .bool true) (d := .bool) (by kernel_rfl) rfl (by rw [(hp.blk 2 rfl).cell 0]; rfl)
      exact leave_mark (HS.out.all 17 _ rfl) (results_c (fn := Try.f13) (p := 10) (ty := 4) (a1 := ⟨gr, 0, none⟩) rfl _ _ _ rfl ld) ⟨rfl, hp.take 0⟩
  case stop =>
    rintro D c L r2 W' ⟨rfl, m, sz, rfl⟩ hs
    simp only [Exit.inBlock, Exit.then]
    refine wpFr_of_wp ?_
    have HS := Lib.hid hs
    clear hs
    go_wp2
    have hp := HS.out.putObj (i := 17) rfl (.deferred none)
    have ld := loadVar_one (P := Try.prog) (ty := 4) (a := ⟨gr, 0, none⟩) (v := .bool true) (d := .bool) (by kernel_rfl) rfl (by rw [(hp.blk 2 rfl).cell 0]; rfl)
    exact leave_mark (HS.out.all 17 _ rfl) (results_c (fn := Try.f13) (p := 10) (ty := 4) (a1 := ⟨gr, 0, none⟩) rfl _ _ _ rfl ld) ⟨rfl, hp.take 0⟩

theorem ReachFrom.walk {v1 v2 v3 : Value} {w : World} (l r s : Int) (h : (lowest .u16 ≤ l ∧ l ≤ greatest .u16) ∧ (lowest .u16 ≤ r ∧ r ≤ greatest .u16) ∧ (lowest .u16 ≤ s ∧ s ≤ greatest .u16)) (hl1 : List HV) (hm1 : RdH w v1 hl1) (ho1 : ∀ x ∈ hl1, x.Ok) (hn1 : hl1.length ≤ maxLen) (xs2 : List Int) (hr2 : Rd w v2 (xs2.map (Value.int .u16))) (hb2 : ∀ x ∈ xs2, lowest .u16 ≤ x ∧ x ≤ greatest .u16) (hn2 : xs2.length ≤ maxLen) (xs3 : List Int) (hr3 : Rd w v3 (xs3.map (Value.int .u16))) (hb3 : ∀ x ∈ xs3, lowest .u16 ≤ x ∧ x ≤ greatest .u16) (hn3 : xs3.length ≤ maxLen) (a4 : Int) (a40 : lowest .u8 ≤ a4) (a41 : a4 ≤ greatest .u8) :
    Calls Try.prog 13 #[.agg #[.int .u16 l, .int .u16 r, .int .u16 s], v1, v2, v3, .int .u8 a4] w fun e w' => e = .returned (.bool true) ∧ Below w.heap.size w w' := by
  obtain ⟨⟨l0, l1⟩, ⟨r0, r1⟩, s0, s1⟩ := h
  have hb2' : ∀ x ∈ xs2, 0 ≤ x ∧ x ≤ 65535 := fun x hx => by have := hb2 x hx; simpa [lowest, greatest] using this
  have hb3' : ∀ x ∈ xs3, 0 ≤ x ∧ x ≤ 65535 := fun x hx => by have := hb3 x hx; simpa [lowest, greatest] using this
  simp [lowest, greatest] at l0 l1 r0 r1 s0 s1 a40 a41
  exact (ReachFrom.core l r s v1 hl1 v2 xs2 v3 xs3 a4 w l0 l1 r0 r1 s0 s1 hm1 ho1 hn1 hr2 hb2' hn2 hr3 hb3' hn3 a40 a41).mono fun e w' ⟨he, hk⟩ => ⟨he, hk.below⟩
end Go.Proofs.Ythdiehcmjknhiaa
