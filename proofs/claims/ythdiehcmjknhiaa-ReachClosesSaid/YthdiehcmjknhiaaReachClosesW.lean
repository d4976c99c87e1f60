/-
  ReachCloses: the walk.
-/
import Derived.Deep.CutRange
import Derived.Test.YthdiehcmjknhiaaAwk13
import Derived.Test.YthdiehcmjknhiaaRchL
import Derived.Test.YthdiehcmjknhiaaReachC
import Derived.Test.YthdiehcmjknhiaaIter
import Derived.Sort.CutIn
set_option linter.unusedSimpArgs false
set_option linter.unusedVariables false
set_option maxRecDepth 100000
namespace Go.Proofs.Ythdiehcmjknhiaa
open Go.RowKit Go.Shelf

attribute [local go_sem] Oper.semAt_some

theorem pickF_bounds {os : List Ob} {nm : List Int} (hn : ∀ x ∈ nm, 0 ≤ x ∧ x ≤ 65535) (ho : ∀ o ∈ os, o.at_ ≤ 20000) : ∀ x ∈ pickF os nm, 0 ≤ x ∧ x ≤ 20000 := by
  intro x hx
  obtain ⟨n, hnm, rfl⟩ := List.mem_map.1 hx
  have h1 := hn n hnm
  unfold pickAt
  split
  · omega
  · cases h : os[(n / 6).toNat % os.length]? with
    | none => simp
    | some o =>
      have := ho o (List.mem_of_getElem? h)
      simp
      omega
theorem rd_of_row {w : World} {e : TypeId} {v : Value} {xs : List Value} (h : w.ownsRow 0 e 1 v xs.length xs) : Rd w v xs := by
  rcases h.2 with ⟨hv, h0⟩ | ⟨g, cap, cur, hv, _⟩
  · exact ⟨none, 0, by rw [hv, h0], fun hp => by omega⟩
  · subst hv
    refine ⟨some ⟨g, 0, none⟩, cap, rfl, fun hp => ⟨g, 0, rfl, fun j u hu => ?_⟩⟩
    have := h.cells (g := g) rfl j u hu
    rwa [addrZ, ← Nat.zero_add j] at this
/-- What has been counted behind m rounds. -/
def seenC (L : List Int) (m : Nat) : Int → Option Value := fun z => if z ∈ L.take m then some (.int .i64 1) else none
theorem u_counts : Try.prog.underlying 71 = some (.map 3 3) := by kernel_rfl
theorem seenC_step {L : List Int} {m : Nat} {x : Int} (hn : L.Nodup) (hx : L[m]? = some x) : seenC L m x = none ∧ seenC L (m + 1) = mset (seenC L m) x (.int .i64 1) := by
  have h1 : L.take (m + 1) = L.take m ++ [x] := by rw [List.take_add_one, hx]; rfl
  have h2 : x ∉ L.take m := fun h => by
    have h3 := hn.sublist (List.take_sublist (m + 1) L)
    rw [h1, List.nodup_append] at h3
    exact h3.2.2 x h x (by simp) rfl
  refine ⟨by simp [seenC, h2], ?_⟩
  funext z
  unfold seenC mset
  rw [h1]
  by_cases hz : z = x
  · subst hz; simp
  · simp [hz]
/-- The first box that From's function holds. -/
def capG (v : Value) : Nat := match v with | .func _ _ cs => (match (cs[2]? : Option Value) with | some (Value.pointer (some a)) => a.block | _ => 0) | _ => 0
theorem lit_of (T : Array Value) (n : Nat) (h : T.size = n) : T = ((List.range n).map fun i => T.getD i undef).toArray := by
  apply Array.ext
  · simp [h]
  · intro i h1 h2
    simp [h1]
theorem closes_lit (d : DevI) (gr gk gb gm rr : Nat) {a : Act} {Ds : List Nat} (hn : a.tmps.size = 90) (h8 : a.tmps.getD 8 undef = .pointer (some ⟨gr, 0, none⟩)) (h9 : a.tmps.getD 9 undef = .pointer (some ⟨d.b, 0, none⟩)) (h10 : a.tmps.getD 10 undef = .pointer (some ⟨gk, 0, none⟩)) (h11 : a.tmps.getD 11 undef = .pointer (some ⟨gb, 0, none⟩)) (h13 : a.tmps.getD 13 undef = .pointer (some ⟨gm, 0, none⟩)) (h66 : a.tmps.getD 66 undef = .pointer (some ⟨rr, 0, none⟩)) (hd : a.defers = Ds.map markOf) : ∃ z : Nat → Value, a = { tmps := #[z 0, z 1, z 2, z 3, z 4, z 5, z 6, z 7, .pointer (some ⟨gr, 0, none⟩), .pointer (some ⟨d.b, 0, none⟩), .pointer (some ⟨gk, 0, none⟩), .pointer (some ⟨gb, 0, none⟩), z 12, .pointer (some ⟨gm, 0, none⟩), z 14, z 15, z 16, z 17, z 18, z 19, z 20, z 21, z 22, z 23, z 24, z 25, z 26, z 27, z 28, z 29, z 30, z 31, z 32, z 33, z 34, z 35, z 36, z 37, z 38, z 39, z 40, z 41, z 42, z 43, z 44, z 45, z 46, z 47, z 48, z 49, z 50, z 51, z 52, z 53, z 54, z 55, z 56, z 57, z 58, z 59, z 60, z 61, z 62, z 63, z 64, z 65, .pointer (some ⟨rr, 0, none⟩), z 67, z 68, z 69, z 70, z 71, z 72, z 73, z 74, z 75, z 76, z 77, z 78, z 79, z 80, z 81, z 82, z 83, z 84, z 85, z 86, z 87, z 88, z 89], defers := Ds.map markOf } := by
  obtain ⟨T, D⟩ := a
  simp only at hd hn h8 h9 h10 h11 h13 h66
  subst hd
  have e := lit_of T 90 hn
  refine ⟨fun i => T.getD i undef, ?_⟩
  congr 1
  rw [← h8, ← h9, ← h10, ← h11, ← h13, ← h66]
  exact e
/-- Ahead of a round of the loop over the map. -/
def ClosesL (d : DevI) (gr gk gb gm rr : Nat) (w0 : World) (PP : (Int → Bool) → Nat → List Res) (n : Nat) (a : Act) (w : World) : Prop :=
  ∃ (left : Int → Bool) (Ds : List Nat) (z : Nat → Value), a = { tmps := #[z 0, z 1, z 2, z 3, z 4, z 5, z 6, z 7, .pointer (some ⟨gr, 0, none⟩), .pointer (some ⟨d.b, 0, none⟩), .pointer (some ⟨gk, 0, none⟩), .pointer (some ⟨gb, 0, none⟩), z 12, .pointer (some ⟨gm, 0, none⟩), z 14, z 15, z 16, z 17, z 18, z 19, z 20, z 21, z 22, z 23, z 24, z 25, z 26, z 27, z 28, z 29, z 30, z 31, z 32, z 33, z 34, z 35, z 36, z 37, z 38, z 39, z 40, z 41, z 42, z 43, z 44, z 45, z 46, z 47, z 48, z 49, z 50, z 51, z 52, z 53, z 54, z 55, z 56, z 57, z 58, z 59, z 60, z 61, z 62, z 63, z 64, z 65, .pointer (some ⟨rr, 0, none⟩), z 67, z 68, z 69, z 70, z 71, z 72, z 73, z 74, z 75, z 76, z 77, z 78, z 79, z 80, z 81, z 82, z 83, z 84, z 85, z 86, z 87, z 88, z 89], defers := Ds.map markOf } ∧ Sep w0 [] (PP left n ++ Ds.map dR) w
theorem ClosesL.intro {d : DevI} {gr gk gb gm rr : Nat} {w0 : World} {PP : (Int → Bool) → Nat → List Res} {n : Nat} {a : Act} {w : World} (left : Int → Bool) (Ds : List Nat) (h : ∃ z : Nat → Value, a = { tmps := #[z 0, z 1, z 2, z 3, z 4, z 5, z 6, z 7, .pointer (some ⟨gr, 0, none⟩), .pointer (some ⟨d.b, 0, none⟩), .pointer (some ⟨gk, 0, none⟩), .pointer (some ⟨gb, 0, none⟩), z 12, .pointer (some ⟨gm, 0, none⟩), z 14, z 15, z 16, z 17, z 18, z 19, z 20, z 21, z 22, z 23, z 24, z 25, z 26, z 27, z 28, z 29, z 30, z 31, z 32, z 33, z 34, z 35, z 36, z 37, z 38, z 39, z 40, z 41, z 42, z 43, z 44, z 45, z 46, z 47, z 48, z 49, z 50, z 51, z 52, z 53, z 54, z 55, z 56, z 57, z 58, z 59, z 60, z 61, z 62, z 63, z 64, z 65, .pointer (some ⟨rr, 0, none⟩), z 67, z 68, z 69, z 70, z 71, z 72, z 73, z 74, z 75, z 76, z 77, z 78, z 79, z 80, z 81, z 82, z 83, z 84, z 85, z 86, z 87, z 88, z 89], defers := Ds.map markOf }) (hs : Sep w0 [] (PP left n ++ Ds.map dR) w) : ClosesL d gr gk gb gm rr w0 PP n a w := by
  obtain ⟨z, hz⟩ := h
  exact ⟨left, Ds, z, hz, hs⟩
set_option maxRecDepth 100000 in
set_option maxHeartbeats 8000000 in
theorem ReachCloses.core (l r s : Int) (v1 : Value) (hl1 : List HV) (v2 : Value) (xs2 : List Int) (v3 : Value) (xs3 : List Int) (w : World) (l0 : 0 ≤ l) (l1 : l ≤ 65535) (r0 : 0 ≤ r) (r1 : r ≤ 65535) (s0 : 0 ≤ s) (s1 : s ≤ 65535) (hm1 : RdH w v1 hl1) (ho1 : ∀ x ∈ hl1, x.Ok) (hn1 : hl1.length ≤ maxLen) (hr2 : Rd w v2 (xs2.map (Value.int .u16))) (hb2 : ∀ x ∈ xs2, 0 ≤ x ∧ x ≤ 65535) (hn2 : xs2.length ≤ maxLen) (hr3 : Rd w v3 (xs3.map (Value.int .u16))) (hb3 : ∀ x ∈ xs3, 0 ≤ x ∧ x ≤ 65535) (hn3 : xs3.length ≤ maxLen) :
    Calls Try.prog 11 #[.agg #[.int .u16 l, .int .u16 r, .int .u16 s], v1, v2, v3] w fun e w' => e = .returned (.bool true) ∧ Keep w.heap.size [] w w' := by
  simp only [maxLen] at hn1 hn2 hn3
  have HS := Lib.hid (((Sep.start w []).new 24 #[.int .u16 l, .int .u16 r, .int .u16 s]).new 4 #[.bool false])
  simp only [World.size_alloc] at HS
  have HRD3 := Lib.hid hr3
  obtain ⟨NA3, NC3, hv3, _⟩ := hr3.cells
  subst hv3
  have HB3 := Lib.hid hb3
  obtain ⟨hk, hkL, hkR, hkS⟩ := kOf_ok (l := l) (r := r) (s := s) l0 r0 s0
  have hla := fun w hm hml hr hnl => linked_any l r s (0) v1 v2 hl1 xs2 w l0 l1 r0 r1 s0 s1 hm ho1 hml hr hb2 hnl (by decide) (by decide)
  have hpl := placed_length ((kOf l r s).from_ 0) (kOf l r s).S hl1 0
  generalize kOf l r s = k at *
  obtain ⟨os, hos⟩ : ∃ os, placed (k.from_ 0) k.S hl1 0 = os := ⟨_, rfl⟩
  obtain ⟨u, hu⟩ : ∃ u, usedOf k.S hl1 0 = u := ⟨_, rfl⟩
  simp only [hos, hu] at hla hpl
  have HLA := Lib.hid hla
  have HK := Lib.hid hk
  have HM := Lib.hid hm1
  have HRD := Lib.hid hr2
  have hS8 : 8 ≤ k.S := hk.s0
  have hw2 : k.words ≤ 10000 := (Kfg.words_le hk).2
  have hw1 : k.act + 2 + k.R ≤ k.words := (Kfg.words_le hk).1
  obtain ⟨HA, HC, hv1, hvv⟩ := hm1
  subst hv1
  obtain ⟨NA, NC, hv2, hvv2⟩ := hr2.cells
  subst hv2
  clear hla hk hos hu hvv hvv2 hr2
  clear hr3 hb3
  refine Calls.mono (R := fun e w' => e = .returned (.bool true) ∧ Sep w [] [] w') ?_ fun e w' h => ⟨h.1, h.2.keep⟩
  refine calls_of_wpFr Try.func11 rfl ?_
  simp only [Try.ntmps11, List.size_toArray, List.length_cons, List.length_nil, Nat.reduceAdd, Nat.reduceSub, Array.replicate_succ,
     Array.replicate_zero, List.push_toArray, List.append_toArray, List.nil_append, List.cons_append]
  refine wpFr_seq (wpFr_of_wp ?_)
  go_wp2
  generalize (w.alloc _).alloc _ = w2 at *
  generalize w.heap.size = gx at *
  generalize gx + 1 = gr at *
  refine wpFr_seq (wpFr_of_wp ?_)
  go_wp2_with fail
  refine (awake13_any _).mono ?_
  rintro e w1 ⟨rfl, hk⟩
  replace HS := Lib.hid (HS.out.grow hk)
  clear hk
  go_wp2
  refine wpFr_seq (wpFr_of_wp ?_)
  by_cases hb1 : 25 < hl1.length
  · have hbI : (25 : Int) < hl1.length := by omega
    have r0 := (HS.out.blk 1 rfl).cell 0
    simp at r0
    have z2 := (HS.out.blk 1 rfl).frozen 0
    have hs2 := HS.out.put (i := 1) rfl 0 (.bool true)
    have HS2 := Lib.hid hs2
    clear hs2
    go_wp2
    have ld := loadVar_one (P := Try.prog) (ty := 4) (a := ⟨gr, 0, none⟩) (v := .bool true) (d := .bool) (by kernel_rfl) rfl (by rw [(HS2.out.blk 1 rfl).cell 0]; rfl)
    exact leave_none (results_c (fn := Try.f11) (p := 8) (ty := 4) (a1 := ⟨gr, 0, none⟩) rfl _ _ _ rfl ld) ⟨rfl, HS2.out.take 0⟩
  have hx2 : ((25 : Int) < hl1.length) = False := by rw [eq_iff_iff, iff_false]; omega
  have hx3 : (25 < hl1.length) = False := by rw [eq_iff_iff, iff_false]; omega
  by_cases hb4 : 60 < xs2.length
  · have hbI : (60 : Int) < xs2.length := by omega
    have r0 := (HS.out.blk 1 rfl).cell 0
    simp at r0
    have z2 := (HS.out.blk 1 rfl).frozen 0
    have hs2 := HS.out.put (i := 1) rfl 0 (.bool true)
    have HS2 := Lib.hid hs2
    clear hs2
    go_wp2
    have ld := loadVar_one (P := Try.prog) (ty := 4) (a := ⟨gr, 0, none⟩) (v := .bool true) (d := .bool) (by kernel_rfl) rfl (by rw [(HS2.out.blk 1 rfl).cell 0]; rfl)
    exact leave_none (results_c (fn := Try.f11) (p := 8) (ty := 4) (a1 := ⟨gr, 0, none⟩) rfl _ _ _ rfl ld) ⟨rfl, HS2.out.take 0⟩
  have hx4 : ((60 : Int) < xs2.length) = False := by rw [eq_iff_iff, iff_false]; omega
  have hx5 : (60 < xs2.length) = False := by rw [eq_iff_iff, iff_false]; omega
  by_cases hb5 : 10 < xs3.length
  · have hbI : (10 : Int) < xs3.length := by omega
    have r0 := (HS.out.blk 1 rfl).cell 0
    simp at r0
    have z2 := (HS.out.blk 1 rfl).frozen 0
    have hs2 := HS.out.put (i := 1) rfl 0 (.bool true)
    have HS2 := Lib.hid hs2
    clear hs2
    go_wp2
    have ld := loadVar_one (P := Try.prog) (ty := 4) (a := ⟨gr, 0, none⟩) (v := .bool true) (d := .bool) (by kernel_rfl) rfl (by rw [(HS2.out.blk 1 rfl).cell 0]; rfl)
    exact leave_none (results_c (fn := Try.f11) (p := 8) (ty := 4) (a1 := ⟨gr, 0, none⟩) rfl _ _ _ rfl ld) ⟨rfl, HS2.out.take 0⟩
  have hx6 : ((10 : Int) < xs3.length) = False := by rw [eq_iff_iff, iff_false]; omega
  have hx7 : (10 < xs3.length) = False := by rw [eq_iff_iff, iff_false]; omega
  go_wp2
  clear hx2 hx3 hx4 hx5 hx6 hx7
  refine wpFr_seq (wpFr_of_wp ?_)
  have c0 := (HS.out.blk 0 rfl).cell 0
  simp at c0
  have c1 := (HS.out.blk 0 rfl).cell 1
  simp at c1
  have c2 := (HS.out.blk 0 rfl).cell 2
  simp at c2
  go_wp2_with fail
  refine (HLA.out _ (HM.out.keep HS.out.keep) (by omega) (HRD.out.keep HS.out.keep) (by omega)).mono ?_
  rintro e w3 ⟨d, t, rv, ov, rfl, hf, hS⟩
  obtain ⟨OA, OC, hov⟩ := rowR_val (hS.row 1 rfl)
  obtain ⟨RA, RC, hrv⟩ := rowR_val (hS.row 2 rfl)
  rw [atsOf_length] at hov
  obtain ⟨rs, hrs⟩ : ∃ rs, rootsOf t k k.R = rs := ⟨_, rfl⟩
  rw [hrs] at hrv hS
  obtain ⟨RL, hRL⟩ : ∃ RL, (uw rs).length = RL := ⟨_, rfl⟩
  rw [hRL] at hrv
  subst hov hrv
  have hadds := HS.out.adds hS
  replace HS := Lib.hid hadds
  have HL := Lib.hid hf
  simp only [Kfg.cells, rbC]
  clear hS hadds hf hrs hRL c0 c1 c2 HLA HM HRD
  go_wp2
  replace HS := Lib.hid ((HS.out.new 30 #[.int .i64 (k.L : Int), .int .i64 (k.R : Int), .int .i64 (k.S : Int)]).new 33 #[.int .i64 0, .int .i64 (u : Int), .slice RA RL RC])
  simp only [World.size_alloc] at HS
  generalize (w3.alloc _).alloc _ = w4 at *
  generalize w3.heap.size = gk at *
  generalize gk + 1 = gb at *
  refine wpFr_seq (wpFr_of_wp ?_)
  go_wp2
  have hus : u ≤ k.S := HL.out.fill.le
  have hus97 : u ≤ 97 := by omega
  have hosl : os.length ≤ 1000 := by omega
  have hat : ∀ o ∈ os, o.at_ ≤ 20000 := fun o ho => by have := HL.out.fill.in_ HK.out (by decide) ho; omega
  have hpb := pickF_bounds HB3.out hat
  have hpk := fun w h1 h2 => pick_any (.slice OA os.length OC) (.slice NA3 xs3.length NC3) os xs3 w h1 h2 HB3.out (by omega) hosl hat
  have hpl' := pickF_length os xs3
  obtain ⟨ws, hws⟩ : ∃ ws, pickF os xs3 = ws := ⟨_, rfl⟩
  rw [hws] at hpb hpk hpl'
  have hpb2 : ∀ x ∈ ws, 0 ≤ x ∧ x ≤ 18446744073709551615 := fun x hx => by have := hpb x hx; omega
  have hfs := fun gb gk gd gw wv => from_seq d t k 0 u gb gk gd gw RA RL RC wv ws HK.out (by decide) hus HL.out.rng hpb2 (by omega) (HL.out.small HK.out)
  have hfine := Fine.fo (G := isOb t k 0 u) (nm := nmsOf t) (ws := ws) u
  have hlen := Fine.le _ hfine
  have hcl : ∀ x y, x ∈ reachF (isOb t k 0 u) (nmsOf t) ws u → y ∈ nmsOf t x → y ∈ reachF (isOb t k 0 u) (nmsOf t) ws u := fun x y hx hy => HL.out.reach_names HK.out hx hy
  change (reachF (isOb t k 0 u) (nmsOf t) ws u).length ≤ u at hlen
  change Fine (isOb t k 0 u) (reachF (isOb t k 0 u) (nmsOf t) ws u) at hfine
  obtain ⟨Rch, hRc⟩ : ∃ Rch, reachF (isOb t k 0 u) (nmsOf t) ws u = Rch := ⟨_, rfl⟩
  rw [hRc] at hlen hfine
  simp only [hRc] at hfs hcl
  have HPK := Lib.hid hpk
  have HFS := Lib.hid hfs
  have HFN := Lib.hid hfine
  have HCL := Lib.hid hcl
  have HPL := Lib.hid hpl'
  clear hat hpb hpk hpl' hws hpb2 hfs hfine hcl hRc
  refine wpFr_seq (wpFr_of_wp ?_)
  have hmm := @run_makeMap Try.prog
  go_wp2
  clear hmm
  replace HS := Lib.hid ((HS.out.add ((Keep.refl _ _ _).alloc (Nat.le_refl _) _) (r := mapR w4.heap.size (fun _ => none)) (IMap.new w4 .i64) (by simp [mapR])).new 71 #[.map (some w4.heap.size)])
  simp only [World.size_alloc] at HS
  generalize (w4.alloc _).alloc _ = w5 at *
  generalize w4.heap.size = mr at *
  generalize mr + 1 = gm at *
  refine wpFr_seq (wpFr_seq (wpFr_of_wp ?_))
  refine wp_region_st3 (W := w) (S := []) (by kernel_rfl) (by kernel_rfl) (by kernel_rfl) (fun D uu => [blkR gx 24 #[.int .u16 l, .int .u16 r, .int .u16 s], blkR gr 4 #[.bool false], devR d t, rowR 3 (.slice OA os.length OC) (atsOf os), rowR 26 (.slice RA RL RC) (uw rs), blkR gk 30 #[.int .i64 (k.L : Int), .int .i64 (k.R : Int), .int .i64 (k.S : Int)], blkR gb 33 #[.int .i64 0, .int .i64 (u : Int), .slice RA RL RC], mapR mr (fun _ => none), blkR gm 71 #[.map (some mr)]] ++ [bif D 5 then rowR 26 (uu 5) (uw ws) else noR] ++ (bif D 6 then [blkR (capG (uu 6)) 28 #[.pointer (some ⟨d.b, 0, none⟩)], blkR (capG (uu 6) + 1) 30 #[.int .i64 (k.L : Int), .int .i64 (k.R : Int), .int .i64 (k.S : Int)], blkR (capG (uu 6) + 2) 33 #[.int .i64 0, .int .i64 (u : Int), .slice RA RL RC], blkR (capG (uu 6) + 3) 31 #[uu 5]] else []))
    (fun j v => match j with
      | 0 => v = .pointer (some ⟨d.b, 0, none⟩)
      | 1 => v = .agg #[.int .i64 (k.L : Int), .int .i64 (k.R : Int), .int .i64 (k.S : Int)]
      | 2 => v = .agg #[.int .i64 0, .int .i64 (u : Int), .slice RA RL RC]
      | 3 => v = .slice OA os.length OC
      | 4 => v = .slice NA3 xs3.length NC3
      | 5 => ∃ A c, v = .slice A xs3.length c
      | 6 => ∃ g1, v = .func (.func 67) #[] #[.pointer (some ⟨g1 + 1 + 1, 0, none⟩), .pointer (some ⟨g1 + 1, 0, none⟩), .pointer (some ⟨g1, 0, none⟩), .pointer (some ⟨g1 + 1 + 1 + 1, 0, none⟩)]
      | _ => True) ?start ?step ?fin
  case start => exact fun _ => HS.out.add (Keep.refl _ _ _) (r := noR) trivial (by simp [noR])
  case step =>
    clear HS
    refine ⟨?_, ?_, ?_, ?_, ?_, ?_, ?_, trivial⟩
    · intro D uu w' K hD hF hl hS hK
      simp only [puts, Act.put, List.setIfInBounds_toArray, List.set_cons_succ, List.set_cons_zero, Nat.zero_add, Nat.reduceAdd]
      go_simp
      simp only [yUpon]
      exact hK _ _ rfl hS
    · intro D uu w' K hD hF hl hS hK
      simp only [puts, Act.put, List.setIfInBounds_toArray, List.set_cons_succ, List.set_cons_zero, Nat.zero_add, Nat.reduceAdd]
      have h6 := hl 6 (by kernel_rfl)
      have hS1 := hS
      simp only [h6, cond_false] at hS1
      have x0 := (hS1.blk 5 rfl).cell 0
      have x1 := (hS1.blk 5 rfl).cell 1
      have x2 := (hS1.blk 5 rfl).cell 2
      simp at x0 x1 x2
      go_simp
      simp only [yUpon]
      exact hK _ _ rfl hS
    · intro D uu w' K hD hF hl hS hK
      simp only [puts, Act.put, List.setIfInBounds_toArray, List.set_cons_succ, List.set_cons_zero, Nat.zero_add, Nat.reduceAdd]
      have h6 := hl 6 (by kernel_rfl)
      have hS1 := hS
      simp only [h6, cond_false] at hS1
      have x0 := (hS1.blk 6 rfl).cell 0
      have x1 := (hS1.blk 6 rfl).cell 1
      have x2 := (hS1.blk 6 rfl).cell 2
      simp at x0 x1 x2
      go_simp
      simp only [yUpon]
      exact hK _ _ rfl hS
    · intro D uu w' K hD hF hl hS hK
      simp only [puts, Act.put, List.setIfInBounds_toArray, List.set_cons_succ, List.set_cons_zero, Nat.zero_add, Nat.reduceAdd]
      go_simp
      simp only [yUpon]
      exact hK _ _ rfl hS
    · intro D uu w' K hD hF hl hS hK
      simp only [puts, Act.put, List.setIfInBounds_toArray, List.set_cons_succ, List.set_cons_zero, Nat.zero_add, Nat.reduceAdd]
      go_simp
      simp only [yUpon]
      exact hK _ _ rfl hS
    · intro D uu w' K hD hF hl hS hK
      have f3 := (hF 3 (by kernel_rfl)).2
      simp only at f3
      have f4 := (hF 4 (by kernel_rfl)).2
      simp only at f4
      simp only [puts, Act.put, List.setIfInBounds_toArray, List.set_cons_succ, List.set_cons_zero, Nat.zero_add, Nat.reduceAdd]
      simp only [f3, f4]
      have h6 := hl 6 (by kernel_rfl)
      simp only [hD, h6, cond_false] at hS
      have e5 : (fset D 5 true) 5 = true := rfl
      have e6 : (fset D 5 true) 6 = false := h6
      go_simp
      simp only [yUpon]
      refine (HPK.out _ (RdP.of_row (hS.row 3 rfl)) (HRD3.out.keep hS.keep)).mono ?_
      rintro e w1 ⟨wv, rfl, hS2⟩
      obtain ⟨VA, VC, hvv⟩ := rowR_val (hS2.row 0 rfl)
      rw [uw_length, HPL.out] at hvv
      subst hvv
      refine hK _ _ ⟨VA, VC, rfl⟩ ?_
      simp only [e5, e6, cond_true, cond_false]
      exact (hS.take 9).adds hS2
    · intro D uu w' K hD hF hl hS hK
      have f0 := (hF 0 (by kernel_rfl)).2
      simp only at f0
      have f1 := (hF 1 (by kernel_rfl)).2
      simp only at f1
      have f2 := (hF 2 (by kernel_rfl)).2
      simp only at f2
      simp only [puts, Act.put, List.setIfInBounds_toArray, List.set_cons_succ, List.set_cons_zero, Nat.zero_add, Nat.reduceAdd]
      simp only [f0, f1, f2]
      obtain ⟨d5, VA, VC, hA⟩ := hF 5 (by kernel_rfl)
      simp only [hD, d5, cond_false, cond_true] at hS
      have e5 : (fset D 6 true) 5 = true := d5
      have e6 : (fset D 6 true) 6 = true := rfl
      have e7 : ∀ v, (fset uu 6 v) 5 = .slice VA xs3.length VC := fun v => hA
      simp only [hA] at hS ⊢
      go_simp
      simp only [yUpon]
      refine (rfrom_any _ _ _ _ _ _ _ _ _ ⟨_, rfl⟩ ⟨_, _, _, rfl, rfl, rfl⟩ ⟨_, _, _, _, _, rfl, rfl, rfl⟩ ⟨_, _, _, rfl⟩).mono ?_
      rintro e w1 ⟨rfl, rfl⟩
      refine hK _ _ ⟨_, rfl⟩ ?_
      simp only [e5, e6, e7, cond_true]
      have hs2 := ((((hS.take 10).new 28 #[.pointer (some ⟨d.b, 0, none⟩)]).new 30 #[.int .i64 (k.L : Int), .int .i64 (k.R : Int), .int .i64 (k.S : Int)]).new 33 #[.int .i64 0, .int .i64 (u : Int), .slice RA RL RC]).new 31 #[.slice VA xs3.length VC]
      simp only [World.size_alloc] at hs2
      exact hs2
  case fin =>
    clear HS
    intro D uu w9 hall hS
    have f5 := (hall 5 (by simp)).1
    have f6 := (hall 6 (by simp)).1
    obtain ⟨VA, VC, v5⟩ := (hall 5 (by simp)).2
    obtain ⟨g1, v6⟩ := (hall 6 (by simp)).2
    simp only [f5, f6, v5, v6, cond_true] at hS
    have HS := Lib.hid hS
    clear hall hS f5 f6
    simp only [puts, Act.put, List.setIfInBounds_toArray, List.set_cons_succ, List.set_cons_zero, Nat.zero_add, Nat.reduceAdd]
    simp only [v6]
    have hg : capG (.func (.func 67) #[] #[.pointer (some ⟨g1 + 1 + 1, 0, none⟩), .pointer (some ⟨g1 + 1, 0, none⟩), .pointer (some ⟨g1, 0, none⟩), .pointer (some ⟨g1 + 1 + 1 + 1, 0, none⟩)]) = g1 := rfl
    rw [hg] at HS
    clear hg v5 v6
    generalize hg2 : g1 + 1 = g2 at *
    generalize hg3 : g2 + 1 = g3 at *
    generalize hg4 : g3 + 1 = g4 at *
    replace HS : Hid (Sep w [] ([blkR gx 24 #[.int .u16 l, .int .u16 r, .int .u16 s], blkR gr 4 #[.bool false], devR d t, rowR 3 (.slice OA os.length OC) (atsOf os), rowR 26 (.slice RA RL RC) (uw rs), blkR gk 30 #[.int .i64 (k.L : Int), .int .i64 (k.R : Int), .int .i64 (k.S : Int)], blkR gb 33 #[.int .i64 0, .int .i64 (u : Int), .slice RA RL RC], mapR mr (seenC Rch (0)), blkR gm 71 #[.map (some mr)]] ++ [rowR 26 (.slice VA xs3.length VC) (uw ws), blkR g1 28 #[.pointer (some ⟨d.b, 0, none⟩)], blkR g2 30 #[.int .i64 (k.L : Int), .int .i64 (k.R : Int), .int .i64 (k.S : Int)], blkR g3 33 #[.int .i64 0, .int .i64 (u : Int), .slice RA RL RC], blkR g4 31 #[.slice VA xs3.length VC]]) w9) := by
      have h := HS.out
      rw [show g1 + 2 = g3 by omega, show g1 + 3 = g4 by omega] at h
      refine Lib.hid ?_
      have hm0 : seenC Rch 0 = fun _ => none := by
        funext z
        simp [seenC]
      rw [hm0]
      exact h
    clear hg2 hg3 hg4
    go_wp2
    refine wpFr_block ?_
    refine wpFr_rangeX HS.out rfl (enters_of Try.func67 (by kernel_rfl) rfl) (HFS.out g3 g2 g1 g4 (.slice VA xs3.length VC)) (fun _ => rfl)
      (fun m L => L = ([blkR gx 24 #[.int .u16 l, .int .u16 r, .int .u16 s], blkR gr 4 #[.bool false], devR d t, rowR 3 (.slice OA os.length OC) (atsOf os), rowR 26 (.slice RA RL RC) (uw rs), blkR gk 30 #[.int .i64 (k.L : Int), .int .i64 (k.R : Int), .int .i64 (k.S : Int)], blkR gb 33 #[.int .i64 0, .int .i64 (u : Int), .slice RA RL RC], mapR mr (seenC Rch (m)), blkR gm 71 #[.map (some mr)]] ++ [rowR 26 (.slice VA xs3.length VC) (uw ws), blkR g1 28 #[.pointer (some ⟨d.b, 0, none⟩)], blkR g2 30 #[.int .i64 (k.L : Int), .int .i64 (k.R : Int), .int .i64 (k.S : Int)], blkR g3 33 #[.int .i64 0, .int .i64 (u : Int), .slice RA RL RC], blkR g4 31 #[.slice VA xs3.length VC]]) ∧ m ≤ Rch.length) (fun _ _ => False) (fun _ _ => False) ⟨rfl, by omega⟩ ?rr (fun fn hfn => .inr (fun ch L h => h)) ?round ?done (fun _ _ _ _ _ h _ => h.elim) (fun _ _ _ _ _ h _ => h.elim)
    case rr =>
      rintro m L X W' hm ⟨rfl, _⟩ hs
      exact ⟨hs.blk 12 rfl, hs.blk 11 rfl, hs.blk 10 rfl, hs.blk 13 rfl, rd_of_row (hs.row 9 rfl), hs.dev 2 rfl⟩
    case round =>
      rintro l9 m L X r1 r2 W' hm ⟨rfl, hmN⟩ hs
      obtain ⟨x, hx⟩ : ∃ x, Rch[m]? = some x := ⟨_, List.getElem?_eq_getElem hm⟩
      have hgd : Rch.getD m 0 = x := by rw [List.getD_eq_getElem?_getD, hx]; rfl
      rw [hgd]
      obtain ⟨hno, hst⟩ := seenC_step HFN.out.1 hx
      obtain ⟨q, hq⟩ : ∃ q, (headOf (t.nw x.toNat)).1 = q := ⟨_, rfl⟩
      obtain ⟨b, hb⟩ : ∃ b, (headOf (t.nw x.toNat)).2.1 = b := ⟨_, rfl⟩
      have hob : obOf t x = [.int .i64 q, .int .i64 b, .int .i64 x] := by unfold obOf; rw [hq, hb]
      rw [hob]
      have HX := Lib.hid hx
      have HST := Lib.hid hst
      have HNO := Lib.hid hno
      clear hgd HS hx hq hb hob hst hno HFS HPK
      gi_wp2
      refine ⟨([blkR gx 24 #[.int .u16 l, .int .u16 r, .int .u16 s], blkR gr 4 #[.bool false], devR d t, rowR 3 (.slice OA os.length OC) (atsOf os), rowR 26 (.slice RA RL RC) (uw rs), blkR gk 30 #[.int .i64 (k.L : Int), .int .i64 (k.R : Int), .int .i64 (k.S : Int)], blkR gb 33 #[.int .i64 0, .int .i64 (u : Int), .slice RA RL RC], mapR mr (seenC Rch (m)), blkR gm 71 #[.map (some mr)]] ++ [rowR 26 (.slice VA xs3.length VC) (uw ws), blkR g1 28 #[.pointer (some ⟨d.b, 0, none⟩)], blkR g2 30 #[.int .i64 (k.L : Int), .int .i64 (k.R : Int), .int .i64 (k.S : Int)], blkR g3 33 #[.int .i64 0, .int .i64 (u : Int), .slice RA RL RC], blkR g4 31 #[.slice VA xs3.length VC]]) ++ [blkR W'.heap.size 44 #[.int .i64 q, .int .i64 b, .int .i64 x]], Sep.bring _ _ (hs.new 44 #[.int .i64 q, .int .i64 b, .int .i64 x]), ?_⟩
      clear hs
      generalize W'.heap.size = go at *
      rintro q2 W2 hs
      have HS := Lib.hid hs
      clear hs
      have hz : ∀ w, (zeroValue 3).run Try.prog w = .ok (.int .i64 0) w := fun w => by kernel_rfl
      have lk1 := lookup_any (P := Try.prog) (HS.out.all 7 _ rfl : IMap W2 mr .i64 (seenC Rch m)) u_counts underlying_int x (hz W2)
      rw [HNO.out] at lk1
      simp only [Option.getD_none] at lk1
      obtain ⟨w4, hup, hm4, hk4, _⟩ := update_keep (P := Try.prog) (w := W2) (HS.out.all 7 _ rfl : IMap W2 mr .i64 (seenC Rch m)) u_counts underlying_int x (.int .i64 1)
      have hs2 := HS.out.step (i := 7) rfl hk4 (r' := mapR mr (seenC Rch (m + 1))) (by rw [HST.out]; exact hm4) (fun _ h => .inl h)
      have lk2 := lookup_any (P := Try.prog) (hs2.all 7 _ rfl : IMap w4 mr .i64 (seenC Rch (m + 1))) u_counts underlying_int x (hz w4)
      rw [HST.out, show mset (seenC Rch m) x (.int .i64 1) x = some (.int .i64 1) by simp [mset]] at lk2
      simp only [Option.getD_some] at lk2
      have m0 := (HS.out.blk 8 rfl).cell 0
      simp at m0
      have o2 := (HS.out.blk 14 rfl).cell 2
      simp at o2
      have p0 := (hs2.blk 8 rfl).cell 0
      have p2 := (hs2.blk 14 rfl).cell 2
      simp at p0 p2
      have HS2 := Lib.hid hs2
      clear hm4 hk4 hs2 hz
      gi_wp2
      exact ⟨_, ⟨rfl, by omega⟩, Sep.dropMid (r := blkR go 44 #[.int .i64 q, .int .i64 b, .int .i64 x]) _ _ HS2.out⟩
    case done =>
      as_aux_lemma =>
      rintro D0 L r2 W' ⟨rfl, _⟩ hs
      simp only [Exit.inBlock, Exit.then]
      have HS := Lib.hid (show Sep w [] ([blkR gx 24 #[.int .u16 l, .int .u16 r, .int .u16 s], blkR gr 4 #[.bool false], devR d t, rowR 3 (.slice OA os.length OC) (atsOf os), rowR 26 (.slice RA RL RC) (uw rs), blkR gk 30 #[.int .i64 (k.L : Int), .int .i64 (k.R : Int), .int .i64 (k.S : Int)], blkR gb 33 #[.int .i64 0, .int .i64 (u : Int), .slice RA RL RC], mapR mr (seenC Rch Rch.length), blkR gm 71 #[.map (some mr)], rowR 26 (.slice VA xs3.length VC) (uw ws), blkR g1 28 #[.pointer (some ⟨d.b, 0, none⟩)], blkR g2 30 #[.int .i64 (k.L : Int), .int .i64 (k.R : Int), .int .i64 (k.S : Int)], blkR g3 33 #[.int .i64 0, .int .i64 (u : Int), .slice RA RL RC], blkR g4 31 #[.slice VA xs3.length VC]] ++ List.map dR [D0]) W' from hs.take 15)
      clear hs HFS HPK
      refine wpFr_seq (wpFr_seq (wpFr_of_wp ?_))
      have m0 := (HS.out.blk 8 rfl).cell 0
      simp at m0
      obtain ⟨w10, cnt0, hrg, hs10⟩ := HS.out.range (P := Try.prog) (i := 7) rfl u_counts
      obtain ⟨rr, hrr⟩ : ∃ rr, W'.heap.size = rr := ⟨_, rfl⟩
      rw [hrr] at hrg hs10
      replace HS := Lib.hid (show Sep w [] ([blkR gx 24 #[.int .u16 l, .int .u16 r, .int .u16 s], blkR gr 4 #[.bool false], devR d t, rowR 3 (.slice OA os.length OC) (atsOf os), rowR 26 (.slice RA RL RC) (uw rs), blkR gk 30 #[.int .i64 (k.L : Int), .int .i64 (k.R : Int), .int .i64 (k.S : Int)], blkR gb 33 #[.int .i64 0, .int .i64 (u : Int), .slice RA RL RC], iterR mr rr .i64 (seenC Rch Rch.length) (fun k => (seenC Rch Rch.length k).isSome) (cnt0), blkR gm 71 #[.map (some mr)], rowR 26 (.slice VA xs3.length VC) (uw ws), blkR g1 28 #[.pointer (some ⟨d.b, 0, none⟩)], blkR g2 30 #[.int .i64 (k.L : Int), .int .i64 (k.R : Int), .int .i64 (k.S : Int)], blkR g3 33 #[.int .i64 0, .int .i64 (u : Int), .slice RA RL RC], blkR g4 31 #[.slice VA xs3.length VC]] ++ List.map dR [D0]) w10 from hs10)
      clear hs10 hrr
      go_wp2
      clear m0 hrg
      refine wpFr_block (wpFr_loopI (ClosesL d gr gk gb gm rr w (fun left n => [blkR gx 24 #[.int .u16 l, .int .u16 r, .int .u16 s], blkR gr 4 #[.bool false], devR d t, rowR 3 (.slice OA os.length OC) (atsOf os), rowR 26 (.slice RA RL RC) (uw rs), blkR gk 30 #[.int .i64 (k.L : Int), .int .i64 (k.R : Int), .int .i64 (k.S : Int)], blkR gb 33 #[.int .i64 0, .int .i64 (u : Int), .slice RA RL RC], iterR mr rr .i64 (seenC Rch Rch.length) (left) (n), blkR gm 71 #[.map (some mr)], rowR 26 (.slice VA xs3.length VC) (uw ws), blkR g1 28 #[.pointer (some ⟨d.b, 0, none⟩)], blkR g2 30 #[.int .i64 (k.L : Int), .int .i64 (k.R : Int), .int .i64 (k.S : Int)], blkR g3 33 #[.int .i64 0, .int .i64 (u : Int), .slice RA RL RC], blkR g4 31 #[.slice VA xs3.length VC]])) ?lround (n := cnt0) (ClosesL.intro _ [D0] (closes_lit d gr gk gb gm rr rfl rfl rfl rfl rfl rfl rfl rfl) HS.out))
      clear HS
      as_aux_lemma =>
      rintro n _ wr ⟨left, Ds, z, rfl, hs⟩
      refine wpFr_seq (wpFr_of_wp ?_)
      rcases hs.next (P := Try.prog) (i := 7) rfl with ⟨h0, hl0, hnx⟩ | ⟨kk, vv, w11, cnt', hMk, hlk, hlt, hs2, hnx, hen⟩
      · have HS := Lib.hid (hs.perm (L' := List.map dR Ds ++ [blkR gx 24 #[.int .u16 l, .int .u16 r, .int .u16 s], blkR gr 4 #[.bool false], devR d t, rowR 3 (.slice OA os.length OC) (atsOf os), rowR 26 (.slice RA RL RC) (uw rs), blkR gk 30 #[.int .i64 (k.L : Int), .int .i64 (k.R : Int), .int .i64 (k.S : Int)], blkR gb 33 #[.int .i64 0, .int .i64 (u : Int), .slice RA RL RC], iterR mr rr .i64 (seenC Rch Rch.length) (left) (n), blkR gm 71 #[.map (some mr)], rowR 26 (.slice VA xs3.length VC) (uw ws), blkR g1 28 #[.pointer (some ⟨d.b, 0, none⟩)], blkR g2 30 #[.int .i64 (k.L : Int), .int .i64 (k.R : Int), .int .i64 (k.S : Int)], blkR g3 33 #[.int .i64 0, .int .i64 (u : Int), .slice RA RL RC], blkR g4 31 #[.slice VA xs3.length VC]]) List.perm_append_comm)
        have HS0 := Lib.hid hs
        clear h0 hl0 hs
        go_wp2
        clear hnx
        refine wpFr_seq (wpFr_of_wp ?_)
        have r0 := (HS0.out.blk 1 rfl).cell 0
        simp at r0
        have z2 := (HS0.out.blk 1 rfl).frozen 0
        have hput := HS0.out.put (i := 1) rfl 0 (.bool true)
        have HS2 := Lib.hid ((show Sep w [] ([blkR gx 24 #[.int .u16 l, .int .u16 r, .int .u16 s], blkR gr 4 #[.bool true], devR d t, rowR 3 (.slice OA os.length OC) (atsOf os), rowR 26 (.slice RA RL RC) (uw rs), blkR gk 30 #[.int .i64 (k.L : Int), .int .i64 (k.R : Int), .int .i64 (k.S : Int)], blkR gb 33 #[.int .i64 0, .int .i64 (u : Int), .slice RA RL RC], iterR mr rr .i64 (seenC Rch Rch.length) (left) (n), blkR gm 71 #[.map (some mr)], rowR 26 (.slice VA xs3.length VC) (uw ws), blkR g1 28 #[.pointer (some ⟨d.b, 0, none⟩)], blkR g2 30 #[.int .i64 (k.L : Int), .int .i64 (k.R : Int), .int .i64 (k.S : Int)], blkR g3 33 #[.int .i64 0, .int .i64 (u : Int), .slice RA RL RC], blkR g4 31 #[.slice VA xs3.length VC]] ++ List.map dR Ds) _ from hput).perm List.perm_append_comm)
        clear hput
        go_wp2
        refine wpFr_of_wp ?_
        go_wp2
        clear r0 z2
        refine leave_marks (u := .returning) (by simp) Ds _ HS2.out (fun w' hs' => ?_)
        have ld := loadVar_one (P := Try.prog) (ty := 4) (a := ⟨gr, 0, none⟩) (v := .bool true) (d := .bool) (by kernel_rfl) rfl (by rw [(hs'.blk 1 rfl).cell 0]; rfl)
        exact leave_none (results_c (fn := Try.f11) (p := 8) (ty := 4) (a1 := ⟨gr, 0, none⟩) rfl _ _ _ rfl ld) ⟨rfl, hs'.take 0⟩
      · have HS := Lib.hid (show Sep w [] ([blkR gx 24 #[.int .u16 l, .int .u16 r, .int .u16 s], blkR gr 4 #[.bool false], devR d t, rowR 3 (.slice OA os.length OC) (atsOf os), rowR 26 (.slice RA RL RC) (uw rs), blkR gk 30 #[.int .i64 (k.L : Int), .int .i64 (k.R : Int), .int .i64 (k.S : Int)], blkR gb 33 #[.int .i64 0, .int .i64 (u : Int), .slice RA RL RC], iterR mr rr .i64 (seenC Rch Rch.length) (fun z => left z && !(z == kk)) (cnt'), blkR gm 71 #[.map (some mr)], rowR 26 (.slice VA xs3.length VC) (uw ws), blkR g1 28 #[.pointer (some ⟨d.b, 0, none⟩)], blkR g2 30 #[.int .i64 (k.L : Int), .int .i64 (k.R : Int), .int .i64 (k.S : Int)], blkR g3 33 #[.int .i64 0, .int .i64 (u : Int), .slice RA RL RC], blkR g4 31 #[.slice VA xs3.length VC]] ++ List.map dR Ds) w11 from hs2)
        clear hs2 hs
        go_wp2
        refine wpFr_seq (wpFr_of_wp ?_)
        go_wp2
        refine wpFr_block (wpFr_seq (wpFr_of_wp ?_))
        go_wp2
        clear hnx hen
        have hkR : kk ∈ Rch := by
          unfold seenC at hMk
          split at hMk
          · rename_i h
            rwa [List.take_length] at h
          · cases hMk
        obtain ⟨p, rfl, hp1, hp2, hgd⟩ := isOb_in (HFN.out.2 kk hkR)
        have hxr := HL.out.rng.nw p
        have hok := headOf_ok (x := t.nw p) hxr.1
        have hnm2 := HL.out.small HK.out p hp1 hgd
        have hfw := Kfg.from_words HK.out (a := 0) (by decide)
        obtain ⟨m, hm⟩ : ∃ m, (headOf (t.nw p)).1 = m := ⟨_, rfl⟩
        obtain ⟨b, hb⟩ : ∃ b, (headOf (t.nw p)).2.1 = b := ⟨_, rfl⟩
        have hof := fun w (hd : Dev w d t) => of_yes d t k 0 u p (k.from_ 0 + u) _ m b (.slice RA RL RC) w hd HK.out (by decide) hus ⟨hp1, hp2⟩ rfl rfl hxr.1 hxr.2 (by rw [← hm, ← hb, ← hgd.1]) (by rw [← hm]; exact hgd.2)
        rw [hm, hb] at hok
        rw [hb] at hnm2
        obtain ⟨M, rfl⟩ : ∃ M : Nat, m = (M : Int) := ⟨m.toNat, by have := hok.1; omega⟩
        obtain ⟨Bn, rfl⟩ : ∃ Bn : Nat, b = (Bn : Int) := ⟨b.toNat, by have := hok.2.2.1; omega⟩
        simp only [Int.toNat_natCast] at hnm2
        have hM64 : M ≤ 64 := by have := hok.2.1; omega
        have hBM : Bn ≤ M := by have := hok.2.2.2; omega
        have hsq := fun gb gd => (names_seq d t M Bn p gb gd hBM hM64 (by omega) hnm2).toS
        obtain ⟨nms, hnms⟩ : ∃ nms, namesTo t p Bn = nms := ⟨_, rfl⟩
        rw [hnms] at hsq
        have hin : ∀ (i : Nat) (y : Nat × Int), nms[i]? = some y → seenC Rch Rch.length y.2 = some (.int .i64 1) := fun i y hy => by
          have h1 : y.2 ∈ nmsOf t (p : Int) := by
            unfold nmsOf refsOf
            simp only [Int.toNat_natCast]
            rw [hb]
            simp only [Int.toNat_natCast]
            rw [hnms]
            exact List.mem_map.2 ⟨y, List.mem_of_getElem? hy, rfl⟩
          have h2 := HCL.out _ _ hkR h1
          unfold seenC
          rw [List.take_length, if_pos h2]
        have HSQ := Lib.hid hsq
        have HIN := Lib.hid hin
        have HOF := Lib.hid hof
        clear hkR hp1 hp2 hgd hxr hok hnm2 hm hb hof hsq hnms hin hMk hlk
        refine wpFr_seq (wpFr_of_wp ?_)
        have c0 := (HS.out.blk 5 rfl).cell 0
        simp at c0
        have c1 := (HS.out.blk 5 rfl).cell 1
        simp at c1
        have c2 := (HS.out.blk 5 rfl).cell 2
        simp at c2
        have b0 := (HS.out.blk 6 rfl).cell 0
        simp at b0
        have b1 := (HS.out.blk 6 rfl).cell 1
        simp at b1
        have b2 := (HS.out.blk 6 rfl).cell 2
        simp at b2
        go_wp2_with fail
        refine (HOF.out _ (HS.out.dev 2 rfl)).mono ?_
        rintro e1 w12 ⟨rfl, hkk⟩
        replace HS := Lib.hid ((HS.out.grow hkk).new 44 #[.int .i64 (M : Int), .int .i64 (Bn : Int), .int .i64 (p : Int)])
        clear hkk c0 c1 c2 b0 b1 b2 HOF
        go_wp2
        generalize w12.alloc _ = w13 at *
        generalize w12.heap.size = go at *
        refine wpFr_seq (wpFr_of_wp ?_)
        go_wp2
        refine wpFr_seq (wpFr_of_wp ?_)
        have HS3 := Lib.hid (HS.out.perm (L' := blkR go 44 #[.int .i64 (M : Int), .int .i64 (Bn : Int), .int .i64 (p : Int)] :: ([blkR gx 24 #[.int .u16 l, .int .u16 r, .int .u16 s], blkR gr 4 #[.bool false], devR d t, rowR 3 (.slice OA os.length OC) (atsOf os), rowR 26 (.slice RA RL RC) (uw rs), blkR gk 30 #[.int .i64 (k.L : Int), .int .i64 (k.R : Int), .int .i64 (k.S : Int)], blkR gb 33 #[.int .i64 0, .int .i64 (u : Int), .slice RA RL RC], iterR mr rr .i64 (seenC Rch Rch.length) (fun z => left z && !(z == (p : Int))) (cnt'), blkR gm 71 #[.map (some mr)], rowR 26 (.slice VA xs3.length VC) (uw ws), blkR g1 28 #[.pointer (some ⟨d.b, 0, none⟩)], blkR g2 30 #[.int .i64 (k.L : Int), .int .i64 (k.R : Int), .int .i64 (k.S : Int)], blkR g3 33 #[.int .i64 0, .int .i64 (u : Int), .slice RA RL RC], blkR g4 31 #[.slice VA xs3.length VC]] ++ List.map dR Ds)) (by first | exact List.perm_append_comm (l₂ := [blkR go 44 #[.int .i64 (M : Int), .int .i64 (Bn : Int), .int .i64 (p : Int)]]) | exact List.perm_append_singleton _ _))
        have o0 := (HS3.out.blk 0 rfl).cell 0
        have o1 := (HS3.out.blk 0 rfl).cell 1
        have o2 := (HS3.out.blk 0 rfl).cell 2
        simp at o0 o1 o2
        go_wp2_with fail
        refine (names_any (M : Int) (Bn : Int) (p : Int) _ _ ⟨_, rfl⟩).mono ?_
        rintro e1 w14 ⟨rfl, rfl⟩
        have hs8 := (HS.out.new 44 #[.int .i64 (M : Int), .int .i64 (Bn : Int), .int .i64 (p : Int)]).new 28 #[.pointer (some ⟨d.b, 0, none⟩)]
        simp only [World.size_alloc] at hs8
        generalize (w13.alloc _).alloc _ = w14 at *
        generalize w13.heap.size = h1 at *
        generalize h1 + 1 = h2 at *
        have hs9 : Sep w [] ([blkR gx 24 #[.int .u16 l, .int .u16 r, .int .u16 s], blkR gr 4 #[.bool false], devR d t, rowR 3 (.slice OA os.length OC) (atsOf os), rowR 26 (.slice RA RL RC) (uw rs), blkR gk 30 #[.int .i64 (k.L : Int), .int .i64 (k.R : Int), .int .i64 (k.S : Int)], blkR gb 33 #[.int .i64 0, .int .i64 (u : Int), .slice RA RL RC], iterR mr rr .i64 (seenC Rch Rch.length) (fun z => left z && !(z == (p : Int))) (cnt'), blkR gm 71 #[.map (some mr)], rowR 26 (.slice VA xs3.length VC) (uw ws), blkR g1 28 #[.pointer (some ⟨d.b, 0, none⟩)], blkR g2 30 #[.int .i64 (k.L : Int), .int .i64 (k.R : Int), .int .i64 (k.S : Int)], blkR g3 33 #[.int .i64 0, .int .i64 (u : Int), .slice RA RL RC], blkR g4 31 #[.slice VA xs3.length VC]] ++ ([blkR go 44 #[.int .i64 (M : Int), .int .i64 (Bn : Int), .int .i64 (p : Int)], blkR h1 44 #[.int .i64 (M : Int), .int .i64 (Bn : Int), .int .i64 (p : Int)], blkR h2 28 #[.pointer (some ⟨d.b, 0, none⟩)]] ++ List.map dR Ds)) w14 := hs8.perm (by
          simp only [List.append_assoc]
          exact List.Perm.append_left _ List.perm_append_comm)
        replace HS := Lib.hid hs9
        clear hs8 hs9 HS3 o0 o1 o2
        go_wp2
        refine wpFr_block ?_
        refine wpFr_rangeX HS.out rfl (enters_of Try.func69 (by kernel_rfl) rfl) (HSQ.out h1 h2) (fun _ => rfl)
          (fun mm Lq => Lq = [blkR gx 24 #[.int .u16 l, .int .u16 r, .int .u16 s], blkR gr 4 #[.bool false], devR d t, rowR 3 (.slice OA os.length OC) (atsOf os), rowR 26 (.slice RA RL RC) (uw rs), blkR gk 30 #[.int .i64 (k.L : Int), .int .i64 (k.R : Int), .int .i64 (k.S : Int)], blkR gb 33 #[.int .i64 0, .int .i64 (u : Int), .slice RA RL RC], iterR mr rr .i64 (seenC Rch Rch.length) (fun z => left z && !(z == (p : Int))) (cnt'), blkR gm 71 #[.map (some mr)], rowR 26 (.slice VA xs3.length VC) (uw ws), blkR g1 28 #[.pointer (some ⟨d.b, 0, none⟩)], blkR g2 30 #[.int .i64 (k.L : Int), .int .i64 (k.R : Int), .int .i64 (k.S : Int)], blkR g3 33 #[.int .i64 0, .int .i64 (u : Int), .slice RA RL RC], blkR g4 31 #[.slice VA xs3.length VC]] ++ ([blkR go 44 #[.int .i64 (M : Int), .int .i64 (Bn : Int), .int .i64 (p : Int)], blkR h1 44 #[.int .i64 (M : Int), .int .i64 (Bn : Int), .int .i64 (p : Int)], blkR h2 28 #[.pointer (some ⟨d.b, 0, none⟩)]] ++ List.map dR Ds))
          (fun _ _ => False) (fun _ _ => False) rfl ?nrr (fun fn hfn => .inr (fun ch L h => h)) ?nround ?ndone (fun _ _ _ _ _ h _ => h.elim) (fun _ _ _ _ _ h _ => h.elim)
        case nrr =>
          rintro mm Lq X W2 hm rfl hs
          exact ⟨hs.blk 15 rfl, hs.blk 16 rfl, hs.dev 2 rfl⟩
        case nround =>
          rintro l9 mm Lq X r1 r2' W2 hm rfl hs
          obtain ⟨y, hy⟩ : ∃ y, nms[mm]? = some y := ⟨_, List.getElem?_eq_getElem hm⟩
          have hgd : nms.getD mm (0, 0) = y := by rw [List.getD_eq_getElem?_getD, hy]; rfl
          rw [hgd]
          have hin := HIN.out mm y hy
          clear hgd HS hy HSQ HIN
          have hz : ∀ w, (zeroValue 3).run Try.prog w = .ok (.int .i64 0) w := fun w => by kernel_rfl
          gi_wp2
          refine ⟨_, hs, ?_⟩
          clear hs
          rintro q2 W3 hs2
          have hit : IterAt W3 mr rr .i64 (seenC Rch Rch.length) (fun z => left z && !(z == (p : Int))) cnt' := hs2.all 7 _ rfl
          have lk := lookup_any (P := Try.prog) hit.map u_counts underlying_int y.2 (hz W3)
          rw [hin] at lk
          simp only [Option.getD_some] at lk
          have HS := Lib.hid hs2
          clear hs2 hit hz hin
          have m0 := (HS.out.blk 8 rfl).cell 0
          simp at m0
          gi_wp2
          exact HS.out
        case ndone =>
          rintro D2 Lq r2' W2 rfl hs
          have hs2 := (hs.perm (perm_done [blkR gx 24 #[.int .u16 l, .int .u16 r, .int .u16 s], blkR gr 4 #[.bool false], devR d t, rowR 3 (.slice OA os.length OC) (atsOf os), rowR 26 (.slice RA RL RC) (uw rs), blkR gk 30 #[.int .i64 (k.L : Int), .int .i64 (k.R : Int), .int .i64 (k.S : Int)], blkR gb 33 #[.int .i64 0, .int .i64 (u : Int), .slice RA RL RC], iterR mr rr .i64 (seenC Rch Rch.length) (fun z => left z && !(z == (p : Int))) (cnt'), blkR gm 71 #[.map (some mr)], rowR 26 (.slice VA xs3.length VC) (uw ws), blkR g1 28 #[.pointer (some ⟨d.b, 0, none⟩)], blkR g2 30 #[.int .i64 (k.L : Int), .int .i64 (k.R : Int), .int .i64 (k.S : Int)], blkR g3 33 #[.int .i64 0, .int .i64 (u : Int), .slice RA RL RC], blkR g4 31 #[.slice VA xs3.length VC]] [blkR go 44 #[.int .i64 (M : Int), .int .i64 (Bn : Int), .int .i64 (p : Int)], blkR h1 44 #[.int .i64 (M : Int), .int .i64 (Bn : Int), .int .i64 (p : Int)], blkR h2 28 #[.pointer (some ⟨d.b, 0, none⟩)]] (List.map dR Ds) (dR D2) r2')).left
          refine ⟨cnt', hlt, ?_⟩
          exact ClosesL.intro _ (D2 :: Ds) (closes_lit d gr gk gb gm rr rfl rfl rfl rfl rfl rfl rfl rfl) hs2

theorem ReachCloses.walk {v1 v2 v3 : Value} {w : World} (l r s : Int) (h : (lowest .u16 ≤ l ∧ l ≤ greatest .u16) ∧ (lowest .u16 ≤ r ∧ r ≤ greatest .u16) ∧ (lowest .u16 ≤ s ∧ s ≤ greatest .u16)) (hl1 : List HV) (hm1 : RdH w v1 hl1) (ho1 : ∀ x ∈ hl1, x.Ok) (hn1 : hl1.length ≤ maxLen) (xs2 : List Int) (hr2 : Rd w v2 (xs2.map (Value.int .u16))) (hb2 : ∀ x ∈ xs2, lowest .u16 ≤ x ∧ x ≤ greatest .u16) (hn2 : xs2.length ≤ maxLen) (xs3 : List Int) (hr3 : Rd w v3 (xs3.map (Value.int .u16))) (hb3 : ∀ x ∈ xs3, lowest .u16 ≤ x ∧ x ≤ greatest .u16) (hn3 : xs3.length ≤ maxLen) :
    Calls Try.prog 11 #[.agg #[.int .u16 l, .int .u16 r, .int .u16 s], v1, v2, v3] w fun e w' => e = .returned (.bool true) ∧ Below w.heap.size w w' := by
  obtain ⟨⟨l0, l1⟩, ⟨r0, r1⟩, s0, s1⟩ := h
  have hb2' : ∀ x ∈ xs2, 0 ≤ x ∧ x ≤ 65535 := fun x hx => by have := hb2 x hx; simpa [lowest, greatest] using this
  have hb3' : ∀ x ∈ xs3, 0 ≤ x ∧ x ≤ 65535 := fun x hx => by have := hb3 x hx; simpa [lowest, greatest] using this
  simp [lowest, greatest] at l0 l1 r0 r1 s0 s1
  exact (ReachCloses.core l r s v1 hl1 v2 xs2 v3 xs3 w l0 l1 r0 r1 s0 s1 hm1 ho1 hn1 hr2 hb2' hn2 hr3 hb3' hn3).mono fun e w' ⟨he, hk⟩ => ⟨he, hk.below⟩
end Go.Proofs.Ythdiehcmjknhiaa
