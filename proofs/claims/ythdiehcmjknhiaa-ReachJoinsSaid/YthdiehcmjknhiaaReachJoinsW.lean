/-
  ReachJoins: the walk.
-/
import Derived.Deep.CutRange
import Derived.Test.YthdiehcmjknhiaaAwk13
import Derived.Test.YthdiehcmjknhiaaRchL
import Derived.Test.YthdiehcmjknhiaaReachC
import Derived.Test.YthdiehcmjknhiaaAppE
set_option linter.unusedSimpArgs false
set_option linter.unusedVariables false
set_option maxRecDepth 100000
namespace Go.Proofs.Ythdiehcmjknhiaa
open Go.RowKit Go.Shelf

attribute [local go_sem] Oper.semAt_some

theorem pickF_bounds {os : List Ob} {nm : List Int} (hn : ∀ x ∈ nm, 0 ≤ x ∧ x ≤ 65535) (ho : ∀ o ∈ os, o.at_ ≤ 20000) : ∀ x ∈ pickF os nm, 0 ≤ x ∧ x ≤ 20000 := by
  intro x hx
  obtain ⟨n, hnm, rfl⟩ := List.mem_map.1 hx
  have h1 := hn n hnm
  unfold pickAt
  split
  · omega
  · cases h : os[(n / 6).toNat % os.length]? with
    | none => simp
    | some o =>
      have := ho o (List.mem_of_getElem? h)
      simp
      omega
theorem rd_of_row {w : World} {e : TypeId} {v : Value} {xs : List Value} (h : w.ownsRow 0 e 1 v xs.length xs) : Rd w v xs := by
  rcases h.2 with ⟨hv, h0⟩ | ⟨g, cap, cur, hv, _⟩
  · exact ⟨none, 0, by rw [hv, h0], fun hp => by omega⟩
  · subst hv
    refine ⟨some ⟨g, 0, none⟩, cap, rfl, fun hp => ⟨g, 0, rfl, fun j u hu => ?_⟩⟩
    have := h.cells (g := g) rfl j u hu
    rwa [addrZ, ← Nat.zero_add j] at this

theorem oneI {x : Int} : ∀ u ∈ [Value.int .i64 x], u.oneCell' = true := by intro u hu; simp at hu; subst hu; rfl
set_option maxHeartbeats 8000000 in
theorem all_any (d : DevI) (t : St) (k : Kfg) (u gd gk gb : Nat) (RA : Option Addr) (RL RC : Nat) (wv : Value) (ws : List Int) (w : World) (hd : Dev w d t) (hk : k.Ok) (hu : u ≤ k.S) (hrg : t.rng) (hws : ∀ x ∈ ws, 0 ≤ x ∧ x ≤ 18446744073709551615) (hwl : ws.length ≤ 1000000) (hr : Rd w wv (uw ws))
    (hnm : ∀ p, k.from_ 0 ≤ p → goodAt t (k.from_ 0 + u) p → ∀ i, i < (headOf (t.nw p)).2.1.toNat → 0 ≤ t.nw (p + 1 + i) ∧ t.nw (p + 1 + i) ≤ 9223372036854775807)
    (h1 : Blk w gd 28 #[.pointer (some ⟨d.b, 0, none⟩)]) (h2 : Blk w gk 30 #[.int .i64 (k.L : Int), .int .i64 (k.R : Int), .int .i64 (k.S : Int)]) (h3 : Blk w gb 33 #[.int .i64 0, .int .i64 (u : Int), .slice RA RL RC]) :
    Calls Try.prog 44 #[wv, .pointer (some ⟨gd, 0, none⟩), .pointer (some ⟨gk, 0, none⟩), .pointer (some ⟨gb, 0, none⟩)] w fun e w' => ∃ v, e = .returned v ∧ Sep w [] [rowR 3 v (iw (reachF (isOb t k 0 u) (nmsOf t) ws u))] w' := by
  have hsq := fun gb gk gd gw => from_seq d t k 0 u gb gk gd gw RA RL RC wv ws hk (by decide) hu hrg hws hwl hnm
  have hfine := Fine.fo (G := isOb t k 0 u) (nm := nmsOf t) (ws := ws) u
  have hlen := Fine.le _ hfine
  have hkS : k.S ≤ 4096 := hk.s1
  change (reachF (isOb t k 0 u) (nmsOf t) ws u).length ≤ u at hlen
  obtain ⟨Rch, hRc⟩ : ∃ Rch, reachF (isOb t k 0 u) (nmsOf t) ws u = Rch := ⟨_, rfl⟩
  rw [hRc] at hsq hlen
  rw [hRc]
  have HSQ := Lib.hid hsq
  have HD := Lib.hid hd
  have HR := Lib.hid hr
  have H1 := Lib.hid h1
  have H2 := Lib.hid h2
  have H3 := Lib.hid h3
  obtain ⟨WA, WC, hwv, _⟩ := hr.cellAt
  subst hwv
  clear hsq hfine hRc hd hr hk hrg hws hnm h1 h2 h3
  have HS := Lib.hid (Sep.start w [])
  refine calls_of_wpFr Try.func44 rfl ?_
  simp only [Try.ntmps44, List.size_toArray, List.length_cons, List.length_nil, Nat.reduceAdd, Nat.reduceSub, Array.replicate_succ,
   Array.replicate_zero, List.push_toArray, List.append_toArray, List.nil_append, List.cons_append]
  refine wpFr_seq (wpFr_of_wp ?_)
  go_wp2
  refine wpFr_seq (wpFr_of_wp ?_)
  go_wp2
  replace HS := Lib.hid ((HS.out.new 34 #[.slice none 0 0]).nilRow 3)
  generalize w.alloc _ = w2 at *
  generalize w.heap.size = g6 at *
  refine wpFr_seq (wpFr_of_wp ?_)
  have d0 := (H1.out.keep HS.out.keep H1.out.lt (by simp)).cell 0
  have c0 := (H2.out.keep HS.out.keep H2.out.lt (by simp)).cell 0
  have c1 := (H2.out.keep HS.out.keep H2.out.lt (by simp)).cell 1
  have c2 := (H2.out.keep HS.out.keep H2.out.lt (by simp)).cell 2
  have b0 := (H3.out.keep HS.out.keep H3.out.lt (by simp)).cell 0
  have b1 := (H3.out.keep HS.out.keep H3.out.lt (by simp)).cell 1
  have b2 := (H3.out.keep HS.out.keep H3.out.lt (by simp)).cell 2
  simp at d0 c0 c1 c2 b0 b1 b2
  go_wp2_with fail
  refine (rfrom_any _ _ _ _ _ _ _ _ _ ⟨_, rfl⟩ ⟨_, _, _, rfl, rfl, rfl⟩ ⟨_, _, _, _, _, rfl, rfl, rfl⟩ ⟨_, _, _, rfl⟩).mono ?_
  rintro e1 w3 ⟨rfl, rfl⟩
  replace HS := Lib.hid ((((HS.out.new 28 #[.pointer (some ⟨d.b, 0, none⟩)]).new 30 #[.int .i64 (k.L : Int), .int .i64 (k.R : Int), .int .i64 (k.S : Int)]).new 33 #[.int .i64 0, .int .i64 (u : Int), .slice RA RL RC]).new 31 #[.slice WA ws.length WC])
  simp only [World.size_alloc] at HS
  generalize (((w2.alloc _).alloc _).alloc _).alloc _ = w3 at *
  generalize w2.heap.size = g1 at *
  generalize g1 + 1 = g2 at *
  generalize g2 + 1 = g3 at *
  generalize g3 + 1 = g4 at *
  clear d0 c0 c1 c2 b0 b1 b2
  go_wp2
  have hcmp : ∀ b1 b2 b3 b4 w, (Go.binOp .eql 73 (.func (.func 67) #[] #[.pointer (some ⟨b1, 0, none⟩), .pointer (some ⟨b2, 0, none⟩), .pointer (some ⟨b3, 0, none⟩), .pointer (some ⟨b4, 0, none⟩)]) .nilFunc).run Try.prog w = .ok (.bool false) w := fun _ _ _ _ _ => by kernel_rfl
  refine wpFr_seq (wpFr_of_wp ?_)
  go_wp2
  clear hcmp
  replace HS : Hid (Sep w [] [blkR g6 34 #[.slice none 0 0], rowR 3 (.slice none 0 0) (iw (Rch.take (0))), blkR g1 28 #[.pointer (some ⟨d.b, 0, none⟩)], blkR g2 30 #[.int .i64 (k.L : Int), .int .i64 (k.R : Int), .int .i64 (k.S : Int)], blkR g3 33 #[.int .i64 0, .int .i64 (u : Int), .slice RA RL RC], blkR g4 31 #[.slice WA ws.length WC]] w3) := HS
  refine wpFr_seq (wpFr_seq (wpFr_of_wp ?_))
  go_wp2
  refine wpFr_block ?_
  refine wpFr_rangeX HS.out rfl (enters_of Try.func67 (by kernel_rfl) rfl) (HSQ.out g3 g2 g1 g4) (fun _ => rfl)
    (fun m L => ∃ A c, L = [blkR g6 34 #[.slice A (iw (Rch.take m)).length c], rowR 3 (.slice A (iw (Rch.take m)).length c) (iw (Rch.take (m))), blkR g1 28 #[.pointer (some ⟨d.b, 0, none⟩)], blkR g2 30 #[.int .i64 (k.L : Int), .int .i64 (k.R : Int), .int .i64 (k.S : Int)], blkR g3 33 #[.int .i64 0, .int .i64 (u : Int), .slice RA RL RC], blkR g4 31 #[.slice WA ws.length WC]] ∧ m ≤ Rch.length) (fun _ _ => False) (fun _ _ => False) ⟨none, 0, rfl, by omega⟩ ?rr (fun fn hfn => .inr (fun ch L h => h)) ?round ?done (fun _ _ _ _ _ h _ => h.elim) (fun _ _ _ _ _ h _ => h.elim)
  case rr =>
    rintro m L X W' hm ⟨A, c, rfl, _⟩ hs
    have hkk : Keep w.heap.size [] w W' := hs.keep
    exact ⟨hs.blk 4 rfl, hs.blk 3 rfl, hs.blk 2 rfl, hs.blk 5 rfl, HR.out.keep hkk, HD.out.of_new hkk⟩
  case round =>
    rintro l9 m L X r1 r2 W' hm ⟨A, c, rfl, hmN⟩ hs
    obtain ⟨x, hx⟩ : ∃ x, Rch[m]? = some x := ⟨_, List.getElem?_eq_getElem hm⟩
    have hgd : Rch.getD m 0 = x := by rw [List.getD_eq_getElem?_getD, hx]; rfl
    rw [hgd]
    have htk : iw (Rch.take (m + 1)) = iw (Rch.take m) ++ [.int .i64 x] := by rw [List.take_add_one, hx]; exact iw_snoc _ _
    have hln : (iw (Rch.take m)).length ≤ 100000 := by rw [iw_length, List.length_take]; omega
    obtain ⟨q, hq⟩ : ∃ q, (headOf (t.nw x.toNat)).1 = q := ⟨_, rfl⟩
    obtain ⟨b, hb⟩ : ∃ b, (headOf (t.nw x.toNat)).2.1 = b := ⟨_, rfl⟩
    have hob : obOf t x = [.int .i64 q, .int .i64 b, .int .i64 x] := by unfold obOf; rw [hq, hb]
    rw [hob]
    have HTK := Lib.hid htk
    have HLN := Lib.hid hln
    clear hgd HS hx hq hb hob htk hln HSQ
    gi_wp2
    refine ⟨[blkR g6 34 #[.slice A (iw (Rch.take m)).length c], rowR 3 (.slice A (iw (Rch.take m)).length c) (iw (Rch.take (m))), blkR g1 28 #[.pointer (some ⟨d.b, 0, none⟩)], blkR g2 30 #[.int .i64 (k.L : Int), .int .i64 (k.R : Int), .int .i64 (k.S : Int)], blkR g3 33 #[.int .i64 0, .int .i64 (u : Int), .slice RA RL RC], blkR g4 31 #[.slice WA ws.length WC]] ++ [blkR W'.heap.size 44 #[.int .i64 q, .int .i64 b, .int .i64 x]], Sep.bring _ _ (hs.new 44 #[.int .i64 q, .int .i64 b, .int .i64 x]), ?_⟩
    clear hs
    generalize W'.heap.size = go at *
    rintro q2 W2 hs
    have HS := Lib.hid hs
    clear hs
    have v0 := (HS.out.blk 0 rfl).cell 0
    simp at v0
    have o2 := (HS.out.blk 6 rfl).cell 2
    simp at o2
    gi_wp2_with (gi_at_builtin; refine of_stop ?_)
    unfold Stop
    have HS1 := Lib.hid (HS.out.new 3 #[.int .i64 x])
    obtain ⟨gn, hgn⟩ : ∃ gn, W2.heap.size = gn := ⟨_, rfl⟩
    rw [hgn] at HS1
    simp only [hgn]
    generalize W2.alloc _ = W3 at *
    clear hgn v0 o2
    have hrd : Rd W3 (.slice (some ⟨gn, 0, none⟩) 1 1) [.int .i64 x] := Rd.of_blk (xs := [.int .i64 x]) (ex := []) HS1.out.last
    refine wpListIn_appendE HS1.out 1 rfl rfl _ _ 34 rfl rfl (z := .int .i64 0) (bytes := 8) (by kernel_rfl) rfl (by decide) rfl rfl hrd oneI (by have := HLN.out; simp only [List.length_singleton]; omega) ?_
    intro v' W4 hS _
    rw [← HTK.out] at hS
    obtain ⟨A2, c2, hv2⟩ := rowR_val (hS.row 1 rfl)
    subst hv2
    clear hrd
    have z0 := (hS.blk 0 rfl).frozen 0
    have v0 := (hS.blk 0 rfl).cell 0
    simp at v0
    have hput := hS.put (i := 0) rfl 0 (.slice A2 (iw (Rch.take (m + 1))).length c2)
    have HS2 := Lib.hid hput
    clear hS hput HS1 HS
    gi_wp2
    have h9 : Sep w [] (([blkR g6 34 #[.slice A2 (iw (Rch.take (m + 1))).length c2], rowR 3 (.slice A2 (iw (Rch.take (m + 1))).length c2) (iw (Rch.take (m + 1))), blkR g1 28 #[.pointer (some ⟨d.b, 0, none⟩)], blkR g2 30 #[.int .i64 (k.L : Int), .int .i64 (k.R : Int), .int .i64 (k.S : Int)], blkR g3 33 #[.int .i64 0, .int .i64 (u : Int), .slice RA RL RC], blkR g4 31 #[.slice WA ws.length WC]] ++ [blkR go 44 #[.int .i64 q, .int .i64 b, .int .i64 x]] ++ (r1 :: q2 :: X)) ++ [blkR gn 3 #[.int .i64 x]]) _ := HS2.out
    exact ⟨_, ⟨⟨_, _, rfl⟩, by omega⟩, Sep.dropMid (r := blkR go 44 #[.int .i64 q, .int .i64 b, .int .i64 x]) _ _ h9.left⟩
  case done =>
    rintro D L r2 W' ⟨A, c, rfl, _⟩ hs
    simp only [Exit.inBlock, Exit.then]
    refine wpFr_of_wp ?_
    rw [List.take_length] at hs
    have HS := Lib.hid hs
    clear hs
    have n0 := (HS.out.blk 0 rfl).cell 0
    simp at n0
    go_wp2
    have h9 : Sep w [] [rowR 3 (.slice A (iw Rch).length c) (iw Rch)] (W'.putObj D (.deferred none)) := ((HS.out.putObj (i := 6) rfl (.deferred none)).take 2).tail
    refine leave_mark (HS.out.all 6 _ rfl) (results_tmp rfl _ _ _) ⟨.slice A (iw Rch).length c, ?_, h9⟩
    simp
theorem u_ints : Try.prog.underlying 34 = some (.slice 3) := by kernel_rfl
set_option maxHeartbeats 4000000 in
theorem clone_rowI {W w : World} {S : List Nat} {L : List Res} {v : Value} {xs : List Int} (hs : Sep W S L w) {i : Nat} (hi : L[i]? = some (rowR 3 v (iw xs))) (hl : xs.length ≤ 100000) :
    Calls Try.prog 46 #[v] w fun e w' => ∃ v', e = .returned v' ∧ Sep W S (L ++ [rowR 3 v' (iw xs)]) w' := by
  have hrow : w.ownsRow 0 3 1 v (iw xs).length (iw xs) := hs.row i hi
  have hul : (iw xs).length = xs.length := by simp [iw]
  rcases hrow.2 with ⟨hv, h0⟩ | ⟨g, cap, cur, hv, _, hg, _⟩
  · have h0' : xs = [] := List.eq_nil_of_length_eq_zero (by rw [← hul, h0])
    subst hv h0'
    have hnil : ∀ w, (Go.binOp .eql 34 (.slice none 0 0) (.slice none 0 0)).run Try.prog w = .ok (.bool true) w := fun w => by kernel_rfl
    go_enter Try.func46, Try.ntmps46
    go_wp2
    go_ret
    exact ⟨_, rfl, hs.nilRow 3⟩
  · subst hv
    have hnil := fun (w : World) => Lib.run_eql_slice_nil (P := Try.prog) w 34 3 (some ⟨g, 0, none⟩) xs.length cap 0 0 u_ints
    have hi' : L[i]? = some (rowR 3 (.slice (some ⟨g, 0, none⟩) xs.length cap) (iw xs)) := by rw [← hul]; exact hi
    rw [hul]
    have HS := Lib.hid hs
    have HI := Lib.hid hi'
    clear hs hi hi' hrow hg
    go_enter Try.func46, Try.ntmps46
    go_wp2_with (at_builtin; refine of_stop ?_)
    unfold Stop
    clear hnil
    replace HS := Lib.hid (HS.out.add ((Keep.refl _ _ _).alloc (Nat.le_refl _) _) (r := rowR 3 _ _) (ownsRow_new _ 3 [] (by simp)) (by simp [rowR, Value.ownBlock]))
    generalize w.alloc _ = w1 at *
    obtain ⟨gn, hgn⟩ : ∃ gn, w.heap.size = gn := ⟨_, rfl⟩
    rw [hgn] at HS
    simp only [hgn]
    replace HS : Hid (Sep W S (L ++ [rowR 3 (.slice (some ⟨gn, 0, none⟩) 0 0) []]) w1) := HS
    have hlast : (L ++ [rowR 3 (.slice (some ⟨gn, 0, none⟩) 0 0) []])[L.length]? = some (rowR 3 (.slice (some ⟨gn, 0, none⟩) 0 0) []) := by simp
    have hil : i < L.length := (List.getElem?_eq_some_iff.1 HI.out).1
    have hrow2 := HS.out.row i (e := 3) (by rw [List.getElem?_append_left hil]; exact HI.out)
    refine wpList_appendE HS.out L.length hlast rfl _ _ 34 rfl rfl (z := .int .i64 0) (bytes := 8) (by kernel_rfl) rfl (by decide) (news := iw xs) rfl rfl (rd_rowE hrow2) (by intro u hu; simp [iw] at hu; obtain ⟨x, _, rfl⟩ := hu; rfl) (by rw [hul, List.length_nil]; omega) ?_
    intro v' w2 hS _
    have hS2 : Sep W S (L ++ [rowR 3 v' (iw xs)]) w2 := by simpa [List.set_append] using hS
    replace HS := Lib.hid hS2
    clear hS hS2 hrow2
    go_wp2
    go_ret
    exact ⟨_, rfl, HS.out⟩
set_option maxRecDepth 100000 in
set_option maxHeartbeats 8000000 in
theorem ReachJoins.core (l r s : Int) (v1 : Value) (hl1 : List HV) (v2 : Value) (xs2 : List Int) (v3 : Value) (xs3 : List Int) (v4 : Value) (xs4 : List Int) (w : World) (l0 : 0 ≤ l) (l1 : l ≤ 65535) (r0 : 0 ≤ r) (r1 : r ≤ 65535) (s0 : 0 ≤ s) (s1 : s ≤ 65535) (hm1 : RdH w v1 hl1) (ho1 : ∀ x ∈ hl1, x.Ok) (hn1 : hl1.length ≤ maxLen) (hr2 : Rd w v2 (xs2.map (Value.int .u16))) (hb2 : ∀ x ∈ xs2, 0 ≤ x ∧ x ≤ 65535) (hn2 : xs2.length ≤ maxLen) (hr3 : Rd w v3 (xs3.map (Value.int .u16))) (hb3 : ∀ x ∈ xs3, 0 ≤ x ∧ x ≤ 65535) (hn3 : xs3.length ≤ maxLen) (hr4 : Rd w v4 (xs4.map (Value.int .u16))) (hb4 : ∀ x ∈ xs4, 0 ≤ x ∧ x ≤ 65535) (hn4 : xs4.length ≤ maxLen) :
    Calls Try.prog 14 #[.agg #[.int .u16 l, .int .u16 r, .int .u16 s], v1, v2, v3, v4] w fun e w' => e = .returned (.bool true) ∧ Keep w.heap.size [] w w' := by
  simp only [maxLen] at hn1 hn2 hn3 hn4
  have HS := Lib.hid ((Sep.start w []).new 24 #[.int .u16 l, .int .u16 r, .int .u16 s])
  have HRD3 := Lib.hid hr3
  obtain ⟨NA3, NC3, hv3, _⟩ := hr3.cells
  subst hv3
  have HB3 := Lib.hid hb3
  have HRD4 := Lib.hid hr4
  obtain ⟨NA4, NC4, hv4, _⟩ := hr4.cells
  subst hv4
  have HB4 := Lib.hid hb4
  obtain ⟨hk, hkL, hkR, hkS⟩ := kOf_ok (l := l) (r := r) (s := s) l0 r0 s0
  have hla := fun w hm hml hr hnl => linked_any l r s (0) v1 v2 hl1 xs2 w l0 l1 r0 r1 s0 s1 hm ho1 hml hr hb2 hnl (by decide) (by decide)
  have hpl := placed_length ((kOf l r s).from_ 0) (kOf l r s).S hl1 0
  generalize kOf l r s = k at *
  obtain ⟨os, hos⟩ : ∃ os, placed (k.from_ 0) k.S hl1 0 = os := ⟨_, rfl⟩
  obtain ⟨u, hu⟩ : ∃ u, usedOf k.S hl1 0 = u := ⟨_, rfl⟩
  simp only [hos, hu] at hla hpl
  have HLA := Lib.hid hla
  have HK := Lib.hid hk
  have HM := Lib.hid hm1
  have HRD := Lib.hid hr2
  have hS8 : 8 ≤ k.S := hk.s0
  have hw2 : k.words ≤ 10000 := (Kfg.words_le hk).2
  have hw1 : k.act + 2 + k.R ≤ k.words := (Kfg.words_le hk).1
  obtain ⟨HA, HC, hv1, hvv⟩ := hm1
  subst hv1
  obtain ⟨NA, NC, hv2, hvv2⟩ := hr2.cells
  subst hv2
  clear hla hk hos hu hvv hvv2 hr2
  clear hr3 hb3 hr4 hb4
  by_cases hb1 : 25 < hl1.length
  · have hbI : (25 : Int) < hl1.length := by omega
    go_enter Try.func14, Try.ntmps14
    go_wp2_with fail
    generalize w.alloc _ = w2 at *
    refine (awake13_any _).mono ?_
    rintro e w1 ⟨rfl, hk⟩
    replace HS := Lib.hid (HS.out.grow hk)
    clear hk
    go_wp2
    go_ret
    exact ⟨rfl, HS.out.keep⟩
  have hx1a : ((25 : Int) < hl1.length) = False := by rw [eq_iff_iff, iff_false]; omega
  have hx1b : (25 < hl1.length) = False := by rw [eq_iff_iff, iff_false]; omega
  by_cases hb2 : 60 < xs2.length
  · have hbI : (60 : Int) < xs2.length := by omega
    go_enter Try.func14, Try.ntmps14
    go_wp2_with fail
    generalize w.alloc _ = w2 at *
    refine (awake13_any _).mono ?_
    rintro e w1 ⟨rfl, hk⟩
    replace HS := Lib.hid (HS.out.grow hk)
    clear hk
    go_wp2
    go_ret
    exact ⟨rfl, HS.out.keep⟩
  have hx2a : ((60 : Int) < xs2.length) = False := by rw [eq_iff_iff, iff_false]; omega
  have hx2b : (60 < xs2.length) = False := by rw [eq_iff_iff, iff_false]; omega
  by_cases hb3 : 10 < xs3.length
  · have hbI : (10 : Int) < xs3.length := by omega
    go_enter Try.func14, Try.ntmps14
    go_wp2_with fail
    generalize w.alloc _ = w2 at *
    refine (awake13_any _).mono ?_
    rintro e w1 ⟨rfl, hk⟩
    replace HS := Lib.hid (HS.out.grow hk)
    clear hk
    go_wp2
    go_ret
    exact ⟨rfl, HS.out.keep⟩
  have hx3a : ((10 : Int) < xs3.length) = False := by rw [eq_iff_iff, iff_false]; omega
  have hx3b : (10 < xs3.length) = False := by rw [eq_iff_iff, iff_false]; omega
  by_cases hb4 : 10 < xs4.length
  · have hbI : (10 : Int) < xs4.length := by omega
    go_enter Try.func14, Try.ntmps14
    go_wp2_with fail
    generalize w.alloc _ = w2 at *
    refine (awake13_any _).mono ?_
    rintro e w1 ⟨rfl, hk⟩
    replace HS := Lib.hid (HS.out.grow hk)
    clear hk
    go_wp2
    go_ret
    exact ⟨rfl, HS.out.keep⟩
  have hx4a : ((10 : Int) < xs4.length) = False := by rw [eq_iff_iff, iff_false]; omega
  have hx4b : (10 < xs4.length) = False := by rw [eq_iff_iff, iff_false]; omega
  go_enter Try.func14, Try.ntmps14
  go_wp2_with fail
  generalize w.alloc _ = w2 at *
  generalize w.heap.size = gx at *
  refine (awake13_any _).mono ?_
  rintro e w1 ⟨rfl, hk⟩
  replace HS := Lib.hid (HS.out.grow hk)
  clear hk
  have c0 := (HS.out.blk 0 rfl).cell 0
  simp at c0
  have c1 := (HS.out.blk 0 rfl).cell 1
  simp at c1
  have c2 := (HS.out.blk 0 rfl).cell 2
  simp at c2
  go_wp2_with fail
  refine (HLA.out _ (HM.out.keep HS.out.keep) (by omega) (HRD.out.keep HS.out.keep) (by omega)).mono ?_
  rintro e w3 ⟨d, t, rv, ov, rfl, hf, hS⟩
  obtain ⟨OA, OC, hov⟩ := rowR_val (hS.row 1 rfl)
  obtain ⟨RA, RC, hrv⟩ := rowR_val (hS.row 2 rfl)
  rw [atsOf_length] at hov
  obtain ⟨rs, hrs⟩ : ∃ rs, rootsOf t k k.R = rs := ⟨_, rfl⟩
  rw [hrs] at hrv hS
  obtain ⟨RL, hRL⟩ : ∃ RL, (uw rs).length = RL := ⟨_, rfl⟩
  rw [hRL] at hrv
  subst hov hrv
  have hadds := HS.out.adds hS
  replace HS := Lib.hid hadds
  have HL := Lib.hid hf
  simp only [Kfg.cells, rbC]
  clear hS hadds hf hrs hRL c0 c1 c2 HLA HM HRD
  clear hx1a hx1b hx2a hx2b hx3a hx3b hx4a hx4b
  have hus : u ≤ k.S := HL.out.fill.le
  have hus97 : u ≤ 97 := by omega
  have hosl : os.length ≤ 1000 := by omega
  have hat : ∀ o ∈ os, o.at_ ≤ 20000 := fun o ho => by have := HL.out.fill.in_ HK.out (by decide) ho; omega
  have hpb := pickF_bounds HB3.out hat
  have hqb := pickF_bounds HB4.out hat
  have hpk := fun w h1 h2 => pick_any (.slice OA os.length OC) (.slice NA3 xs3.length NC3) os xs3 w h1 h2 HB3.out (by omega) hosl hat
  have hqk := fun w h1 h2 => pick_any (.slice OA os.length OC) (.slice NA4 xs4.length NC4) os xs4 w h1 h2 HB4.out (by omega) hosl hat
  have hpl' := pickF_length os xs3
  have hql' := pickF_length os xs4
  obtain ⟨ws, hws⟩ : ∃ ws, pickF os xs3 = ws := ⟨_, rfl⟩
  obtain ⟨vs, hvs⟩ : ∃ vs, pickF os xs4 = vs := ⟨_, rfl⟩
  rw [hws] at hpb hpk hpl'
  rw [hvs] at hqb hqk hql'
  have hpb2 : ∀ x ∈ ws, 0 ≤ x ∧ x ≤ 18446744073709551615 := fun x hx => by have := hpb x hx; omega
  have hqb2 : ∀ x ∈ vs, 0 ≤ x ∧ x ≤ 18446744073709551615 := fun x hx => by have := hqb x hx; omega
  have hbb2 : ∀ x ∈ ws ++ vs, 0 ≤ x ∧ x ≤ 18446744073709551615 := fun x hx => (List.mem_append.1 hx).elim (hpb2 x) (hqb2 x)
  have hal := fun gd gk gb wv w hd hr => all_any d t k u gd gk gb RA RL RC wv ws w hd HK.out hus HL.out.rng hpb2 (by omega) hr (HL.out.small HK.out)
  have hbl := fun gd gk gb wv w hd hr => all_any d t k u gd gk gb RA RL RC wv vs w hd HK.out hus HL.out.rng hqb2 (by omega) hr (HL.out.small HK.out)
  have hcl := fun gd gk gb wv w hd hr => all_any d t k u gd gk gb RA RL RC wv (ws ++ vs) w hd HK.out hus HL.out.rng hbb2 (by rw [List.length_append]; omega) hr (HL.out.small HK.out)
  have hsi := fun w wv hd hr => size_any d t k 0 u RA RL RC wv ws w hd HK.out (by decide) hus HL.out.rng hpb2 (by omega) hr (HL.out.small HK.out)
  have hsz := HL.out.reach_size HK.out ws u
  have hjo := fun x => reach_join (G := isOb t k 0 u) (nm := nmsOf t) (ws := ws) (vs := vs) (B := u) (fun L h => Fine.le L h) (x := x)
  have hm1 := Fine.le _ (Fine.fo (G := isOb t k 0 u) (nm := nmsOf t) (ws := ws) u)
  have hm2 := Fine.le _ (Fine.fo (G := isOb t k 0 u) (nm := nmsOf t) (ws := vs) u)
  have hm3 := Fine.le _ (Fine.fo (G := isOb t k 0 u) (nm := nmsOf t) (ws := ws ++ vs) u)
  change (reachF (isOb t k 0 u) (nmsOf t) ws u).length ≤ u at hm1
  change (reachF (isOb t k 0 u) (nmsOf t) vs u).length ≤ u at hm2
  change (reachF (isOb t k 0 u) (nmsOf t) (ws ++ vs) u).length ≤ u at hm3
  obtain ⟨U, hU⟩ : ∃ U, reachF (isOb t k 0 u) (nmsOf t) ws u = U := ⟨_, rfl⟩
  obtain ⟨V, hV⟩ : ∃ V, reachF (isOb t k 0 u) (nmsOf t) vs u = V := ⟨_, rfl⟩
  obtain ⟨B, hB⟩ : ∃ B, reachF (isOb t k 0 u) (nmsOf t) (ws ++ vs) u = B := ⟨_, rfl⟩
  rw [hU] at hm1
  rw [hV] at hm2
  rw [hB] at hm3
  simp only [hU] at hal hsi hsz
  simp only [hV] at hbl
  simp only [hB] at hcl
  simp only [hU, hV, hB] at hjo
  simp only [rbC, Kfg.cells] at hsi
  obtain ⟨sz, hsze⟩ : ∃ sz, sizeF t U = sz := ⟨_, rfl⟩
  simp only [hsze] at hsi hsz
  have HPK := Lib.hid hpk
  have HQK := Lib.hid hqk
  have HAL := Lib.hid hal
  have HBL := Lib.hid hbl
  have HCL := Lib.hid hcl
  have HSI := Lib.hid hsi
  have HJO := Lib.hid hjo
  have HPL := Lib.hid hpl'
  have HQL := Lib.hid hql'
  have HSZ := Lib.hid hsz
  clear hat hpb hqb hpk hqk hpl' hql' hws hvs hpb2 hqb2 hbb2 hal hbl hcl hsi hsz hjo hU hV hB hsze HL HK
  go_wp2_with fail
  replace HS := Lib.hid (((HS.out.new 28 #[.pointer (some ⟨d.b, 0, none⟩)]).new 30 #[.int .i64 (k.L : Int), .int .i64 (k.R : Int), .int .i64 (k.S : Int)]).new 33 #[.int .i64 0, .int .i64 (u : Int), .slice RA RL RC])
  simp only [World.size_alloc] at HS
  generalize ((w3.alloc _).alloc _).alloc _ = w4 at *
  generalize w3.heap.size = gd at *
  generalize gd + 1 = gk at *
  generalize gk + 1 = gb at *
  refine (HPK.out _ (RdP.of_row (HS.out.row 2 rfl)) (HRD3.out.keep HS.out.keep)).mono ?_
  rintro e wp5 ⟨v5, rfl, hS⟩
  replace HS := Lib.hid (HS.out.adds hS)
  clear hS
  go_wp2_with fail
  refine (HAL.out gd gk gb _ _ (HS.out.dev 1 rfl) (rd_rowE (HS.out.row 7 rfl)) (HS.out.blk 4 rfl) (HS.out.blk 5 rfl) (HS.out.blk 6 rfl)).mono ?_
  rintro e waU ⟨uv, rfl, hS⟩
  obtain ⟨UA, UC, hv⟩ := rowR_val (hS.row 0 rfl)
  rw [iw_length] at hv
  subst hv
  replace HS := Lib.hid (HS.out.adds hS)
  clear hS
  go_wp2_with fail
  refine (HQK.out _ (RdP.of_row (HS.out.row 2 rfl)) (HRD4.out.keep HS.out.keep)).mono ?_
  rintro e wp6 ⟨v6, rfl, hS⟩
  replace HS := Lib.hid (HS.out.adds hS)
  clear hS
  go_wp2_with fail
  refine (HBL.out gd gk gb _ _ (HS.out.dev 1 rfl) (rd_rowE (HS.out.row 9 rfl)) (HS.out.blk 4 rfl) (HS.out.blk 5 rfl) (HS.out.blk 6 rfl)).mono ?_
  rintro e waV ⟨uv, rfl, hS⟩
  obtain ⟨VA, VC, hv⟩ := rowR_val (hS.row 0 rfl)
  rw [iw_length] at hv
  subst hv
  replace HS := Lib.hid (HS.out.adds hS)
  clear hS
  go_wp2_with fail
  refine (HPK.out _ (RdP.of_row (HS.out.row 2 rfl)) (HRD3.out.keep HS.out.keep)).mono ?_
  rintro e wp7 ⟨v7, rfl, hS⟩
  replace HS := Lib.hid (HS.out.adds hS)
  clear hS
  go_wp2_with fail
  refine (HQK.out _ (RdP.of_row (HS.out.row 2 rfl)) (HRD4.out.keep HS.out.keep)).mono ?_
  rintro e wp8 ⟨v8, rfl, hS⟩
  replace HS := Lib.hid (HS.out.adds hS)
  clear hS

  have hone : ∀ z ∈ uw vs, z.oneCell' = true := by intro z hz; obtain ⟨x, _, rfl⟩ := List.mem_map.1 hz; rfl
  have hrd := rd_rowE (HS.out.row 12 rfl)
  have hll : (uw ws).length + (uw vs).length ≤ 100000 := by rw [uw_length, uw_length, HPL.out, HQL.out]; omega
  have HONE := Lib.hid hone
  have HRDX := Lib.hid hrd
  have HLL := Lib.hid hll
  clear hone hrd hll
  go_wp2_with (at_builtin; refine of_stop ?_)
  unfold Stop
  refine wpList_appendE HS.out 11 rfl rfl _ _ 31 rfl rfl (z := .int .u64 0) (bytes := 8) (by kernel_rfl) rfl (by decide) (news := uw vs) rfl rfl HRDX.out HONE.out (by have := HLL.out; omega) ?_
  intro v9 w9 hS _
  rw [show uw ws ++ uw vs = uw (ws ++ vs) by simp [uw]] at hS
  replace HS := Lib.hid hS
  clear hS HRDX HONE HLL
  go_wp2_with fail
  refine (HCL.out gd gk gb _ _ (HS.out.dev 1 rfl) (rd_rowE (HS.out.row 11 rfl)) (HS.out.blk 4 rfl) (HS.out.blk 5 rfl) (HS.out.blk 6 rfl)).mono ?_
  rintro e waB ⟨uv, rfl, hS⟩
  obtain ⟨BA, BC, hv⟩ := rowR_val (hS.row 0 rfl)
  rw [iw_length] at hv
  subst hv
  replace HS := Lib.hid (HS.out.adds hS)
  clear hS

  clear HQK HAL HBL HCL HRD4
  replace HS : Hid (Sep w [] [blkR gx 24 #[.int .u16 l, .int .u16 r, .int .u16 s], devR d t, rowR 3 (.slice OA os.length OC) (atsOf os), rowR 26 (.slice RA RL RC) (uw rs), blkR gd 28 #[.pointer (some ⟨d.b, 0, none⟩)], blkR gk 30 #[.int .i64 (k.L : Int), .int .i64 (k.R : Int), .int .i64 (k.S : Int)], blkR gb 33 #[.int .i64 0, .int .i64 (u : Int), .slice RA RL RC], rowR 26 (v5) (uw ws), rowR 3 (.slice UA U.length UC) (iw U), rowR 26 (v6) (uw vs), rowR 3 (.slice VA V.length VC) (iw V), rowR 26 (v9) (uw (ws ++ vs)), rowR 26 (v8) (uw vs), rowR 3 (.slice BA B.length BC) (iw B)] waB) := HS
  have hcu := fun x w hc => contains_any UA UC U x w hc (by omega)
  have hcv := fun x w hc => contains_any VA VC V x w hc (by omega)
  have hcb := fun x w hc => contains_any BA BC B x w hc (by omega)
  have HCU := Lib.hid hcu
  have HCV := Lib.hid hcv
  have HCB := Lib.hid hcb
  clear hcu hcv hcb
  go_wp2_with fail
  go_loopw [20, 76] (fun _ v76 wr => ∃ i : Nat, i ≤ B.length ∧ v76 = .int .i64 (i : Int) ∧ Sep w [] [blkR gx 24 #[.int .u16 l, .int .u16 r, .int .u16 s], devR d t, rowR 3 (.slice OA os.length OC) (atsOf os), rowR 26 (.slice RA RL RC) (uw rs), blkR gd 28 #[.pointer (some ⟨d.b, 0, none⟩)], blkR gk 30 #[.int .i64 (k.L : Int), .int .i64 (k.R : Int), .int .i64 (k.S : Int)], blkR gb 33 #[.int .i64 0, .int .i64 (u : Int), .slice RA RL RC], rowR 26 (v5) (uw ws), rowR 3 (.slice UA U.length UC) (iw U), rowR 26 (v6) (uw vs), rowR 3 (.slice VA V.length VC) (iw V), rowR 26 (v9) (uw (ws ++ vs)), rowR 26 (v8) (uw vs), rowR 3 (.slice BA B.length BC) (iw B)] wr) (fun _ v76 _ => B.length - (intOf v76).toNat)
  case atStart => exact ⟨0, by omega, rfl, HS.out⟩
  case round =>
    clear HS
    obtain ⟨i, hi, rfl, hs⟩ := hrel
    have HS := Lib.hid hs
    clear hs
    by_cases hlt : i < B.length
    · have hltI : (i : Int) < (B.length : Int) := by omega
      obtain ⟨x, hx⟩ : ∃ x, B[i]? = some x := ⟨_, List.getElem?_eq_getElem hlt⟩
      obtain ⟨g, hg, k0⟩ := iw_cells (by have := HS.out.row 13 (e := 3) rfl; exact this) i x hx
      subst hg
      have HCBX := Lib.hid (iw_cells (by have := HS.out.row 13 (e := 3) rfl; exact this))
      have hor := (HJO.out x).1 (List.mem_of_getElem? hx)
      have HOR := Lib.hid hor
      clear hor hx HCBX HCB
      by_cases hU : x ∈ U
      · have HUX := Lib.hid hU
        clear hU
        go_wp2_with fail
        refine (HCU.out x _ (iw_cells (HS.out.row 8 rfl))).mono ?_
        rintro e wc ⟨rfl, hkk⟩
        rw [decide_eq_true HUX.out]
        replace HS := Lib.hid (HS.out.grow hkk)
        clear hkk k0
        go_wp2
        exact ⟨⟨i + 1, by omega, by first | rfl | go_num | simp, HS.out⟩, by simp [intOf]; omega⟩
      · have hV : x ∈ V := HOR.out.resolve_left hU
        have HUX := Lib.hid hU
        have HVX := Lib.hid hV
        clear hU hV
        go_wp2_with fail
        refine (HCU.out x _ (iw_cells (HS.out.row 8 rfl))).mono ?_
        rintro e wc ⟨rfl, hkk⟩
        rw [decide_eq_false HUX.out]
        replace HS := Lib.hid (HS.out.grow hkk)
        clear hkk k0
        go_wp2_with fail
        refine (HCV.out x _ (iw_cells (HS.out.row 10 rfl))).mono ?_
        rintro e wc ⟨rfl, hkk⟩
        rw [decide_eq_true HVX.out]
        replace HS := Lib.hid (HS.out.grow hkk)
        clear hkk
        go_wp2
        exact ⟨⟨i + 1, by omega, by first | rfl | go_num | simp, HS.out⟩, by simp [intOf]; omega⟩
    · have hltI : ¬ (i : Int) < (B.length : Int) := by omega
      obtain rfl : i = B.length := by omega
      clear hlt hi HCU HCV
      have hcl9 := clone_rowI HS.out (i := 8) rfl (by omega)
      have HCLN := Lib.hid hcl9
      clear hcl9
      go_wp2_with fail
      refine HCLN.out.mono ?_
      rintro e wd ⟨v9', rfl, hS⟩
      replace HS := Lib.hid hS
      clear hS HCLN hltI
      have hone : ∀ z ∈ iw V, z.oneCell' = true := by intro z hz; obtain ⟨x, _, rfl⟩ := List.mem_map.1 hz; rfl
      have hrd := rd_rowE (HS.out.row 10 rfl)
      have hll : (iw U).length + (iw V).length ≤ 100000 := by rw [iw_length, iw_length]; omega
      have HONE := Lib.hid hone
      have HRDX := Lib.hid hrd
      have HLL := Lib.hid hll
      clear hone hrd hll
      go_wp2_with (at_builtin; refine of_stop ?_)
      unfold Stop
      refine wpList_appendE HS.out 14 rfl rfl _ _ 34 rfl rfl (z := .int .i64 0) (bytes := 8) (by kernel_rfl) rfl (by decide) (news := iw V) rfl rfl HRDX.out HONE.out (by have := HLL.out; omega) ?_
      intro vt wt hS _
      rw [show iw U ++ iw V = iw (U ++ V) by simp [iw]] at hS
      obtain ⟨TA, TC, hv⟩ := rowR_val (hS.row 14 rfl)
      rw [iw_length] at hv
      have hTB : ∀ x ∈ U ++ V, x ∈ B := fun x hx => (HJO.out x).2 (by simpa using hx)
      have hTL : (U ++ V).length ≤ 200 := by rw [List.length_append]; omega
      obtain ⟨T, hT⟩ : ∃ T, U ++ V = T := ⟨_, rfl⟩
      rw [hT] at hTB hTL hv hS
      subst hv
      have HTB := Lib.hid hTB
      replace HS := Lib.hid hS
      clear hS HRDX HONE HLL hTB hT HJO
      replace HS : Hid (Sep w [] [blkR gx 24 #[.int .u16 l, .int .u16 r, .int .u16 s], devR d t, rowR 3 (.slice OA os.length OC) (atsOf os), rowR 26 (.slice RA RL RC) (uw rs), blkR gd 28 #[.pointer (some ⟨d.b, 0, none⟩)], blkR gk 30 #[.int .i64 (k.L : Int), .int .i64 (k.R : Int), .int .i64 (k.S : Int)], blkR gb 33 #[.int .i64 0, .int .i64 (u : Int), .slice RA RL RC], rowR 26 (v5) (uw ws), rowR 3 (.slice UA U.length UC) (iw U), rowR 26 (v6) (uw vs), rowR 3 (.slice VA V.length VC) (iw V), rowR 26 (v9) (uw (ws ++ vs)), rowR 26 (v8) (uw vs), rowR 3 (.slice BA B.length BC) (iw B), rowR 3 (.slice TA T.length TC) (iw T)] wt) := HS
      go_wp2_with fail
      go_loopw [22, 96] (fun _ v96 wr => ∃ i : Nat, i ≤ T.length ∧ v96 = .int .i64 (i : Int) ∧ Sep w [] [blkR gx 24 #[.int .u16 l, .int .u16 r, .int .u16 s], devR d t, rowR 3 (.slice OA os.length OC) (atsOf os), rowR 26 (.slice RA RL RC) (uw rs), blkR gd 28 #[.pointer (some ⟨d.b, 0, none⟩)], blkR gk 30 #[.int .i64 (k.L : Int), .int .i64 (k.R : Int), .int .i64 (k.S : Int)], blkR gb 33 #[.int .i64 0, .int .i64 (u : Int), .slice RA RL RC], rowR 26 (v5) (uw ws), rowR 3 (.slice UA U.length UC) (iw U), rowR 26 (v6) (uw vs), rowR 3 (.slice VA V.length VC) (iw V), rowR 26 (v9) (uw (ws ++ vs)), rowR 26 (v8) (uw vs), rowR 3 (.slice BA B.length BC) (iw B), rowR 3 (.slice TA T.length TC) (iw T)] wr) (fun _ v96 _ => T.length - (intOf v96).toNat)
      case atStart => exact ⟨0, by omega, rfl, HS.out⟩
      case round =>
        clear HS
        obtain ⟨i, hi, rfl, hs⟩ := hrel
        have HS := Lib.hid hs
        clear hs
        by_cases hlt : i < T.length
        · have hltI : (i : Int) < (T.length : Int) := by omega
          obtain ⟨x, hx⟩ : ∃ x, T[i]? = some x := ⟨_, List.getElem?_eq_getElem hlt⟩
          obtain ⟨g, hg, k0⟩ := iw_cells (by have := HS.out.row 14 (e := 3) rfl; exact this) i x hx
          subst hg
          have hB := HTB.out x (List.mem_of_getElem? hx)
          have HBX := Lib.hid hB
          clear hx hB
          go_wp2_with fail
          refine (HCB.out x _ (iw_cells (HS.out.row 13 rfl))).mono ?_
          rintro e wc ⟨rfl, hkk⟩
          rw [decide_eq_true HBX.out]
          replace HS := Lib.hid (HS.out.grow hkk)
          clear hkk k0
          go_wp2
          exact ⟨⟨i + 1, by omega, by first | rfl | go_num | simp, HS.out⟩, by simp [intOf]; omega⟩
        · have hltI : ¬ (i : Int) < (T.length : Int) := by omega
          clear HCB HTB
          go_upto_region 23 with fail
          clear hltI hlt
          replace HS : Hid (Sep w [] ([blkR gx 24 #[.int .u16 l, .int .u16 r, .int .u16 s], devR d t, rowR 3 (.slice OA os.length OC) (atsOf os), rowR 26 (.slice RA RL RC) (uw rs), blkR gd 28 #[.pointer (some ⟨d.b, 0, none⟩)], blkR gk 30 #[.int .i64 (k.L : Int), .int .i64 (k.R : Int), .int .i64 (k.S : Int)], blkR gb 33 #[.int .i64 0, .int .i64 (u : Int), .slice RA RL RC], rowR 26 (v5) (uw ws), rowR 3 (.slice UA U.length UC) (iw U), rowR 26 (v6) (uw vs), rowR 3 (.slice VA V.length VC) (iw V), rowR 26 (v9) (uw (ws ++ vs)), rowR 26 (v8) (uw vs), rowR 3 (.slice BA B.length BC) (iw B), rowR 3 (.slice TA T.length TC) (iw T)] ++ [noR]) wr) := Lib.hid (HS.out.add (Keep.refl _ _ _) (r := noR) trivial (by simp [noR]))
          refine wp_region_st3 (W := w) (S := []) (by kernel_rfl) (by kernel_rfl) (by kernel_rfl) (fun D uu => [blkR gx 24 #[.int .u16 l, .int .u16 r, .int .u16 s], devR d t, rowR 3 (.slice OA os.length OC) (atsOf os), rowR 26 (.slice RA RL RC) (uw rs), blkR gd 28 #[.pointer (some ⟨d.b, 0, none⟩)], blkR gk 30 #[.int .i64 (k.L : Int), .int .i64 (k.R : Int), .int .i64 (k.S : Int)], blkR gb 33 #[.int .i64 0, .int .i64 (u : Int), .slice RA RL RC], rowR 26 (v5) (uw ws), rowR 3 (.slice UA U.length UC) (iw U), rowR 26 (v6) (uw vs), rowR 3 (.slice VA V.length VC) (iw V), rowR 26 (v9) (uw (ws ++ vs)), rowR 26 (v8) (uw vs), rowR 3 (.slice BA B.length BC) (iw B), rowR 3 (.slice TA T.length TC) (iw T)] ++ [bif D 5 then rowR 26 (uu 5) (uw ws) else noR])
            (fun j v => match j with
              | 0 => v = .pointer (some ⟨d.b, 0, none⟩)
              | 1 => v = .agg #[.int .i64 (k.L : Int), .int .i64 (k.R : Int), .int .i64 (k.S : Int)]
              | 2 => v = .agg #[.int .i64 0, .int .i64 (u : Int), .slice RA RL RC]
              | 3 => v = .slice OA os.length OC
              | 4 => v = .slice NA3 xs3.length NC3
              | 6 => v = .int .i64 (sz : Int)
              | 7 => v = .pointer (some ⟨gb, 1, none⟩)
              | 8 => v = .int .i64 (u : Int)
              | 9 => v = .bool true
              | 10 => v = .bool true
              | _ => True) ?start ?step ?fin
          case start => exact fun u => HS.out
          case step =>
            clear HS
            refine ⟨?_, ?_, ?_, ?_, ?_, ?_, ?_, ?_, ?_, ?_, ?_, trivial⟩
            · intro D uu w' K hD hF hl hS hK
              simp only [puts, Act.put, List.setIfInBounds_toArray, List.set_cons_succ, List.set_cons_zero, Nat.zero_add, Nat.reduceAdd]
              have x0 := (hS.blk 4 rfl).cell 0
              simp at x0
              go_simp
              simp only [yUpon]
              exact hK _ _ rfl hS
            · intro D uu w' K hD hF hl hS hK
              simp only [puts, Act.put, List.setIfInBounds_toArray, List.set_cons_succ, List.set_cons_zero, Nat.zero_add, Nat.reduceAdd]
              have x0 := (hS.blk 5 rfl).cell 0
              have x1 := (hS.blk 5 rfl).cell 1
              have x2 := (hS.blk 5 rfl).cell 2
              simp at x0 x1 x2
              go_simp
              simp only [yUpon]
              exact hK _ _ rfl hS
            · intro D uu w' K hD hF hl hS hK
              simp only [puts, Act.put, List.setIfInBounds_toArray, List.set_cons_succ, List.set_cons_zero, Nat.zero_add, Nat.reduceAdd]
              have x0 := (hS.blk 6 rfl).cell 0
              have x1 := (hS.blk 6 rfl).cell 1
              have x2 := (hS.blk 6 rfl).cell 2
              simp at x0 x1 x2
              go_simp
              simp only [yUpon]
              exact hK _ _ rfl hS
            · intro D uu w' K hD hF hl hS hK
              simp only [puts, Act.put, List.setIfInBounds_toArray, List.set_cons_succ, List.set_cons_zero, Nat.zero_add, Nat.reduceAdd]
              go_simp
              simp only [yUpon]
              exact hK _ _ rfl hS
            · intro D uu w' K hD hF hl hS hK
              simp only [puts, Act.put, List.setIfInBounds_toArray, List.set_cons_succ, List.set_cons_zero, Nat.zero_add, Nat.reduceAdd]
              go_simp
              simp only [yUpon]
              exact hK _ _ rfl hS
            · intro D uu w' K hD hF hl hS hK
              have f3 := (hF 3 (by kernel_rfl)).2
              simp only at f3
              have f4 := (hF 4 (by kernel_rfl)).2
              simp only at f4
              simp only [puts, Act.put, List.setIfInBounds_toArray, List.set_cons_succ, List.set_cons_zero, Nat.zero_add, Nat.reduceAdd]
              simp only [f3, f4]
              simp only [hD, cond_false] at hS
              have e5 : (fset D 5 true) 5 = true := rfl
              go_simp
              simp only [yUpon]
              refine (HPK.out _ (RdP.of_row (hS.row 2 rfl)) (HRD3.out.keep hS.keep)).mono ?_
              rintro e w1 ⟨wv, rfl, hS2⟩
              refine hK _ _ trivial ?_
              simp only [e5, cond_true]
              exact (hS.take 15).adds hS2
            · intro D uu w' K hD hF hl hS hK
              have f0 := (hF 0 (by kernel_rfl)).2
              simp only at f0
              have f1 := (hF 1 (by kernel_rfl)).2
              simp only at f1
              have f2 := (hF 2 (by kernel_rfl)).2
              simp only at f2
              simp only [puts, Act.put, List.setIfInBounds_toArray, List.set_cons_succ, List.set_cons_zero, Nat.zero_add, Nat.reduceAdd]
              simp only [f0, f1, f2]
              obtain ⟨d5, _⟩ := hF 5 (by kernel_rfl)
              have hS1 := hS
              simp only [d5, cond_true] at hS1
              go_simp
              simp only [yUpon]
              refine (HSI.out _ _ (hS1.dev 1 rfl) (rd_rowE (hS1.row 15 rfl))).mono ?_
              rintro e w1 ⟨rfl, hkk⟩
              exact hK _ _ rfl (hS.grow hkk)
            · intro D uu w' K hD hF hl hS hK
              simp only [puts, Act.put, List.setIfInBounds_toArray, List.set_cons_succ, List.set_cons_zero, Nat.zero_add, Nat.reduceAdd]
              go_simp
              simp only [yUpon]
              exact hK _ _ rfl hS
            · intro D uu w' K hD hF hl hS hK
              have f7 := (hF 7 (by kernel_rfl)).2
              simp only at f7
              simp only [puts, Act.put, List.setIfInBounds_toArray, List.set_cons_succ, List.set_cons_zero, Nat.zero_add, Nat.reduceAdd]
              simp only [f7]
              have x1 := (hS.blk 6 rfl).cell 1
              simp at x1
              go_simp
              simp only [yUpon]
              exact hK _ _ rfl hS
            · intro D uu w' K hD hF hl hS hK
              have f6 := (hF 6 (by kernel_rfl)).2
              simp only at f6
              have f8 := (hF 8 (by kernel_rfl)).2
              simp only at f8
              simp only [puts, Act.put, List.setIfInBounds_toArray, List.set_cons_succ, List.set_cons_zero, Nat.zero_add, Nat.reduceAdd]
              simp only [f6, f8]
              have hsz := HSZ.out
              have hszI : ((sz : Int) ≤ (u : Int)) = True := by rw [eq_iff_iff, iff_true]; omega
              have hszN : (sz ≤ u) = True := by rw [eq_iff_iff, iff_true]; omega
              clear hsz
              go_simp
              simp only [yUpon]
              exact hK _ _ rfl hS
            · intro D uu w' K hD hF hl hS hK
              have f9 := (hF 9 (by kernel_rfl)).2
              simp only at f9
              simp only [puts, Act.put, List.setIfInBounds_toArray, List.set_cons_succ, List.set_cons_zero, Nat.zero_add, Nat.reduceAdd]
              simp only [f9]
              go_simp
              simp only [yUpon]
              exact hK _ _ rfl hS
          case fin =>
            clear HS
            intro D uu wf hall hS
            have v10 := (hall 10 (by simp)).2
            simp only at v10
            have HS := Lib.hid hS
            clear hall hS
            simp only [puts, Act.put, List.setIfInBounds_toArray, List.set_cons_succ, List.set_cons_zero, Nat.zero_add, Nat.reduceAdd]
            simp only [v10]
            clear v10
            go_wp2
            go_ret
            exact ⟨rfl, HS.out.keep⟩

theorem ReachJoins.walk {v1 v2 v3 v4 : Value} {w : World} (l r s : Int) (h : (lowest .u16 ≤ l ∧ l ≤ greatest .u16) ∧ (lowest .u16 ≤ r ∧ r ≤ greatest .u16) ∧ (lowest .u16 ≤ s ∧ s ≤ greatest .u16)) (hl1 : List HV) (hm1 : RdH w v1 hl1) (ho1 : ∀ x ∈ hl1, x.Ok) (hn1 : hl1.length ≤ maxLen) (xs2 : List Int) (hr2 : Rd w v2 (xs2.map (Value.int .u16))) (hb2 : ∀ x ∈ xs2, lowest .u16 ≤ x ∧ x ≤ greatest .u16) (hn2 : xs2.length ≤ maxLen) (xs3 : List Int) (hr3 : Rd w v3 (xs3.map (Value.int .u16))) (hb3 : ∀ x ∈ xs3, lowest .u16 ≤ x ∧ x ≤ greatest .u16) (hn3 : xs3.length ≤ maxLen) (xs4 : List Int) (hr4 : Rd w v4 (xs4.map (Value.int .u16))) (hb4 : ∀ x ∈ xs4, lowest .u16 ≤ x ∧ x ≤ greatest .u16) (hn4 : xs4.length ≤ maxLen) :
    Calls Try.prog 14 #[.agg #[.int .u16 l, .int .u16 r, .int .u16 s], v1, v2, v3, v4] w fun e w' => e = .returned (.bool true) ∧ Below w.heap.size w w' := by
  obtain ⟨⟨l0, l1⟩, ⟨r0, r1⟩, s0, s1⟩ := h
  have hb2' : ∀ x ∈ xs2, 0 ≤ x ∧ x ≤ 65535 := fun x hx => by have := hb2 x hx; simpa [lowest, greatest] using this
  have hb3' : ∀ x ∈ xs3, 0 ≤ x ∧ x ≤ 65535 := fun x hx => by have := hb3 x hx; simpa [lowest, greatest] using this
  have hb4' : ∀ x ∈ xs4, 0 ≤ x ∧ x ≤ 65535 := fun x hx => by have := hb4 x hx; simpa [lowest, greatest] using this
  simp [lowest, greatest] at l0 l1 r0 r1 s0 s1
  exact (ReachJoins.core l r s v1 hl1 v2 xs2 v3 xs3 v4 xs4 w l0 l1 r0 r1 s0 s1 hm1 ho1 hn1 hr2 hb2' hn2 hr3 hb3' hn3 hr4 hb4' hn4).mono fun e w' ⟨he, hk⟩ => ⟨he, hk.below⟩
end Go.Proofs.Ythdiehcmjknhiaa
