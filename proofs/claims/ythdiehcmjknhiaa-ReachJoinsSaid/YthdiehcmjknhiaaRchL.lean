/-
  tumuluslaw13.Pick.
  tumuluslaw13.Reached.
-/
import Derived.Test.YthdiehcmjknhiaaReachP
import Derived.Test.YthdiehcmjknhiaaRchF
set_option linter.unusedSimpArgs false
set_option linter.unusedVariables false
set_option maxRecDepth 100000
namespace Go.Proofs.Ythdiehcmjknhiaa
open Go.RowKit Go.Shelf

/-- Some words: places, beside them, noughts. -/
def pickAt (os : List Ob) (n : Int) : Int := if n % 6 = 0 ∨ os.length = 0 then n / 6 else ((os[(n / 6).toNat % os.length]?.map fun o => (o.at_ : Int)).getD 0)
def pickF (os : List Ob) (nm : List Int) : List Int := nm.map (pickAt os)
theorem pickF_take {os : List Ob} {nm : List Int} {i : Nat} {x : Int} (h : nm[i]? = some x) : uw (pickF os (nm.take (i + 1))) = uw (pickF os (nm.take i)) ++ [.int .u64 (pickAt os x)] := by
  rw [List.take_add_one, h]
  simp [pickF, uw]
theorem pickF_length (os : List Ob) (nm : List Int) : (pickF os nm).length = nm.length := by simp [pickF]
theorem addrP (g off i : Nat) : (⟨g, off, none⟩ : Addr).add i = ⟨g, off + i, none⟩ := by unfold Addr.add; split <;> simp_all
theorem oneP {x : Int} : ∀ u ∈ [Value.int .u64 x], u.oneCell' = true := by intro u hu; simp at hu; subst hu; rfl
/-- Places, as they are read. -/
def RdP (w : World) (v : Value) (os : List Ob) : Prop := ∃ A C, v = .slice A os.length C ∧ ∀ (j : Nat) (o : Ob), os[j]? = some o → ∃ g off, A = some ⟨g, off, none⟩ ∧ w.cell? ⟨g, off + j, none⟩ = some (.int .i64 (o.at_ : Int))
theorem RdP.keep {w w' : World} {v : Value} {os : List Ob} (h : RdP w v os) (hk : Keep w.heap.size [] w w') : RdP w' v os := by
  obtain ⟨A, C, hv, h1⟩ := h
  refine ⟨A, C, hv, fun j o ho => ?_⟩
  obtain ⟨g, off, hA, hc⟩ := h1 j o ho
  have hlt := World.block_lt_of_cell? w _ hc
  exact ⟨g, off, hA, (World.cell?_of_block (hk.block g hlt (by simp))).trans hc⟩
theorem RdP.of_row {w : World} {A : Option Addr} {C : Nat} {os : List Ob} (h : w.ownsRow 0 3 1 (.slice A os.length C) (atsOf os).length (atsOf os)) : RdP w (.slice A os.length C) os := by
  refine ⟨A, C, rfl, fun j o ho => ?_⟩
  have hj := (List.getElem?_eq_some_iff.1 ho).1
  rcases h.2 with ⟨hv, h0⟩ | ⟨g, cap, cur, hv, _⟩
  · rw [atsOf_length] at h0; omega
  · injection hv with e1 e2 e3
    refine ⟨g, 0, e1, ?_⟩
    subst e1
    have := h.cells (g := g) rfl j (.int .i64 (o.at_ : Int)) (by simp [atsOf, ho])
    rwa [addrP] at this

set_option maxRecDepth 100000 in
set_option maxHeartbeats 8000000 in
theorem pick_any (v1 v2 : Value) (os : List Ob) (nm : List Int) (w : World) (hp : RdP w v1 os) (hr : Rd w v2 (nm.map (Value.int .u16))) (hb : ∀ x ∈ nm, 0 ≤ x ∧ x ≤ 65535) (hl : nm.length ≤ 1000) (hol : os.length ≤ 1000) (hat : ∀ o ∈ os, o.at_ ≤ 20000) :
    Calls Try.prog 38 #[v1, v2] w fun e w' => ∃ v, e = .returned v ∧ Sep w [] [rowR 26 v (uw (pickF os nm))] w' := by
  obtain ⟨PA, PC, rfl, hpc⟩ := hp
  obtain ⟨NA, NC, hv2, hnc⟩ := hr.cells
  subst hv2
  have HPC := Lib.hid hpc
  have HNC := Lib.hid hnc
  have HB := Lib.hid hb
  have HAT := Lib.hid hat
  have HS := Lib.hid ((Sep.start w []).nilRow 26)
  clear hpc hnc hr hb hat
  go_enter Try.func38, Try.ntmps38
  go_wp2_with fail
  go_loopw [5, 7, 10, 27] (fun v5 _ v10 _ wr => ∃ (i : Nat) (A : Option Addr) (c : Nat), i ≤ nm.length ∧ v10 = .int .i64 (i : Int) ∧ v5 = .slice A i c ∧ Sep w [] [rowR 26 (.slice A i c) (uw (pickF os (nm.take i)))] wr) (fun _ _ v10 _ _ => nm.length - (intOf v10).toNat)
  case atStart => exact ⟨0, none, 0, by omega, rfl, rfl, HS.out⟩
  case round =>
    clear HS
    obtain ⟨i, A, c, hi, rfl, rfl, hs⟩ := hrel
    have HS := Lib.hid hs
    clear hs
    by_cases hlt : i < nm.length
    · have hltI : (i : Int) < (nm.length : Int) := by omega
      obtain ⟨xi, hxi⟩ : ∃ xi, nm[i]? = some xi := ⟨_, List.getElem?_eq_getElem hlt⟩
      have hxb := HB.out xi (List.mem_of_getElem? hxi)
      obtain ⟨x, rfl⟩ : ∃ x : Nat, xi = (x : Int) := ⟨xi.toNat, by omega⟩
      obtain ⟨g, off, hNA, hcx⟩ := HNC.out i hlt
      rw [List.getD_eq_getElem?_getD, hxi] at hcx
      simp only [Option.getD_some] at hcx
      subst hNA
      have k0 := (Ext.mk wr HS.out.keep : Ext w).cell hcx
      simp only at k0
      have hpt := pickF_take (os := os) hxi
      obtain ⟨r6, hr6⟩ : ∃ r6, x % 6 = r6 := ⟨_, rfl⟩
      obtain ⟨d6, hd6⟩ : ∃ d6, x / 6 = d6 := ⟨_, rfl⟩
      have hrem : ((x : Int)).tmod 6 = (r6 : Int) := by rw [show (6 : Int) = ((6 : Nat) : Int) from rfl, tmod_natN, hr6]
      have hquo : ((x : Int)).tdiv 6 = (d6 : Int) := by rw [Int.tdiv_eq_ediv_of_nonneg (by omega)]; omega
      have hwd : IntKind.u64.wrap (d6 : Int) = (d6 : Int) := by rw [IntKind.wrap_u64]; omega
      have hwd2 : IntKind.i64.wrap (d6 : Int) = (d6 : Int) := IntWalk.i64_in _ (by omega)
      have hwd3 : IntKind.u16.wrap (d6 : Int) = (d6 : Int) := by rw [IntKind.wrap_u16]; omega
      have hpa : pickAt os (x : Int) = if r6 = 0 ∨ os.length = 0 then (d6 : Int) else ((os[d6 % os.length]?.map fun o => (o.at_ : Int)).getD 0) := by
        unfold pickAt
        have e1 : ((x : Int) / 6).toNat = d6 := by omega
        have e2 : (x : Int) / 6 = (d6 : Int) := by omega
        rw [e1, e2]
        by_cases h : r6 = 0 ∨ os.length = 0
        · rw [if_pos h, if_pos (by omega)]
        · rw [if_neg h, if_neg (by omega)]
      rw [hpa] at hpt
      have HPT := Lib.hid hpt
      clear hcx hxi hxb hr6 hd6 hpa hpt
      by_cases hz6 : r6 = 0
      · rw [if_pos (.inl hz6)] at HPT
        subst hz6
        go_wp2_with (at_builtin; refine of_stop ?_)
        unfold Stop
        replace HS := Lib.hid (HS.out.new 26 #[.int .u64 (d6 : Int)])
        generalize wr.alloc _ = wa at *
        generalize wr.heap.size = gn at *
        have hc := (HS.out.blk 1 rfl).cell
        refine wpList_append HS.out 0 rfl rfl _ _ 31 rfl rfl rfl rfl (by decide) rfl ⟨gn, 0, none⟩ 1 1 [.int .u64 (d6 : Int)] rfl rfl (by decide) (fun i v hv => by rw [addrP, Nat.zero_add, hc]; simpa using hv) oneP (by simp [uw, pickF_length]; omega) ?_
        intro v' wb hS
        obtain ⟨A2, c2, hv'⟩ := rowR_val (hS.row 0 rfl)
        rw [show (uw (pickF os (nm.take i)) ++ [Value.int .u64 (d6 : Int)]).length = i + 1 by simp [uw, pickF_length]; omega] at hv'
        subst hv'
        have hS1 := hS.take 1
        replace HS := Lib.hid hS1
        clear hS hc hS1 k0
        go_wp2
        exact ⟨⟨i + 1, A2, c2, by omega, by first | rfl | go_num | simp, rfl, by rw [HPT.out]; exact HS.out⟩, by simp [intOf]; omega⟩
      have hz6I : ((r6 : Int) = 0) = False := by rw [eq_iff_iff, iff_false]; omega
      have hz6b : ((r6 : Int) == 0) = false := by rw [beq_eq_false_iff_ne]; omega
      have hz6c : decide ((r6 : Int) = 0) = false := decide_eq_false (by omega)
      have hz6d : decide (r6 = 0) = false := decide_eq_false hz6
      have hz6e : (r6 == 0) = false := by rw [beq_eq_false_iff_ne]; exact hz6
      by_cases hz0 : os.length = 0
      · rw [if_pos (.inr hz0)] at HPT
        obtain rfl : os = [] := List.eq_nil_of_length_eq_zero hz0
        clear hz0 hol
        go_wp2_with (at_builtin; refine of_stop ?_)
        unfold Stop
        replace HS := Lib.hid (HS.out.new 26 #[.int .u64 (d6 : Int)])
        generalize wr.alloc _ = wa at *
        generalize wr.heap.size = gn at *
        have hc := (HS.out.blk 1 rfl).cell
        refine wpList_append HS.out 0 rfl rfl _ _ 31 rfl rfl rfl rfl (by decide) rfl ⟨gn, 0, none⟩ 1 1 [.int .u64 (d6 : Int)] rfl rfl (by decide) (fun i v hv => by rw [addrP, Nat.zero_add, hc]; simpa using hv) oneP (by simp [uw, pickF_length]; omega) ?_
        intro v' wb hS
        obtain ⟨A2, c2, hv'⟩ := rowR_val (hS.row 0 rfl)
        rw [show (uw (pickF ([] : List Ob) (nm.take i)) ++ [Value.int .u64 (d6 : Int)]).length = i + 1 by simp [uw, pickF_length]; omega] at hv'
        subst hv'
        have hS1 := hS.take 1
        replace HS := Lib.hid hS1
        clear hS hc hS1 k0
        go_wp2
        refine ⟨?_, by simp [intOf]; omega⟩
        (repeat apply Exists.intro)
        exact ⟨⟨i + 1, A2, c2, by omega, rfl, rfl, by rw [HPT.out]; exact HS.out⟩, rfl⟩
      rw [if_neg (by omega)] at HPT
      have hz0I : ((os.length : Int) = 0) = False := by rw [eq_iff_iff, iff_false]; omega
      have hz0b : ((os.length : Int) == 0) = false := by rw [beq_eq_false_iff_ne]; omega
      have hz0c : decide ((os.length : Int) = 0) = false := decide_eq_false (by omega)
      have hz0d : decide (os.length = 0) = false := decide_eq_false hz0
      obtain ⟨pj, hpj⟩ : ∃ pj, d6 % os.length = pj := ⟨_, rfl⟩
      have hpl : pj < os.length := by rw [← hpj]; exact Nat.mod_lt _ (by omega)
      have hrm : ((d6 : Int)).tmod (os.length : Int) = (pj : Int) := by rw [tmod_natN, hpj]
      obtain ⟨ob, hob⟩ : ∃ ob, os[pj]? = some ob := ⟨_, List.getElem?_eq_getElem hpl⟩
      rw [hpj, hob] at HPT
      simp only [Option.map_some, Option.getD_some] at HPT
      obtain ⟨g5, off5, hPA, hc5⟩ := HPC.out pj ob hob
      subst hPA
      have k5 := (Ext.mk wr HS.out.keep : Ext w).cell hc5
      simp only at k5
      have hab := HAT.out ob (List.mem_of_getElem? hob)
      obtain ⟨q, hq⟩ : ∃ q, ob.at_ = q := ⟨_, rfl⟩
      rw [hq] at k5 HPT hab
      have hwq : IntKind.u64.wrap (q : Int) = (q : Int) := by rw [IntKind.wrap_u64]; omega
      have hplI : (pj : Int) < (os.length : Int) := by omega
      clear hpj hob hc5 hq
      go_wp2_with (at_builtin; refine of_stop ?_)
      unfold Stop
      replace HS := Lib.hid (HS.out.new 26 #[.int .u64 (q : Int)])
      generalize wr.alloc _ = wa at *
      generalize wr.heap.size = gn at *
      have hc := (HS.out.blk 1 rfl).cell
      refine wpList_append HS.out 0 rfl rfl _ _ 31 rfl rfl rfl rfl (by decide) rfl ⟨gn, 0, none⟩ 1 1 [.int .u64 (q : Int)] rfl rfl (by decide) (fun i v hv => by rw [addrP, Nat.zero_add, hc]; simpa using hv) oneP (by simp [uw, pickF_length]; omega) ?_
      intro v' wb hS
      obtain ⟨A2, c2, hv'⟩ := rowR_val (hS.row 0 rfl)
      rw [show (uw (pickF os (nm.take i)) ++ [Value.int .u64 (q : Int)]).length = i + 1 by simp [uw, pickF_length]; omega] at hv'
      subst hv'
      have hS1 := hS.take 1
      replace HS := Lib.hid hS1
      clear hS hc hS1 k0
      go_wp2
      exact ⟨⟨i + 1, A2, c2, by omega, by first | rfl | go_num | simp, rfl, by rw [HPT.out]; exact HS.out⟩, by simp [intOf]; omega⟩
    · have hltI : ¬ (i : Int) < (nm.length : Int) := by omega
      obtain rfl : i = nm.length := by omega
      rw [List.take_length] at HS
      go_wp2
      go_ret
      exact ⟨_, rfl, HS.out⟩
end Go.Proofs.Ythdiehcmjknhiaa
set_option linter.unusedSimpArgs false
set_option linter.unusedVariables false
set_option maxRecDepth 100000
namespace Go.Proofs.Ythdiehcmjknhiaa
open Go.RowKit Go.Shelf

theorem addrZ (g i : Nat) : (⟨g, 0, none⟩ : Addr).add i = ⟨g, i, none⟩ := by unfold Addr.add; split <;> simp_all
def iw (L : List Int) : List Value := L.map (Value.int .i64)
theorem iw_length (L : List Int) : (iw L).length = L.length := by simp [iw]
theorem iw_snoc (L : List Int) (x : Int) : iw (L ++ [x]) = iw L ++ [.int .i64 x] := by simp [iw]
/-- A row of numbers, as it is read. -/
theorem iw_cells {w : World} {A : Option Addr} {C : Nat} {L : List Int} (h : w.ownsRow 0 3 1 (.slice A L.length C) (iw L).length (iw L)) : ∀ (j : Nat) (x : Int), L[j]? = some x → ∃ g, A = some ⟨g, 0, none⟩ ∧ w.cell? ⟨g, j, none⟩ = some (.int .i64 x) := by
  intro j x hx
  have hj := (List.getElem?_eq_some_iff.1 hx).1
  rcases h.2 with ⟨hv, h0⟩ | ⟨g, cap, cur, hv, _⟩
  · rw [iw_length] at h0; omega
  · injection hv with e1 e2 e3
    refine ⟨g, e1, ?_⟩
    subst e1
    have := h.cells (g := g) rfl j (.int .i64 x) (by simp [iw, hx])
    rwa [addrZ] at this
set_option maxHeartbeats 4000000 in
theorem index_any (A : Option Addr) (C : Nat) (L : List Int) (x : Int) (w : World) (hc : ∀ (j : Nat) (y : Int), L[j]? = some y → ∃ g, A = some ⟨g, 0, none⟩ ∧ w.cell? ⟨g, j, none⟩ = some (.int .i64 y)) (hl : L.length ≤ 1099511627776) :
    Calls Try.prog 71 #[.slice A L.length C, .int .i64 x] w fun e w' => ∃ i : Int, e = .returned (.int .i64 i) ∧ (0 ≤ i ↔ x ∈ L) ∧ Keep w.heap.size [] w w' := by
  have HC := Lib.hid hc
  have hlI : (L.length : Int) ≤ 1099511627776 := by omega
  clear hc
  go_enter Try.func71, Try.ntmps71
  go_wp2_with fail
  go_loopw [8] (fun v wr => ∃ i : Nat, i ≤ L.length ∧ v = .int .i64 (i : Int) ∧ Keep w.heap.size [] w wr ∧ x ∉ L.take i) (fun v _ => L.length - (intOf v).toNat)
  case atStart => exact ⟨0, Nat.zero_le _, rfl, Keep.refl _ _ _, by simp⟩
  case round =>
    obtain ⟨i, hi, rfl, hkr, hni⟩ := hrel
    have HKR := Lib.hid hkr
    have HNI := Lib.hid hni
    clear hni
    by_cases hlt : i < L.length
    · have hltI : (i : Int) < (L.length : Int) := by omega
      obtain ⟨y, hy⟩ : ∃ y, L[i]? = some y := ⟨_, List.getElem?_eq_getElem hlt⟩
      obtain ⟨g, rfl, hg⟩ := HC.out i y hy
      have hg : wr.cell? ⟨g, i, none⟩ = some (.int .i64 y) := (World.cell?_of_block (hkr.block g (World.block_lt_of_cell? w _ hg) (by simp))).trans hg
      have HY := Lib.hid hy
      clear hkr hy
      by_cases hxy : x = y
      · subst hxy
        go_wp2
        go_ret
        exact ⟨(i : Int), rfl, ⟨fun _ => List.mem_of_getElem? HY.out, fun _ => by omega⟩, HKR.out⟩
      · go_wp2
        refine ⟨⟨i + 1, by omega, by first | rfl | go_num | simp, HKR.out, ?_⟩, by simp [intOf]; omega⟩
        rw [List.take_add_one, HY.out]
        intro hm
        rcases List.mem_append.1 hm with hm | hm
        · exact HNI.out hm
        · simp at hm; exact hxy hm
    · obtain rfl : i = L.length := by omega
      go_wp2
      go_ret
      have := HNI.out
      rw [List.take_length] at this
      exact ⟨-1, rfl, ⟨fun h => absurd h (by decide), fun h => absurd h this⟩, HKR.out⟩
set_option maxHeartbeats 4000000 in
theorem contains_any (A : Option Addr) (C : Nat) (L : List Int) (x : Int) (w : World) (hc : ∀ (j : Nat) (y : Int), L[j]? = some y → ∃ g, A = some ⟨g, 0, none⟩ ∧ w.cell? ⟨g, j, none⟩ = some (.int .i64 y)) (hl : L.length ≤ 1099511627776) :
    Calls Try.prog 45 #[.slice A L.length C, .int .i64 x] w fun e w' => e = .returned (.bool (decide (x ∈ L))) ∧ Keep w.heap.size [] w w' := by
  have HI := Lib.hid (fun w h => index_any A C L x w h hl)
  have HC := Lib.hid hc
  clear hc
  by_cases hx : x ∈ L
  · rw [decide_eq_true hx]
    go_enter Try.func45, Try.ntmps45
    go_wp2_with fail
    refine (HI.out _ HC.out).mono ?_
    rintro e w1 ⟨i, rfl, hi, hkk⟩
    have HKK := Lib.hid hkk
    have h0 : 0 ≤ i := hi.2 hx
    have H0 := Lib.hid h0
    clear hi hx hkk HI HC h0
    go_wp2
    go_ret
    have h0 := H0.out
    exact ⟨by simp; omega, HKK.out⟩
  · rw [decide_eq_false hx]
    go_enter Try.func45, Try.ntmps45
    go_wp2_with fail
    refine (HI.out _ HC.out).mono ?_
    rintro e w1 ⟨i, rfl, hi, hkk⟩
    have HKK := Lib.hid hkk
    have h0 : ¬ 0 ≤ i := fun h => hx (hi.1 h)
    have H0 := Lib.hid h0
    clear hi hx hkk HI HC h0
    go_wp2
    go_ret
    have h0 := H0.out
    exact ⟨by simp; omega, HKK.out⟩
/-- What there is at a word, if it is small. -/
theorem of_word {d : DevI} {t : St} {k : Kfg} {a u : Nat} {rv : Value} {x : Int} (hk : k.Ok) (ha : a ≤ 1) (hu : u ≤ k.S) (hr : t.rng) (h0 : 0 ≤ x) (h1 : x ≤ 9223372036854775807) :
    ∃ q1 q2 q3 err, (∀ w, Dev w d t → Calls Try.prog 19 #[.pointer (some ⟨d.b, 0, none⟩), .agg k.cells, .agg (rbC a u rv), .int .i64 x] w fun e w' => e = .returned (ofR q1 q2 q3 err) ∧ Keep w.heap.size [] w w') ∧ (err = 0 ↔ isOb t k a u x = true) := by
  cases hB : hasB k a u x with
  | false => exact ⟨0, 0, 0, 6, fun w hd => of_no d t k a u x rv w hd hk ha hu h1 (.inr hB), ⟨fun h => absurd h (by decide), fun h => by unfold isOb at h; rw [hB] at h; cases h⟩⟩
  | true =>
    obtain ⟨p, rfl⟩ : ∃ p : Nat, x = (p : Int) := ⟨x.toNat, by omega⟩
    have hpi := (hasB_iff k a u p).1 hB
    have hxr := hr.nw p
    rw [isOb_iff hpi.1 hpi.2, decide_eq_true_iff]
    by_cases hg : goodAt t (k.from_ a + u) p
    · exact ⟨_, _, _, 0, fun w hd => of_yes d t k a u p (k.from_ a + u) _ _ _ rv w hd hk ha hu hpi rfl rfl hxr.1 hxr.2 (by rw [← hg.1]) hg.2, ⟨fun _ => hg, fun _ => rfl⟩⟩
    · have hbad : (headOf (t.nw p)).2.2 = false ∨ ((k.from_ a + u : Nat) : Int) - (p : Int) < (headOf (t.nw p)).1 + 1 := by
        unfold goodAt at hg
        cases h : (headOf (t.nw p)).2.2 with
        | false => exact .inl rfl
        | true => exact .inr (by rw [h] at hg; simp only [true_and] at hg; omega)
      exact ⟨0, 0, 0, 8, fun w hd => of_bad d t k a u p (k.from_ a + u) _ _ _ _ rv w hd hk ha hu hpi rfl rfl hxr.1 hxr.2 rfl hbad, ⟨fun h => absurd h (by decide), fun h => absurd h hg⟩⟩
/-- What Reached has. -/
abbrev rchT (d : DevI) (k : Kfg) (a u gd gk gb g9 : Nat) (RA : Option Addr) (RL RC : Nat) (v : Value) (L : List Int) : List Res := [blkR gd 28 #[.pointer (some ⟨d.b, 0, none⟩)], blkR gk 30 #[.int .i64 (k.L : Int), .int .i64 (k.R : Int), .int .i64 (k.S : Int)], blkR gb 33 #[.int .i64 (a : Int), .int .i64 (u : Int), .slice RA RL RC], blkR g9 34 #[v], rowR 3 v (iw L)]

set_option maxRecDepth 100000 in
set_option maxHeartbeats 8000000 in
theorem seeR_any {W : World} {B : List Res} (d : DevI) (t : St) (k : Kfg) (a u gd gk gb g9 : Nat) (RA : Option Addr) (RL RC : Nat) (x : Int) (v : Value) (L : List Int) (w : World) (hk : k.Ok) (ha : a ≤ 1) (hu : u ≤ k.S) (hrg : t.rng) (hx : 0 ≤ x ∧ x ≤ 18446744073709551615)
    (hs : Sep W [] (rchT d k a u gd gk gb g9 RA RL RC v L ++ B) w) (hd : Dev W d t) (hl : L.length ≤ 100000) :
    Calls Try.prog 70 #[.int .u64 x, .pointer (some ⟨g9, 0, none⟩), .pointer (some ⟨gd, 0, none⟩), .pointer (some ⟨gk, 0, none⟩), .pointer (some ⟨gb, 0, none⟩)] w fun e w' => (∃ r, e = .returned r) ∧ (∃ v', Sep W [] (rchT d k a u gd gk gb g9 RA RL RC v' (seeF (isOb t k a u) L x) ++ B) w') := by
  have HS := Lib.hid hs
  have HK := Lib.hid hk
  have HD := Lib.hid hd
  have HX := Lib.hid hx
  have hkS : k.S ≤ 4096 := hk.s1
  have hfw := Kfg.from_words hk (show a ≤ 2 by omega)
  obtain ⟨VA, VC, hvv⟩ := rowR_val (hs.row 4 rfl)
  rw [iw_length] at hvv
  subst hvv
  by_cases hbig : 1099511627776 ≤ x
  · have hno : isOb t k a u x = false := by
      cases h : isOb t k a u x with
      | false => rfl
      | true => obtain ⟨p, rfl, _, h2, _⟩ := isOb_in h; omega
    have HSF := Lib.hid (seeF_no (L := L) hno)
    clear hs hk hd hrg hno hx
    go_enter Try.func70, Try.ntmps70
    go_wp2
    exact bodyPost_ret (results_none rfl _ _ _) rfl ⟨⟨_, rfl⟩, ⟨_, by rw [HSF.out]; exact HS.out⟩⟩
  · have hbigI : ¬ (1099511627776 : Int) ≤ x := hbig
    have hxw : IntKind.i64.wrap x = x := IntWalk.i64_in _ (by omega)
    have hcn := fun w h => contains_any VA VC L x w h (by omega)
    have HCN := Lib.hid hcn
    obtain ⟨q1, q2, q3, err, hof, herr⟩ := of_word (d := d) (rv := .slice RA RL RC) hk ha hu hrg hx.1 (by omega)
    simp only [Kfg.cells, rbC] at hof
    have HOF := Lib.hid hof
    have HERR := Lib.hid herr
    clear hs hk hd hrg hcn hof herr hx
    have v0 := (HS.out.blk 3 rfl).cell 0
    simp at v0
    go_enter Try.func70, Try.ntmps70
    go_wp2_with fail
    refine (HCN.out _ (iw_cells (HS.out.row 4 rfl))).mono ?_
    rintro e w1 ⟨rfl, hkk⟩
    replace HS := Lib.hid (HS.out.grow hkk)
    clear hkk HCN v0
    by_cases hin : x ∈ L
    · have e1 : decide (x ∈ L) = true := decide_eq_true hin
      have HSF := Lib.hid (seeF_old (G := isOb t k a u) hin)
      rw [e1]
      clear hin e1
      go_wp2
      exact bodyPost_ret (results_none rfl _ _ _) rfl ⟨⟨_, rfl⟩, ⟨_, by rw [HSF.out]; exact HS.out⟩⟩
    · have e1 : decide (x ∈ L) = false := decide_eq_false hin
      rw [e1]
      have HIN := Lib.hid hin
      clear hin e1
      have d0 := (HS.out.blk 0 rfl).cell 0
      simp at d0
      have c0 := (HS.out.blk 1 rfl).cell 0
      simp at c0
      have c1 := (HS.out.blk 1 rfl).cell 1
      simp at c1
      have c2 := (HS.out.blk 1 rfl).cell 2
      simp at c2
      have b0 := (HS.out.blk 2 rfl).cell 0
      simp at b0
      have b1 := (HS.out.blk 2 rfl).cell 1
      simp at b1
      have b2 := (HS.out.blk 2 rfl).cell 2
      simp at b2
      go_wp2_with fail
      refine (HOF.out _ (HD.out.of_new HS.out.keep)).mono ?_
      rintro e w2 ⟨rfl, hkk⟩
      replace HS := Lib.hid (HS.out.grow hkk)
      clear hkk HOF d0 c0 c1 c2 b0 b1 b2
      go_upto_region 2 with fail
      replace HS := Lib.hid (HS.out.new 44 #[.int .i64 q1, .int .i64 q2, .int .i64 q3]).init
      generalize w2.alloc _ = w3 at *
      by_cases he0 : err = 0
      · have HSF := Lib.hid (seeF_new (G := isOb t k a u) HIN.out (HERR.out.1 he0))
        subst he0
        have v0 := (HS.out.blk 3 rfl).cell 0
        simp at v0
        go_wp2_with (at_builtin; refine of_stop ?_)
        unfold Stop
        replace HS := Lib.hid (HS.out.new 3 #[.int .i64 x])
        clear v0
        generalize w3.alloc _ = w4 at *
        obtain ⟨gn, hgn⟩ : ∃ gn, w3.heap.size = gn := ⟨_, rfl⟩
        rw [hgn] at HS
        simp only [hgn]
        clear hgn
        have hc := HS.out.last.cell
        refine wpList_append HS.out 4 rfl rfl _ _ 34 rfl rfl rfl rfl (by decide) rfl ⟨gn, 0, none⟩ 1 1 [.int .i64 x] rfl rfl (by decide) (fun i u hu => by rw [addrZ, hc]; simpa using hu) (by intro u hu; simp at hu; subst hu; rfl) (by rw [iw_length]; omega) ?_
        intro v' w5 hS
        obtain ⟨VA2, VC2, hvv⟩ := rowR_val (hS.row 4 rfl)
        rw [show (iw L ++ [Value.int .i64 x]).length = L.length + 1 by simp [iw]] at hvv
        subst hvv
        rw [← iw_snoc] at hS
        replace HS := Lib.hid hS
        clear hS hc
        have v0 := (HS.out.blk 3 rfl).cell 0
        simp at v0
        have z0 := (HS.out.blk 3 rfl).frozen 0
        have hs2 := HS.out.put (i := 3) rfl 0 (.slice VA2 (L.length + 1) VC2)
        have HS2 := Lib.hid hs2
        clear hs2
        go_wp2
        go_end0
        refine ⟨⟨_, rfl⟩, .slice VA2 (L.length + 1) VC2, ?_⟩
        rw [HSF.out]
        exact Sep.init (A := rchT d k a u gd gk gb g9 RA RL RC (.slice VA2 (L.length + 1) VC2) (L ++ [x]) ++ B) HS2.out
      · have HSF := Lib.hid (seeF_no (L := L) (G := isOb t k a u) (x := x) (by cases h : isOb t k a u x with | false => rfl | true => exact absurd (HERR.out.2 h) he0))
        go_wp2
        go_end0
        exact ⟨⟨_, rfl⟩, ⟨_, by rw [HSF.out]; exact HS.out⟩⟩

set_option maxRecDepth 100000 in
set_option maxHeartbeats 8000000 in
theorem reached_any (d : DevI) (t : St) (k : Kfg) (a u : Nat) (RA : Option Addr) (RL RC : Nat) (wv : Value) (ws : List Int) (w : World) (hd : Dev w d t) (hk : k.Ok) (ha : a ≤ 1) (hu : u ≤ k.S) (hrg : t.rng) (hws : ∀ x ∈ ws, 0 ≤ x ∧ x ≤ 18446744073709551615) (hwl : ws.length ≤ 1000000) (hr : Rd w wv (uw ws)) :
    Calls Try.prog 43 #[.pointer (some ⟨d.b, 0, none⟩), .agg k.cells, .agg (rbC a u (.slice RA RL RC)), wv] w fun e w' => ∃ v, e = .returned v ∧ Sep w [] [rowR 3 v (iw (reachF (isOb t k a u) (nmsOf t) ws u))] w' := by
  have hkS : k.S ≤ 4096 := hk.s1
  have hfw := Kfg.from_words hk (a := a) (by omega)
  have hB := fun L h => Fine.le (t := t) (k := k) (a := a) (u := u) L h
  have hsee := fun (B : List Res) gd gk gb g9 x v L w' hx hs hl => seeR_any (W := w) (B := B) d t k a u gd gk gb g9 RA RL RC x v L w' hk ha hu hrg hx hs hd hl
  have hob := fun (x : Int) (hx : isOb t k a u x = true) => show ∃ (p M Bn : Nat), x = (p : Int) ∧ k.from_ a ≤ p ∧ p < k.from_ a + u ∧ M ≤ 64 ∧ Bn ≤ M ∧ refsOf t x = Bn ∧ ∀ w, Dev w d t → Calls Try.prog 19 #[.pointer (some ⟨d.b, 0, none⟩), .agg k.cells, .agg (rbC a u (.slice RA RL RC)), .int .i64 x] w fun e w' => e = .returned (ofR (M : Int) (Bn : Int) (p : Int) 0) ∧ Keep w.heap.size [] w w' from by
    obtain ⟨p, rfl, h1, h2, hg⟩ := isOb_in hx
    have hxr := hrg.nw p
    have hok := headOf_ok (x := t.nw p) hxr.1
    obtain ⟨M, hM⟩ : ∃ M : Nat, (headOf (t.nw p)).1 = (M : Int) := ⟨(headOf (t.nw p)).1.toNat, by have := hok.1; omega⟩
    obtain ⟨Bn, hBn⟩ : ∃ Bn : Nat, (headOf (t.nw p)).2.1 = (Bn : Int) := ⟨(headOf (t.nw p)).2.1.toNat, by have := hok.2.2.1; omega⟩
    rw [hM, hBn] at hok
    refine ⟨p, M, Bn, rfl, h1, h2, by have := hok.2.1; omega, by have := hok.2.2.2; omega, by unfold refsOf; simp [hBn], fun w hd => ?_⟩
    exact of_yes d t k a u p (k.from_ a + u) _ (M : Int) (Bn : Int) (.slice RA RL RC) w hd hk ha hu ⟨h1, h2⟩ rfl rfl hxr.1 hxr.2 (by rw [← hM, ← hBn, ← hg.1]) (by rw [← hM]; exact hg.2)
  obtain ⟨G, hG⟩ : ∃ G, isOb t k a u = G := ⟨_, rfl⟩
  have hfin := fun n (hn : n ≤ u) (hl : (foF G (nmsOf t) ws n).length ≤ n) => show reachF G (nmsOf t) ws u = foF G (nmsOf t) ws n from by
    have := foF_stop hl (u - n)
    rw [show n + (u - n) = u by omega] at this
    exact this
  rw [hG] at hB hob
  simp only [hG] at hsee
  rw [hG]
  obtain ⟨WA, WC, hwv, hwc⟩ := hr.cellAt
  subst hwv
  have HWC := Lib.hid hwc
  have HWS := Lib.hid hws
  have HB := Lib.hid hB
  have HSEE := Lib.hid hsee
  have HOB := Lib.hid hob
  have HFIN := Lib.hid hfin
  have HRG := Lib.hid hrg
  have HD := Lib.hid hd
  simp only [Kfg.cells, rbC]
  have HS := Lib.hid (((Sep.start w []).new 28 #[.pointer (some ⟨d.b, 0, none⟩)]).new 30 #[.int .i64 (k.L : Int), .int .i64 (k.R : Int), .int .i64 (k.S : Int)] |>.new 33 #[.int .i64 (a : Int), .int .i64 (u : Int), .slice RA RL RC])
  simp only [World.size_alloc] at HS
  clear hB hsee hob hfin hG hr hwc hws hd hk hrg
  go_enter Try.func43, Try.ntmps43
  go_upto_region 1 with fail
  generalize ((w.alloc _).alloc _).alloc _ = w1 at *
  generalize w.heap.size = gd at *
  generalize gd + 1 = gk at *
  generalize gk + 1 = gb at *
  go_wp2_with fail
  replace HS := Lib.hid ((HS.out.new 34 #[.slice none 0 0]).nilRow 3)
  generalize w1.alloc _ = w2 at *
  generalize w1.heap.size = g9 at *
  replace HS : Hid (Sep w [] (rchT d k a u gd gk gb g9 RA RL RC (.slice none 0 0) ([]) ++ []) w2) := HS
  go_loopw [12, 21] (fun _ v21 wr => ∃ (i : Nat) (v : Value), i ≤ ws.length ∧ v21 = .int .i64 (i : Int) ∧ Sep w [] (rchT d k a u gd gk gb g9 RA RL RC (v) ((ws.take i).foldl (seeF G) []) ++ []) wr) (fun _ v21 _ => ws.length - (intOf v21).toNat)
  case atStart => exact ⟨0, _, by omega, rfl, HS.out⟩
  case round =>
    clear HS
    obtain ⟨i, v, hi, rfl, hs⟩ := hrel
    have HS := Lib.hid hs
    clear hs
    by_cases hlt : i < ws.length
    · have hltI : (i : Int) < (ws.length : Int) := by omega
      obtain ⟨x, hx⟩ : ∃ x, ws[i]? = some x := ⟨_, List.getElem?_eq_getElem hlt⟩
      have hxw := HWS.out x (List.mem_of_getElem? hx)
      obtain ⟨g, off, hWA, k0⟩ := HWC.out i hlt
      rw [List.getD_eq_getElem?_getD, hx] at k0
      simp only [Option.getD_some] at k0
      subst hWA
      have k1 := (Ext.mk wr HS.out.keep : Ext w).cell k0
      simp only at k1
      have htk : (ws.take (i + 1)).foldl (seeF G) [] = seeF G ((ws.take i).foldl (seeF G) []) x := by rw [List.take_add_one, hx]; simp
      have hfl : ((ws.take i).foldl (seeF G) []).length ≤ 100000 := by have := HB.out _ (Fine.foldl (G := G) (ws.take i) (L := []) ⟨List.nodup_nil, by simp⟩); omega
      have HSE := Lib.hid (HSEE.out [] gd gk gb g9 x v _ wr hxw HS.out hfl)
      rw [← htk] at HSE
      clear hx hxw k0 htk hfl
      go_wp2_with fail
      refine HSE.out.mono ?_
      rintro e wy ⟨⟨r, rfl⟩, v', hs'⟩
      replace HS := Lib.hid hs'
      clear hs' HSE k1
      go_wp2
      exact ⟨⟨i + 1, v', by omega, by first | rfl | go_num | simp, HS.out⟩, by simp [intOf]; omega⟩
    · have hltI : ¬ (i : Int) < (ws.length : Int) := by omega
      obtain rfl : i = ws.length := by omega
      rw [List.take_length] at HS
      clear hlt hltI hi
      go_wp2_with fail
      go_loopw [13, 14, 15, 16, 17] (fun v13 _ _ _ _ wr => ∃ (n : Nat) (v : Value), n ≤ (foF G (nmsOf t) ws n).length ∧ v13 = .int .i64 (n : Int) ∧ Sep w [] (rchT d k a u gd gk gb g9 RA RL RC (v) (foF G (nmsOf t) ws n) ++ []) wr) (fun v13 _ _ _ _ _ => u + 1 - (intOf v13).toNat)
      case atStart => exact ⟨0, v, by omega, rfl, HS.out⟩
      case round =>
        clear HS
        obtain ⟨n, vv, hn, rfl, hs⟩ := hrel
        have HS := Lib.hid hs
        have hlu := HB.out _ (Fine.fo (G := G) (nm := nmsOf t) (ws := ws) n)
        clear hs
        obtain ⟨VA, VC, hvv⟩ := rowR_val (HS.out.row 4 rfl)
        rw [iw_length] at hvv
        subst hvv
        have v0 := (HS.out.blk 3 rfl).cell 0
        simp at v0
        by_cases hlt : n < (foF G (nmsOf t) ws n).length
        · have hltI : (n : Int) < ((foF G (nmsOf t) ws n).length : Int) := by omega
          obtain ⟨x, hx⟩ : ∃ x, (foF G (nmsOf t) ws n)[n]? = some x := ⟨_, List.getElem?_eq_getElem hlt⟩
          have hgx := (Fine.fo (G := G) (nm := nmsOf t) (ws := ws) n).2 x (List.mem_of_getElem? hx)
          obtain ⟨p, M, Bn, rfl, hp1, hp2, hM, hBM, hrf, hof⟩ := HOB.out x hgx
          simp only [Kfg.cells, rbC] at hof
          obtain ⟨g, hVA, hcg⟩ := iw_cells (HS.out.row 4 rfl) n (p : Int) hx
          subst hVA
          have HOF := Lib.hid hof
          have HX := Lib.hid hx
          have HRF := Lib.hid hrf
          clear hof hgx hx hrf
          go_upto_region 11 with fail
          clear v0
          replace HS : Hid (Sep w [] (rchT d k a u gd gk gb g9 RA RL RC (.slice (some ⟨g, 0, none⟩) (foF G (nmsOf t) ws n).length VC) (foF G (nmsOf t) ws n) ++ [noR]) wr) := Lib.hid ((HS.out.take 5).add (Keep.refl _ _ _) (r := noR) trivial (by simp [noR]))
          refine wp_region_st3 (W := w) (S := []) (by kernel_rfl) (by kernel_rfl) (by kernel_rfl) (fun D uu => (rchT d k a u gd gk gb g9 RA RL RC (.slice (some ⟨g, 0, none⟩) (foF G (nmsOf t) ws n).length VC) (foF G (nmsOf t) ws n) ++ [bif D 11 then ptrR (uu 11) 44 (bif D 12 then #[.int .i64 (M : Int), .int .i64 (Bn : Int), .int .i64 (p : Int)] else #[.int .i64 0, .int .i64 0, .int .i64 0]) else noR]))
            (fun j v => match j with
              | 0 => v = .pointer (some ⟨d.b, 0, none⟩)
              | 1 => v = .agg #[.int .i64 (k.L : Int), .int .i64 (k.R : Int), .int .i64 (k.S : Int)]
              | 2 => v = .agg #[.int .i64 (a : Int), .int .i64 (u : Int), .slice RA RL RC]
              | 3 => v = .slice (some ⟨g, 0, none⟩) (foF G (nmsOf t) ws n).length VC
              | 4 => v = .int .i64 (n : Int)
              | 5 => v = .pointer (some ⟨g, n, none⟩)
              | 6 => v = .int .i64 (p : Int)
              | 7 => v = ofR (M : Int) (Bn : Int) (p : Int) 0
              | 8 => v = ofR (M : Int) (Bn : Int) (p : Int) 0
              | 9 => v = .agg #[.int .i64 (M : Int), .int .i64 (Bn : Int), .int .i64 (p : Int)]
              | 10 => v = .int .i64 0
              | 11 => ∃ h, v = .pointer (some ⟨h, 0, none⟩)
              | 13 => v = .int .i64 0
              | _ => True) ?start ?step ?fin
          case start => exact fun u => HS.out
          case step =>
            clear HS
            refine ⟨?_, ?_, ?_, ?_, ?_, ?_, ?_, ?_, ?_, ?_, ?_, ?_, ?_, ?_, trivial⟩
            · intro D uu w' K hD hF hl hS hK
              simp only [puts, Act.put, List.setIfInBounds_toArray, List.set_cons_succ, List.set_cons_zero, Nat.zero_add, Nat.reduceAdd]
              have x0 := (hS.blk 0 rfl).cell 0
              simp at x0
              go_simp
              simp only [yUpon]
              exact hK _ _ rfl hS
            · intro D uu w' K hD hF hl hS hK
              simp only [puts, Act.put, List.setIfInBounds_toArray, List.set_cons_succ, List.set_cons_zero, Nat.zero_add, Nat.reduceAdd]
              have x0 := (hS.blk 1 rfl).cell 0
              have x1 := (hS.blk 1 rfl).cell 1
              have x2 := (hS.blk 1 rfl).cell 2
              simp at x0 x1 x2
              go_simp
              simp only [yUpon]
              exact hK _ _ rfl hS
            · intro D uu w' K hD hF hl hS hK
              simp only [puts, Act.put, List.setIfInBounds_toArray, List.set_cons_succ, List.set_cons_zero, Nat.zero_add, Nat.reduceAdd]
              have x0 := (hS.blk 2 rfl).cell 0
              have x1 := (hS.blk 2 rfl).cell 1
              have x2 := (hS.blk 2 rfl).cell 2
              simp at x0 x1 x2
              go_simp
              simp only [yUpon]
              exact hK _ _ rfl hS
            · intro D uu w' K hD hF hl hS hK
              simp only [puts, Act.put, List.setIfInBounds_toArray, List.set_cons_succ, List.set_cons_zero, Nat.zero_add, Nat.reduceAdd]
              have x0 := (hS.blk 3 rfl).cell 0
              simp at x0
              go_simp
              simp only [yUpon]
              exact hK _ _ rfl hS
            · intro D uu w' K hD hF hl hS hK
              simp only [puts, Act.put, List.setIfInBounds_toArray, List.set_cons_succ, List.set_cons_zero, Nat.zero_add, Nat.reduceAdd]
              go_simp
              simp only [yUpon]
              exact hK _ _ rfl hS
            · intro D uu w' K hD hF hl hS hK
              have f3 := (hF 3 (by kernel_rfl)).2
              simp only at f3
              have f4 := (hF 4 (by kernel_rfl)).2
              simp only at f4
              simp only [puts, Act.put, List.setIfInBounds_toArray, List.set_cons_succ, List.set_cons_zero, Nat.zero_add, Nat.reduceAdd]
              simp only [f3, f4]
              go_simp
              simp only [yUpon]
              exact hK _ _ rfl hS
            · intro D uu w' K hD hF hl hS hK
              have f5 := (hF 5 (by kernel_rfl)).2
              simp only at f5
              simp only [puts, Act.put, List.setIfInBounds_toArray, List.set_cons_succ, List.set_cons_zero, Nat.zero_add, Nat.reduceAdd]
              simp only [f5]
              obtain ⟨g', hg', x6⟩ := iw_cells (hS.row 4 rfl) n (p : Int) HX.out
              cases hg'
              go_simp
              simp only [yUpon]
              exact hK _ _ rfl hS
            · intro D uu w' K hD hF hl hS hK
              have f0 := (hF 0 (by kernel_rfl)).2
              simp only at f0
              have f1 := (hF 1 (by kernel_rfl)).2
              simp only at f1
              have f2 := (hF 2 (by kernel_rfl)).2
              simp only at f2
              have f6 := (hF 6 (by kernel_rfl)).2
              simp only at f6
              simp only [puts, Act.put, List.setIfInBounds_toArray, List.set_cons_succ, List.set_cons_zero, Nat.zero_add, Nat.reduceAdd]
              simp only [f0, f1, f2, f6]
              go_simp
              simp only [yUpon]
              refine (HOF.out _ (HD.out.of_new hS.keep)).mono ?_
              rintro e w1 ⟨rfl, hkk⟩
              exact hK _ _ rfl (hS.grow hkk)
            · intro D uu w' K hD hF hl hS hK
              have f7 := (hF 7 (by kernel_rfl)).2
              simp only at f7
              simp only [puts, Act.put, List.setIfInBounds_toArray, List.set_cons_succ, List.set_cons_zero, Nat.zero_add, Nat.reduceAdd]
              simp only [f7]
              go_simp
              simp only [yUpon]
              exact hK _ _ rfl hS
            · intro D uu w' K hD hF hl hS hK
              have f8 := (hF 8 (by kernel_rfl)).2
              simp only at f8
              simp only [puts, Act.put, List.setIfInBounds_toArray, List.set_cons_succ, List.set_cons_zero, Nat.zero_add, Nat.reduceAdd]
              simp only [f8]
              go_simp
              simp only [yUpon]
              exact hK _ _ rfl hS
            · intro D uu w' K hD hF hl hS hK
              have f8 := (hF 8 (by kernel_rfl)).2
              simp only at f8
              simp only [puts, Act.put, List.setIfInBounds_toArray, List.set_cons_succ, List.set_cons_zero, Nat.zero_add, Nat.reduceAdd]
              simp only [f8]
              go_simp
              simp only [yUpon]
              exact hK _ _ rfl hS
            · intro D uu w' K hD hF hl hS hK
              simp only [puts, Act.put, List.setIfInBounds_toArray, List.set_cons_succ, List.set_cons_zero, Nat.zero_add, Nat.reduceAdd]
              have hlate := hl 12 (by kernel_rfl)
              simp only [hD, cond_false] at hS
              have hs2 := hS.step (i := 5) (r := noR) rfl (w' := w'.alloc (.cells #[.int .i64 0, .int .i64 0, .int .i64 0] 44)) ((Keep.refl _ _ _).alloc (Nat.le_refl _) _) (r' := blkR w'.heap.size 44 #[.int .i64 0, .int .i64 0, .int .i64 0]) (Blk.new _ _ _) (by simp [blkR])
              have e1 : (fset D 11 true) 11 = true := rfl
              have e2 : (fset D 11 true) 12 = false := hlate
              go_simp
              simp only [yUpon]
              refine hK _ _ ⟨_, rfl⟩ ?_
              simp only [e1, e2, cond_true, cond_false]
              exact hs2
            · intro D uu w' K hD hF hl hS hK
              have f9 := (hF 9 (by kernel_rfl)).2
              simp only at f9
              simp only [puts, Act.put, List.setIfInBounds_toArray, List.set_cons_succ, List.set_cons_zero, Nat.zero_add, Nat.reduceAdd]
              simp only [f9]
              obtain ⟨d11, g, hg⟩ := hF 11 (by kernel_rfl)
              simp only [hD, d11, hg, ptrR, cond_false, cond_true] at hS
              have x0 := (hS.blk 5 rfl).cell 0
              have x1 := (hS.blk 5 rfl).cell 1
              have x2 := (hS.blk 5 rfl).cell 2
              simp at x0 x1 x2
              have z0 := (hS.blk 5 rfl).frozen 0
              have z1 := (hS.blk 5 rfl).frozen 1
              have z2 := (hS.blk 5 rfl).frozen 2
              have hput := (((hS.put (i := 5) rfl 0 (.int .i64 (M : Int))).put (i := 5) rfl 1 (.int .i64 (Bn : Int))).put (i := 5) rfl 2 (.int .i64 (p : Int)))
              have e1 : (fset D 12 true) 12 = true := rfl
              have e2 : (fset D 12 true) 11 = true := d11
              simp only [hg]
              go_simp
              simp only [yUpon]
              refine hK _ _ trivial ?_
              simp only [e1, e2, cond_true]
              have e4 : ∀ v, (fset uu 12 v) 11 = .pointer (some ⟨g, 0, none⟩) := fun v => hg
              simp only [e4, ptrR]
              exact hput
            · intro D uu w' K hD hF hl hS hK
              have f10 := (hF 10 (by kernel_rfl)).2
              simp only at f10
              simp only [puts, Act.put, List.setIfInBounds_toArray, List.set_cons_succ, List.set_cons_zero, Nat.zero_add, Nat.reduceAdd]
              simp only [f10]
              go_simp
              simp only [yUpon]
              exact hK _ _ rfl hS
          case fin =>
            clear HS
            intro D uu w5 hall hS
            have f11 := (hall 11 (by simp)).1
            have f12 := (hall 12 (by simp)).1
            obtain ⟨go, v11⟩ := (hall 11 (by simp)).2
            have v13 := (hall 13 (by simp)).2
            simp only at v13
            simp only [f11, f12, v11, ptrR, cond_true] at hS
            have HS := Lib.hid hS
            clear hall hS f11 f12 hcg
            simp only [puts, Act.put, List.setIfInBounds_toArray, List.set_cons_succ, List.set_cons_zero, Nat.zero_add, Nat.reduceAdd]
            simp only [v11, v13]
            clear v11 v13
            have o1 := (HS.out.blk 5 rfl).cell 1
            simp at o1
            go_wp2_with fail
            clear o1
            go_loopw [16, 17, 49] (fun _ _ v49 wr => ∃ (kk : Nat) (v : Value), kk ≤ Bn ∧ v49 = .int .i64 (kk : Int) ∧ Sep w [] (rchT d k a u gd gk gb g9 RA RL RC (v) (((namesTo t p kk).map (·.2)).foldl (seeF G) (foF G (nmsOf t) ws n)) ++ [blkR go 44 #[.int .i64 (M : Int), .int .i64 (Bn : Int), .int .i64 (p : Int)]]) wr) (fun _ _ v49 _ => Bn - (intOf v49).toNat)
            case atStart => exact ⟨0, _, by omega, rfl, HS.out⟩
            case round =>
              clear HS
              obtain ⟨kk, v2, hkk, rfl, hs⟩ := hrel
              have HS := Lib.hid hs
              clear hs
              by_cases hlk : kk < Bn
              · have hlkI : (kk : Int) < (Bn : Int) := by omega
                obtain ⟨Lc, hLc⟩ : ∃ Lc, ((namesTo t p kk).map (·.2)).foldl (seeF G) (foF G (nmsOf t) ws n) = Lc := ⟨_, rfl⟩
                rw [hLc] at HS
                have hpre : foF G (nmsOf t) ws n <+: Lc := by rw [← hLc]; exact foldl_pre _ _
                have hxc : Lc[n]? = some (p : Int) := by
                  obtain ⟨r, hr⟩ := hpre
                  have hn1 := (List.getElem?_eq_some_iff.1 HX.out).1
                  rw [← hr, List.getElem?_append_left hn1]
                  exact HX.out
                have hll : Lc.length ≤ 100000 := by
                  have := HB.out Lc (by rw [← hLc]; exact Fine.foldl _ (Fine.fo (G := G) (nm := nmsOf t) (ws := ws) n))
                  omega
                obtain ⟨VA2, VC2, hvv⟩ := rowR_val (HS.out.row 4 rfl)
                rw [iw_length] at hvv
                subst hvv
                obtain ⟨g2, hVA2, _⟩ := iw_cells (HS.out.row 4 rfl) n (p : Int) hxc
                subst hVA2
                obtain ⟨q, hq⟩ : ∃ q, p + 1 + kk = q := ⟨_, rfl⟩
                obtain ⟨z, hz⟩ : ∃ z, t.nw q = z := ⟨_, rfl⟩
                have hzr := HRG.out.nw q
                rw [hz] at hzr
                have hnl : (n : Int) < (Lc.length : Int) := by have := (List.getElem?_eq_some_iff.1 hxc).1; omega
                have hw1 : IntKind.i64.wrap ((p : Int) + 1) = (p : Int) + 1 := IntWalk.i64_in _ (by omega)
                have hw2 : IntKind.i64.wrap ((p : Int) + 1 + (kk : Int)) = (q : Int) := by rw [IntWalk.i64_in _ (by omega)]; omega
                have HXC := Lib.hid hxc
                have HLC := Lib.hid hLc
                have HZ := Lib.hid hz
                have HQ := Lib.hid hq
                have HSE := Lib.hid (fun w' hs => HSEE.out [blkR go 44 #[.int .i64 (M : Int), .int .i64 (Bn : Int), .int .i64 (p : Int)]] gd gk gb g9 z (.slice (some ⟨g2, 0, none⟩) Lc.length VC2) Lc w' hzr hs hll)
                clear hpre hxc hLc hz hq hll hzr
                go_upto_region 15 with fail
                refine wp_region_st3 (W := w) (S := []) (by kernel_rfl) (by kernel_rfl) (by kernel_rfl) (fun D uu => (rchT d k a u gd gk gb g9 RA RL RC (.slice (some ⟨g2, 0, none⟩) Lc.length VC2) (Lc) ++ [blkR go 44 #[.int .i64 (M : Int), .int .i64 (Bn : Int), .int .i64 (p : Int)]]))
                  (fun j v => match j with
                    | 0 => v = .pointer (some ⟨d.b, 0, none⟩)
                    | 1 => v = .slice (some ⟨g2, 0, none⟩) Lc.length VC2
                    | 2 => v = .int .i64 (n : Int)
                    | 3 => v = .pointer (some ⟨g2, n, none⟩)
                    | 4 => v = .int .i64 (p : Int)
                    | 5 => v = .int .i64 ((p : Int) + 1)
                    | 6 => v = .int .i64 (kk : Int)
                    | 7 => v = .int .i64 (q : Int)
                    | 8 => v = .int .u64 z
                    | 9 => v = .int .u64 z
                    | _ => True) ?start ?step ?fin
                case start => exact fun u => HS.out
                case step =>
                  clear HS
                  refine ⟨?_, ?_, ?_, ?_, ?_, ?_, ?_, ?_, ?_, ?_, trivial⟩
                  · intro D uu w' K hD hF hl hS hK
                    simp only [puts, Act.put, List.setIfInBounds_toArray, List.set_cons_succ, List.set_cons_zero, Nat.zero_add, Nat.reduceAdd]
                    have x0 := (hS.blk 0 rfl).cell 0
                    simp at x0
                    go_simp
                    simp only [yUpon]
                    exact hK _ _ rfl hS
                  · intro D uu w' K hD hF hl hS hK
                    simp only [puts, Act.put, List.setIfInBounds_toArray, List.set_cons_succ, List.set_cons_zero, Nat.zero_add, Nat.reduceAdd]
                    have x0 := (hS.blk 3 rfl).cell 0
                    simp at x0
                    go_simp
                    simp only [yUpon]
                    exact hK _ _ rfl hS
                  · intro D uu w' K hD hF hl hS hK
                    simp only [puts, Act.put, List.setIfInBounds_toArray, List.set_cons_succ, List.set_cons_zero, Nat.zero_add, Nat.reduceAdd]
                    go_simp
                    simp only [yUpon]
                    exact hK _ _ rfl hS
                  · intro D uu w' K hD hF hl hS hK
                    have f1 := (hF 1 (by kernel_rfl)).2
                    simp only at f1
                    have f2 := (hF 2 (by kernel_rfl)).2
                    simp only at f2
                    simp only [puts, Act.put, List.setIfInBounds_toArray, List.set_cons_succ, List.set_cons_zero, Nat.zero_add, Nat.reduceAdd]
                    simp only [f1, f2]
                    go_simp
                    simp only [yUpon]
                    exact hK _ _ rfl hS
                  · intro D uu w' K hD hF hl hS hK
                    have f3 := (hF 3 (by kernel_rfl)).2
                    simp only at f3
                    simp only [puts, Act.put, List.setIfInBounds_toArray, List.set_cons_succ, List.set_cons_zero, Nat.zero_add, Nat.reduceAdd]
                    simp only [f3]
                    obtain ⟨g', hg', x6⟩ := iw_cells (hS.row 4 rfl) n (p : Int) HXC.out
                    cases hg'
                    go_simp
                    simp only [yUpon]
                    exact hK _ _ rfl hS
                  · intro D uu w' K hD hF hl hS hK
                    have f4 := (hF 4 (by kernel_rfl)).2
                    simp only at f4
                    simp only [puts, Act.put, List.setIfInBounds_toArray, List.set_cons_succ, List.set_cons_zero, Nat.zero_add, Nat.reduceAdd]
                    simp only [f4]
                    go_simp
                    simp only [yUpon]
                    exact hK _ _ rfl hS
                  · intro D uu w' K hD hF hl hS hK
                    simp only [puts, Act.put, List.setIfInBounds_toArray, List.set_cons_succ, List.set_cons_zero, Nat.zero_add, Nat.reduceAdd]
                    go_simp
                    simp only [yUpon]
                    exact hK _ _ rfl hS
                  · intro D uu w' K hD hF hl hS hK
                    have f5 := (hF 5 (by kernel_rfl)).2
                    simp only at f5
                    have f6 := (hF 6 (by kernel_rfl)).2
                    simp only at f6
                    simp only [puts, Act.put, List.setIfInBounds_toArray, List.set_cons_succ, List.set_cons_zero, Nat.zero_add, Nat.reduceAdd]
                    simp only [f5, f6]
                    go_simp
                    simp only [yUpon]
                    exact hK _ _ rfl hS
                  · intro D uu w' K hD hF hl hS hK
                    have f0 := (hF 0 (by kernel_rfl)).2
                    simp only at f0
                    have f7 := (hF 7 (by kernel_rfl)).2
                    simp only at f7
                    simp only [puts, Act.put, List.setIfInBounds_toArray, List.set_cons_succ, List.set_cons_zero, Nat.zero_add, Nat.reduceAdd]
                    simp only [f0, f7]
                    go_simp
                    simp only [yUpon]
                    refine (load_is d t q z _ (HD.out.of_new hS.keep) HZ.out).mono ?_
                    rintro e w1 ⟨rfl, rfl⟩
                    exact hK _ _ rfl hS
                  · intro D uu w' K hD hF hl hS hK
                    have f8 := (hF 8 (by kernel_rfl)).2
                    simp only at f8
                    simp only [puts, Act.put, List.setIfInBounds_toArray, List.set_cons_succ, List.set_cons_zero, Nat.zero_add, Nat.reduceAdd]
                    simp only [f8]
                    go_simp
                    simp only [yUpon]
                    exact hK _ _ rfl hS
                case fin =>
                  clear HS
                  intro D uu wf hall hS
                  have v9 := (hall 9 (by simp)).2
                  simp only at v9
                  have HS := Lib.hid hS
                  clear hall hS
                  simp only [puts, Act.put, List.setIfInBounds_toArray, List.set_cons_succ, List.set_cons_zero, Nat.zero_add, Nat.reduceAdd]
                  simp only [v9]
                  clear v9 hw1 hw2 hnl
                  by_cases hz0 : z = 0
                  · subst hz0
                    have hnz := namesTo_zero (t := t) (at_ := p) (i := kk) (by rw [HQ.out]; exact HZ.out)
                    have HNZ := Lib.hid hnz
                    clear hnz
                    go_wp2
                    exact ⟨⟨kk + 1, _, by omega, by first | rfl | go_num | simp, by rw [HNZ.out, HLC.out]; exact HS.out⟩, by simp [intOf]; omega⟩
                  · have hnz : ((namesTo t p (kk + 1)).map (·.2)).foldl (seeF G) (foF G (nmsOf t) ws n) = seeF G Lc z := by
                      simp only [namesTo]
                      rw [HQ.out, HZ.out, if_neg hz0, List.map_append, List.foldl_append, HLC.out]
                      rfl
                    have HNZ := Lib.hid hnz
                    clear hnz
                    go_wp2_with fail
                    refine (HSE.out _ HS.out).mono ?_
                    rintro e wy ⟨⟨r, rfl⟩, v', hs'⟩
                    replace HS := Lib.hid hs'
                    clear hs' HSE
                    go_wp2
                    exact ⟨⟨kk + 1, v', by omega, by first | rfl | go_num | simp, by rw [HNZ.out]; exact HS.out⟩, by simp [intOf]; omega⟩
              · have hlkI : ¬ (kk : Int) < (Bn : Int) := by omega
                obtain rfl : kk = Bn := by omega
                have hfo : foF G (nmsOf t) ws (n + 1) = ((namesTo t p kk).map (·.2)).foldl (seeF G) (foF G (nmsOf t) ws n) := by
                  simp only [foF]
                  rw [HX.out]
                  show (nmsOf t (p : Int)).foldl _ _ = _
                  unfold nmsOf
                  rw [HRF.out]
                  simp
                have hn2 : n + 1 ≤ (foF G (nmsOf t) ws (n + 1)).length := by
                  have := (foF_pre (G := G) (nm := nmsOf t) (ws := ws) n).length_le
                  have := (List.getElem?_eq_some_iff.1 HX.out).1
                  omega
                rw [← hfo] at HS
                have HN2 := Lib.hid hn2
                clear hfo hn2
                go_wp2
                exact ⟨⟨n + 1, v2, HN2.out, by first | rfl | go_num | simp, HS.out.take 5⟩, by simp [intOf]; omega⟩
        · have hltI : ¬ (n : Int) < ((foF G (nmsOf t) ws n).length : Int) := by omega
          have HF := Lib.hid (HFIN.out n (by omega) (by omega))
          go_wp2
          go_ret
          exact ⟨_, rfl, by rw [HF.out]; exact HS.out.dropN 4⟩
end Go.Proofs.Ythdiehcmjknhiaa
