/-
  RootsWrites: the walk.
-/
import Derived.Deep.CutRange
import Derived.Test.YtaophnicdbmojaaAwk8
import Derived.Test.YtaophnicdbmojaaOnes
import Derived.Test.YtaophnicdbmojaaWords7
import Derived.Test.YtaophnicdbmojaaFill
set_option linter.unusedSimpArgs false
set_option linter.unusedVariables false
set_option maxRecDepth 100000
namespace Go.Proofs.Ytaophnicdbmojaa
open Go.RowKit Go.Shelf

theorem tmod_w (a n : Nat) : ((a : Int)).tmod (n : Int) = ((a % n : Nat) : Int) := by
  rw [Int.tmod_eq_emod_of_nonneg (by omega)]; simp
theorem bit1n (x : Int) (h0 : 0 ≤ x) (h1 : x ≤ 255) : ∃ a : Nat, bits .and .u8 x 1 = (a : Int) ∧ a ≤ 1 := by
  have hw : ∀ n : Int, 0 ≤ n → n < 2 ^ 8 → IntKind.u8.wrap n = n := fun n h0 h1 => by rw [IntKind.wrap_u8]; omega
  have h := bits_mask .u8 8 (by decide) hw 1 (by decide) x h0 (by omega)
  have h2 : bits .and .u8 x 1 = x % 2 := by simpa using h
  exact ⟨(x % 2).toNat, by rw [h2]; omega, by omega⟩
def rsI (xs : List Int) (i : Nat) : List Int := (List.range i).map fun j => xs.getD j 0
theorem rsI_succ (xs : List Int) (i : Nat) : rsI xs (i + 1) = rsI xs i ++ [xs.getD i 0] := by simp [rsI, List.range_succ]
theorem rsI_length (xs : List Int) (i : Nat) : (rsI xs i).length = i := by simp [rsI]
theorem uw_snoc (xs : List Int) (x : Int) : uw (xs ++ [x]) = uw xs ++ [.int .u64 x] := by simp [uw]
theorem addrW (g off i : Nat) : (⟨g, off, none⟩ : Addr).add i = ⟨g, off + i, none⟩ := by unfold Addr.add; split <;> simp_all
theorem oneI {x : Int} : ∀ u ∈ [Value.int .u64 x], u.oneCell' = true := by intro u hu; simp at hu; subst hu; rfl
theorem uw_getW (xs : List Int) (ex : List Value) (q : Nat) (hq : q < xs.length) : (uw xs ++ ex).toArray[q]? = some (.int .u64 (xs.getD q 0)) := by
  simp [uw, List.getElem?_append, hq]
/-- How the first loop asks. -/
def codeOf (t : St) (na : Nat) (ws : List Int) (z i : Nat) : Int := if z ≤ (dif t na ws i).length then 3 else 0

set_option maxRecDepth 100000 in
set_option maxHeartbeats 8000000 in
theorem RootsWrites.core (l r s : Int) (v1 : Value) (xs1 : List Int) (v2 : Value) (xs2 : List Int) (a3 a4 x5 y5 : Int) (w : World) (l0 : 0 ≤ l) (l1 : l ≤ 65535) (r0 : 0 ≤ r) (r1 : r ≤ 65535) (s0 : 0 ≤ s) (s1 : s ≤ 65535) (hr1 : Rd w v1 (uw xs1)) (hn1 : xs1.length ≤ maxLen) (hr2 : Rd w v2 (uw xs2)) (hn2 : xs2.length ≤ maxLen) (a30 : 0 ≤ a3) (a31 : a3 ≤ 255) (a40 : 0 ≤ a4) (a41 : a4 ≤ 255) (x50 : 0 ≤ x5) (x51 : x5 ≤ 65535) (y50 : 0 ≤ y5) (y51 : y5 ≤ 65535) :
    Calls Try.prog 7 #[.agg #[.int .u16 l, .int .u16 r, .int .u16 s], v1, v2, .int .u8 a3, .int .u8 a4, .agg #[.int .u16 x5, .int .u16 y5]] w fun e w' => e = .returned (.bool true) ∧ Keep w.heap.size [] w w' := by
  simp only [maxLen] at hn1 hn2
  obtain ⟨q4, rfl⟩ : ∃ q4 : Nat, a4 = (q4 : Int) := ⟨a4.toNat, by omega⟩
  obtain ⟨n5, rfl⟩ : ∃ n5 : Nat, x5 = (n5 : Int) := ⟨x5.toNat, by omega⟩
  obtain ⟨m5, rfl⟩ : ∃ m5 : Nat, y5 = (m5 : Int) := ⟨y5.toNat, by omega⟩
  obtain ⟨A1, C1, rfl, hc1⟩ := hr1.cellAt
  obtain ⟨A2, C2, rfl, hc2⟩ := hr2.cellAt
  have HC1 := Lib.hid hc1
  have HC2 := Lib.hid hc2
  clear hr1 hr2 hc1 hc2
  obtain ⟨e0, he0, he01⟩ := bit1n a3 a30 a31
  obtain ⟨e1, he1, he11⟩ := bit1n (a3 / 2) (by omega) (by omega)
  have hwe0 : IntKind.u64.wrap (e0 : Int) = (e0 : Int) := by rw [IntKind.wrap_u64]; omega
  have hwe1 : IntKind.i64.wrap (e1 : Int) = (e1 : Int) := IntWalk.i64_in _ (by omega)
  have hwe2 : IntKind.u64.wrap (e1 : Int) = (e1 : Int) := by rw [IntKind.wrap_u64]; omega
  have hwn5 : IntKind.i64.wrap (n5 : Int) = (n5 : Int) := IntWalk.i64_in _ (by omega)
  have hwm5 : IntKind.i64.wrap (m5 : Int) = (m5 : Int) := IntWalk.i64_in _ (by omega)
  have HS := Lib.hid ((((Sep.start w []).new 24 #[.int .u16 l, .int .u16 r, .int .u16 s]).new 5 #[.int .u8 (q4 : Int)]).new 51 #[.int .u16 (n5 : Int), .int .u16 (m5 : Int)])
  simp only [World.size_alloc] at HS
  obtain ⟨hk, hkL, hkR, hkS⟩ := kOf_ok (l := l) (r := r) (s := s) l0 r0 s0
  have hmk := fun w => kmake_of l r s w l0 l1 r0 r1 s0 s1
  generalize kOf l r s = k at *
  have HMK := Lib.hid hmk
  have HK := Lib.hid hk
  have hkR0 : 1 ≤ k.R := hk.r0
  have hw2 : k.words ≤ 10000 := (Kfg.words_le hk).2
  have hw1 : k.act + 2 + k.R ≤ k.words := (Kfg.words_le hk).1
  clear hmk hk
  go_enter Try.func7, Try.ntmps7
  go_wp2_with fail
  generalize ((w.alloc _).alloc _).alloc _ = w2 at *
  generalize w.heap.size = gx at *
  generalize gx + 1 = gs at *
  generalize gs + 1 = ga at *
  refine (awake8_any _).mono ?_
  rintro e w1 ⟨rfl, hk⟩
  replace HS := Lib.hid (HS.out.grow hk)
  clear hk
  by_cases hb1 : 20 < xs1.length
  · have hbI : (20 : Int) < xs1.length := by omega
    go_wp2
    go_ret
    exact ⟨rfl, HS.out.keep⟩
  have hx2 : ((20 : Int) < xs1.length) = False := by rw [eq_iff_iff, iff_false]; omega
  have hx3 : (20 < xs1.length) = False := by rw [eq_iff_iff, iff_false]; omega
  by_cases hb2 : 20 < xs2.length
  · have hbI : (20 : Int) < xs2.length := by omega
    go_wp2
    go_ret
    exact ⟨rfl, HS.out.keep⟩
  have hx4 : ((20 : Int) < xs2.length) = False := by rw [eq_iff_iff, iff_false]; omega
  have hx5 : (20 < xs2.length) = False := by rw [eq_iff_iff, iff_false]; omega
  have c0 := (HS.out.blk 0 rfl).cell 0
  simp at c0
  have c1 := (HS.out.blk 0 rfl).cell 1
  simp at c1
  have c2 := (HS.out.blk 0 rfl).cell 2
  simp at c2
  go_wp2_with fail
  refine (HMK.out _).mono ?_
  rintro e w3 ⟨rfl, hkk⟩
  simp only [Kfg.cells]
  replace HS := Lib.hid ((HS.out.grow hkk).new 29 #[.int .i64 (k.L : Int), .int .i64 (k.R : Int), .int .i64 (k.S : Int)])
  clear hkk c0 c1 c2 HMK
  go_wp2_with fail
  generalize w3.alloc _ = w4 at *
  generalize w3.heap.size = gk at *
  refine (formatted_any k _ [] _ HK.out (rd_nil6 _ 0) (by decide)).mono ?_
  rintro e w5 ⟨d, rfl, hdb, hd, hkk⟩
  obtain ⟨s5, hs5⟩ : ∃ s5, s5 = (St.fresh (-1) 0 (fill [] k.words)).run (fmtOps k) := ⟨_, rfl⟩
  rw [← hs5] at hd
  have hI : s5.Is k.words := by rw [hs5]; exact (fresh_fill [] k).run _
  have hl5 : s5.l < 0 := by rw [hs5, St.run_l]; show (-1 : Int) < 0; decide
  replace HS := Lib.hid (HS.out.add hkk (r := devR d s5) hd hdb)
  have HI := Lib.hid hI
  have HLM := Lib.hid hl5
  clear hdb hd hkk hs5 hI hl5 hx2 hx3 hx4 hx5
  obtain ⟨na, hna⟩ : ∃ na, k.act = na := ⟨_, rfl⟩
  obtain ⟨nw, hnw⟩ : ∃ nw, k.words = nw := ⟨_, rfl⟩
  have hka := fun w => kactive k w HK.out
  have hku := fun w => kused k w HK.out
  have hkr := fun i m w hi hm => kroot_eq k w HK.out i m hi hm
  rw [hna] at hka hku hw1
  simp only [hna] at hkr
  rw [hnw] at hw1 hw2 HI
  simp only [Kfg.cells] at hka hku hkr
  have HKA := Lib.hid hka
  have HKU := Lib.hid hku
  have HKR := Lib.hid hkr
  have HNA := Lib.hid hna
  have HNW := Lib.hid hnw
  obtain ⟨u0, hu0⟩ : ∃ u0, n5 % (k.S + 1) = u0 := ⟨_, rfl⟩
  obtain ⟨u1, hu1⟩ : ∃ u1, m5 % (k.S + 1) = u1 := ⟨_, rfl⟩
  have hu0S : u0 ≤ k.S := by have := Nat.mod_lt n5 (show 0 < k.S + 1 by omega); omega
  have hu1S : u1 ≤ k.S := by have := Nat.mod_lt m5 (show 0 < k.S + 1 by omega); omega
  obtain ⟨S1, hS1⟩ : ∃ S1, k.S + 1 = S1 := ⟨_, rfl⟩
  have hS1w : IntKind.i64.wrap ((k.S : Int) + 1) = (S1 : Int) := by rw [IntWalk.i64_in _ (by omega)]; omega
  have hr0 : ((n5 : Int)).tmod (S1 : Int) = (u0 : Int) := by rw [tmod_w, ← hS1, hu0]
  have hr1 : ((m5 : Int)).tmod (S1 : Int) = (u1 : Int) := by rw [tmod_w, ← hS1, hu1]
  have hz1 : ((S1 : Int) = 0) = False := by rw [eq_iff_iff, iff_false]; omega
  have hz2 : (S1 = 0) = False := by rw [eq_iff_iff, iff_false]; omega
  have hwu0 : IntKind.u64.wrap (u0 : Int) = (u0 : Int) := by rw [IntKind.wrap_u64]; omega
  have hwu1 : IntKind.u64.wrap (u1 : Int) = (u1 : Int) := by rw [IntKind.wrap_u64]; omega
  clear hna hnw hka hku hkr hu0 hu1 hS1
  replace HS : Hid (Sep w [] [blkR gx 24 #[.int .u16 l, .int .u16 r, .int .u16 s], blkR gs 5 #[.int .u8 (q4 : Int)], blkR ga 51 #[.int .u16 (n5 : Int), .int .u16 (m5 : Int)], blkR gk 29 #[.int .i64 (k.L : Int), .int .i64 (k.R : Int), .int .i64 (k.S : Int)], devR d (s5)] w5) := HS
  have c0 := (HS.out.blk 3 rfl).cell 0
  simp at c0
  have c1 := (HS.out.blk 3 rfl).cell 1
  simp at c1
  have c2 := (HS.out.blk 3 rfl).cell 2
  simp at c2
  go_wp2_with fail
  refine (HKA.out _).mono ?_
  rintro e w6 ⟨rfl, hkk⟩
  replace HS := Lib.hid (HS.out.grow hkk)
  clear hkk c0 c1 c2
  go_wp2_with fail
  refine (store_free d s5 na (e0 : Int) _ (HS.out.dev 4 rfl) HLM.out (by rw [HI.out.now]; omega)).mono ?_
  rintro e w7 ⟨rfl, hd, hkk⟩
  replace HS := Lib.hid (HS.out.did (i := 4) rfl hd hkk)
  have hi2 : (s5.store na (e0 : Int)).Is nw := HI.out.store _ _
  have hl2 : (s5.store na (e0 : Int)).l < 0 := HLM.out
  generalize s5.store na (e0 : Int) = s6 at *
  replace HI := Lib.hid hi2
  replace HLM := Lib.hid hl2
  clear hd hkk hi2 hl2
  replace HS : Hid (Sep w [] [blkR gx 24 #[.int .u16 l, .int .u16 r, .int .u16 s], blkR gs 5 #[.int .u8 (q4 : Int)], blkR ga 51 #[.int .u16 (n5 : Int), .int .u16 (m5 : Int)], blkR gk 29 #[.int .i64 (k.L : Int), .int .i64 (k.R : Int), .int .i64 (k.S : Int)], devR d (s6)] w7) := HS
  go_upto_region 10 with fail
  refine wp_region_st3 (W := w) (S := []) (by kernel_rfl) (by kernel_rfl) (by kernel_rfl) (fun D uu => [blkR gx 24 #[.int .u16 l, .int .u16 r, .int .u16 s], blkR gs 5 #[.int .u8 (q4 : Int)], blkR ga 51 #[.int .u16 (n5 : Int), .int .u16 (m5 : Int)], blkR gk 29 #[.int .i64 (k.L : Int), .int .i64 (k.R : Int), .int .i64 (k.S : Int)], devR d (bif D 11 then s6.store (na + 1) (u0 : Int) else s6)])
    (fun j v => match j with
      | 0 => v = .pointer (some ⟨d.b, 0, none⟩)
      | 1 => v = .agg #[.int .i64 (k.L : Int), .int .i64 (k.R : Int), .int .i64 (k.S : Int)]
      | 2 => v = .int .i64 ((na + 1 : Nat) : Int)
      | 3 => v = .pointer (some ⟨ga, 0, none⟩)
      | 4 => v = .int .u16 (n5 : Int)
      | 5 => v = .int .i64 (n5 : Int)
      | 6 => v = .pointer (some ⟨gk, 2, none⟩)
      | 7 => v = .int .i64 (k.S : Int)
      | 8 => v = .int .i64 (S1 : Int)
      | 9 => v = .int .i64 (u0 : Int)
      | 10 => v = .int .u64 (u0 : Int)
      | _ => True) ?start ?step ?fin
  case start => exact fun u => HS.out
  case step =>
    clear HS
    refine ⟨?_, ?_, ?_, ?_, ?_, ?_, ?_, ?_, ?_, ?_, ?_, ?_, trivial⟩
    · intro D uu w' K hD hF hl hS hK
      simp only [puts, Act.put, List.setIfInBounds_toArray, List.set_cons_succ, List.set_cons_zero, Nat.zero_add, Nat.reduceAdd]
      go_simp
      simp only [yUpon]
      exact hK _ _ rfl hS
    · intro D uu w' K hD hF hl hS hK
      simp only [puts, Act.put, List.setIfInBounds_toArray, List.set_cons_succ, List.set_cons_zero, Nat.zero_add, Nat.reduceAdd]
      have x0 := (hS.blk 3 rfl).cell 0
      have x1 := (hS.blk 3 rfl).cell 1
      have x2 := (hS.blk 3 rfl).cell 2
      simp at x0 x1 x2
      go_simp
      simp only [yUpon]
      exact hK _ _ rfl hS
    · intro D uu w' K hD hF hl hS hK
      have f1 := (hF 1 (by kernel_rfl)).2
      simp only at f1
      simp only [puts, Act.put, List.setIfInBounds_toArray, List.set_cons_succ, List.set_cons_zero, Nat.zero_add, Nat.reduceAdd]
      simp only [f1]
      go_simp
      simp only [yUpon]
      refine (HKU.out _).mono ?_
      rintro e w1 ⟨rfl, hkk⟩
      exact hK _ _ rfl (hS.grow hkk)
    · intro D uu w' K hD hF hl hS hK
      simp only [puts, Act.put, List.setIfInBounds_toArray, List.set_cons_succ, List.set_cons_zero, Nat.zero_add, Nat.reduceAdd]
      go_simp
      simp only [yUpon]
      exact hK _ _ rfl hS
    · intro D uu w' K hD hF hl hS hK
      have f3 := (hF 3 (by kernel_rfl)).2
      simp only at f3
      simp only [puts, Act.put, List.setIfInBounds_toArray, List.set_cons_succ, List.set_cons_zero, Nat.zero_add, Nat.reduceAdd]
      simp only [f3]
      have x0 := (hS.blk 2 rfl).cell 0
      simp at x0
      go_simp
      simp only [yUpon]
      exact hK _ _ rfl hS
    · intro D uu w' K hD hF hl hS hK
      have f4 := (hF 4 (by kernel_rfl)).2
      simp only at f4
      simp only [puts, Act.put, List.setIfInBounds_toArray, List.set_cons_succ, List.set_cons_zero, Nat.zero_add, Nat.reduceAdd]
      simp only [f4]
      go_simp
      simp only [yUpon]
      exact hK _ _ rfl hS
    · intro D uu w' K hD hF hl hS hK
      simp only [puts, Act.put, List.setIfInBounds_toArray, List.set_cons_succ, List.set_cons_zero, Nat.zero_add, Nat.reduceAdd]
      go_simp
      simp only [yUpon]
      exact hK _ _ rfl hS
    · intro D uu w' K hD hF hl hS hK
      have f6 := (hF 6 (by kernel_rfl)).2
      simp only at f6
      simp only [puts, Act.put, List.setIfInBounds_toArray, List.set_cons_succ, List.set_cons_zero, Nat.zero_add, Nat.reduceAdd]
      simp only [f6]
      have x2 := (hS.blk 3 rfl).cell 2
      simp at x2
      go_simp
      simp only [yUpon]
      exact hK _ _ rfl hS
    · intro D uu w' K hD hF hl hS hK
      have f7 := (hF 7 (by kernel_rfl)).2
      simp only at f7
      simp only [puts, Act.put, List.setIfInBounds_toArray, List.set_cons_succ, List.set_cons_zero, Nat.zero_add, Nat.reduceAdd]
      simp only [f7]
      go_simp
      simp only [yUpon]
      exact hK _ _ rfl hS
    · intro D uu w' K hD hF hl hS hK
      have f5 := (hF 5 (by kernel_rfl)).2
      simp only at f5
      have f8 := (hF 8 (by kernel_rfl)).2
      simp only at f8
      simp only [puts, Act.put, List.setIfInBounds_toArray, List.set_cons_succ, List.set_cons_zero, Nat.zero_add, Nat.reduceAdd]
      simp only [f5, f8]
      go_simp
      simp only [yUpon]
      exact hK _ _ rfl hS
    · intro D uu w' K hD hF hl hS hK
      have f9 := (hF 9 (by kernel_rfl)).2
      simp only at f9
      simp only [puts, Act.put, List.setIfInBounds_toArray, List.set_cons_succ, List.set_cons_zero, Nat.zero_add, Nat.reduceAdd]
      simp only [f9]
      go_simp
      simp only [yUpon]
      exact hK _ _ rfl hS
    · intro D uu w' K hD hF hl hS hK
      have f0 := (hF 0 (by kernel_rfl)).2
      simp only at f0
      have f2 := (hF 2 (by kernel_rfl)).2
      simp only at f2
      have f10 := (hF 10 (by kernel_rfl)).2
      simp only at f10
      simp only [puts, Act.put, List.setIfInBounds_toArray, List.set_cons_succ, List.set_cons_zero, Nat.zero_add, Nat.reduceAdd]
      simp only [f0, f2, f10]
      simp only [hD, cond_false] at hS
      have e1 : (fset D 11 true) 11 = true := rfl
      go_simp
      simp only [yUpon]
      refine (store_free d s6 (na + 1) (u0 : Int) _ (hS.dev 4 rfl) HLM.out (by rw [HI.out.now]; omega)).mono ?_
      rintro e w1 ⟨rfl, hd, hkk⟩
      refine hK _ _ trivial ?_
      simp only [e1, cond_true]
      exact hS.did (i := 4) rfl hd hkk
  case fin =>
    clear HS
    intro D uu wf hall hS
    have f11 := (hall 11 (by simp)).1
    simp only [f11, cond_true] at hS
    have HS := Lib.hid hS
    clear hall hS f11
    simp only [puts, Act.put, List.setIfInBounds_toArray, List.set_cons_succ, List.set_cons_zero, Nat.zero_add, Nat.reduceAdd]
    have hi2 : (s6.store (na + 1) (u0 : Int)).Is nw := HI.out.store _ _
    have hl2 : (s6.store (na + 1) (u0 : Int)).l < 0 := HLM.out
    generalize s6.store (na + 1) (u0 : Int) = s7 at *
    replace HI := Lib.hid hi2
    replace HLM := Lib.hid hl2
    clear hi2 hl2 s6 s5
    have c2 := (HS.out.blk 3 rfl).cell 2
    simp at c2
    have y1 := (HS.out.blk 2 rfl).cell 1
    simp at y1
    go_upto_region 12 with fail
    replace HS := Lib.hid (HS.out.new 39 #[.int .i64 (e1 : Int), .int .i64 (u1 : Int), .slice none 0 0])
    generalize wf.alloc _ = w8 at *
    generalize wf.heap.size = gb at *
    clear c2 y1
    have b0 := (HS.out.blk 5 rfl).cell 0
    simp at b0
    have b1 := (HS.out.blk 5 rfl).cell 1
    simp at b1
    go_upto_region 13 with fail
    replace HS := Lib.hid ((HS.out.add ((Keep.refl _ _ _).alloc (Nat.le_refl _) _) (r := rowR 25 _ _) (ownsRow_new _ 25 [.int .u64 (e1 : Int), .int .u64 (u1 : Int)] (by simp)) (by simp [rowR, Value.ownBlock])).nilRow 25)
    generalize w8.alloc _ = w9 at *
    generalize w8.heap.size = gz at *
    clear b0 b1
    replace HS : Hid (Sep w [] [blkR gx 24 #[.int .u16 l, .int .u16 r, .int .u16 s], blkR gs 5 #[.int .u8 (q4 : Int)], blkR ga 51 #[.int .u16 (n5 : Int), .int .u16 (m5 : Int)], blkR gk 29 #[.int .i64 (k.L : Int), .int .i64 (k.R : Int), .int .i64 (k.S : Int)], devR d (s7), blkR gb 39 #[.int .i64 (e1 : Int), .int .i64 (u1 : Int), .slice none 0 0], rowR 25 (.slice (some ⟨gz, 0, none⟩) 2 2) (uw ((e1 : Int) :: (u1 : Int) :: rsI xs2 (0))), rowR 25 (.slice none 0 0) (uw (rsI xs2 (0)))] w9) := HS
    have c1 := (HS.out.blk 3 rfl).cell 1
    simp at c1
    go_wp2_with fail
    clear c1
    go_loopw [17, 18, 19, 86] (fun v17 _ _ v86 wr => ∃ (i : Nat) (t : St) (RA : Option Addr) (RC : Nat), i ≤ k.R ∧ v86 = .int .i64 (i : Int) ∧ t.Is nw ∧ t.l < 0 ∧ Sep w [] [blkR gx 24 #[.int .u16 l, .int .u16 r, .int .u16 s], blkR gs 5 #[.int .u8 (q4 : Int)], blkR ga 51 #[.int .u16 (n5 : Int), .int .u16 (m5 : Int)], blkR gk 29 #[.int .i64 (k.L : Int), .int .i64 (k.R : Int), .int .i64 (k.S : Int)], devR d (t), blkR gb 39 #[.int .i64 (e1 : Int), .int .i64 (u1 : Int), .slice RA i RC], rowR 25 (v17) (uw ((e1 : Int) :: (u1 : Int) :: rsI xs2 (i))), rowR 25 (.slice RA i RC) (uw (rsI xs2 (i)))] wr) (fun _ _ _ v86 _ => k.R - (intOf v86).toNat)
    case atStart => exact ⟨0, s7, none, 0, by omega, rfl, HI.out, HLM.out, HS.out⟩
    case round =>
      clear HS HI HLM
      rename_i v17 _ _
      obtain ⟨i, t, RA, RC, hi, rfl, hI, hl, hs⟩ := hrel
      obtain ⟨WA, WC, hvv⟩ := rowR_val (hs.row 6 rfl)
      rw [show (uw ((e1 : Int) :: (u1 : Int) :: rsI xs2 (i))).length = i + 2 by simp [uw, rsI_length]] at hvv
      subst hvv
      have HS := Lib.hid hs
      have HI := Lib.hid hI
      have HLM := Lib.hid hl
      clear hs hI hl
      by_cases hlt : i < k.R
      · have hltI : (i : Int) < (k.R : Int) := by omega
        by_cases hil : i < xs1.length
        · have hilI : (i : Int) < (xs1.length : Int) := by omega
          obtain ⟨g1, off1, hA1, hx1⟩ := HC1.out i hil
          subst hA1
          obtain ⟨x, hx⟩ : ∃ x, xs1.getD i 0 = x := ⟨_, rfl⟩
          rw [hx] at hx1
          have HX1 := Lib.hid hx1
          obtain ⟨p, hp⟩ : ∃ p, na + 2 + i = p := ⟨_, rfl⟩
          have hkrp := fun w => HKR.out i p w (by omega) hp
          have hpw : p < nw := by omega
          have HKP := Lib.hid hkrp
          clear hx hx1 hkrp hp
          go_upto_region 18 with fail
          refine wp_region_st3 (W := w) (S := []) (by kernel_rfl) (by kernel_rfl) (by kernel_rfl) (fun D uu => [blkR gx 24 #[.int .u16 l, .int .u16 r, .int .u16 s], blkR gs 5 #[.int .u8 (q4 : Int)], blkR ga 51 #[.int .u16 (n5 : Int), .int .u16 (m5 : Int)], blkR gk 29 #[.int .i64 (k.L : Int), .int .i64 (k.R : Int), .int .i64 (k.S : Int)], devR d (bif D 8 then t.store p x else t), blkR gb 39 #[.int .i64 (e1 : Int), .int .i64 (u1 : Int), .slice RA i RC], rowR 25 (.slice WA (i + 2) WC) (uw ((e1 : Int) :: (u1 : Int) :: rsI xs2 (i))), rowR 25 (.slice RA i RC) (uw (rsI xs2 (i)))])
            (fun j v => match j with
              | 0 => v = .pointer (some ⟨d.b, 0, none⟩)
              | 1 => v = .agg #[.int .i64 (k.L : Int), .int .i64 (k.R : Int), .int .i64 (k.S : Int)]
              | 2 => v = .int .i64 (i : Int)
              | 3 => v = .int .i64 (p : Int)
              | 4 => v = .slice (some ⟨g1, off1, none⟩) xs1.length C1
              | 5 => v = .int .i64 (i : Int)
              | 6 => v = .pointer (some ⟨g1, off1 + i, none⟩)
              | 7 => v = .int .u64 x
              | _ => True) ?start ?step ?fin
          case start => exact fun u => HS.out
          case step =>
            clear HS
            refine ⟨?_, ?_, ?_, ?_, ?_, ?_, ?_, ?_, ?_, trivial⟩
            · intro D uu w' K hD hF hl hS hK
              simp only [puts, Act.put, List.setIfInBounds_toArray, List.set_cons_succ, List.set_cons_zero, Nat.zero_add, Nat.reduceAdd]
              go_simp
              simp only [yUpon]
              exact hK _ _ rfl hS
            · intro D uu w' K hD hF hl hS hK
              simp only [puts, Act.put, List.setIfInBounds_toArray, List.set_cons_succ, List.set_cons_zero, Nat.zero_add, Nat.reduceAdd]
              have x0 := (hS.blk 3 rfl).cell 0
              have x1 := (hS.blk 3 rfl).cell 1
              have x2 := (hS.blk 3 rfl).cell 2
              simp at x0 x1 x2
              go_simp
              simp only [yUpon]
              exact hK _ _ rfl hS
            · intro D uu w' K hD hF hl hS hK
              simp only [puts, Act.put, List.setIfInBounds_toArray, List.set_cons_succ, List.set_cons_zero, Nat.zero_add, Nat.reduceAdd]
              go_simp
              simp only [yUpon]
              exact hK _ _ rfl hS
            · intro D uu w' K hD hF hl hS hK
              have f1 := (hF 1 (by kernel_rfl)).2
              simp only at f1
              have f2 := (hF 2 (by kernel_rfl)).2
              simp only at f2
              simp only [puts, Act.put, List.setIfInBounds_toArray, List.set_cons_succ, List.set_cons_zero, Nat.zero_add, Nat.reduceAdd]
              simp only [f1, f2]
              go_simp
              simp only [yUpon]
              refine (HKP.out _).mono ?_
              rintro e w1 ⟨rfl, hkk⟩
              exact hK _ _ rfl (hS.grow hkk)
            · intro D uu w' K hD hF hl hS hK
              simp only [puts, Act.put, List.setIfInBounds_toArray, List.set_cons_succ, List.set_cons_zero, Nat.zero_add, Nat.reduceAdd]
              go_simp
              simp only [yUpon]
              exact hK _ _ rfl hS
            · intro D uu w' K hD hF hl hS hK
              simp only [puts, Act.put, List.setIfInBounds_toArray, List.set_cons_succ, List.set_cons_zero, Nat.zero_add, Nat.reduceAdd]
              go_simp
              simp only [yUpon]
              exact hK _ _ rfl hS
            · intro D uu w' K hD hF hl hS hK
              have f4 := (hF 4 (by kernel_rfl)).2
              simp only at f4
              have f5 := (hF 5 (by kernel_rfl)).2
              simp only at f5
              simp only [puts, Act.put, List.setIfInBounds_toArray, List.set_cons_succ, List.set_cons_zero, Nat.zero_add, Nat.reduceAdd]
              simp only [f4, f5]
              go_simp
              simp only [yUpon]
              exact hK _ _ rfl hS
            · intro D uu w' K hD hF hl hS hK
              have f6 := (hF 6 (by kernel_rfl)).2
              simp only at f6
              simp only [puts, Act.put, List.setIfInBounds_toArray, List.set_cons_succ, List.set_cons_zero, Nat.zero_add, Nat.reduceAdd]
              simp only [f6]
              have x7 := (Ext.mk w' hS.keep : Ext w).cell HX1.out
              simp only at x7
              go_simp
              simp only [yUpon]
              exact hK _ _ rfl hS
            · intro D uu w' K hD hF hl hS hK
              have f0 := (hF 0 (by kernel_rfl)).2
              simp only at f0
              have f3 := (hF 3 (by kernel_rfl)).2
              simp only at f3
              have f7 := (hF 7 (by kernel_rfl)).2
              simp only at f7
              simp only [puts, Act.put, List.setIfInBounds_toArray, List.set_cons_succ, List.set_cons_zero, Nat.zero_add, Nat.reduceAdd]
              simp only [f0, f3, f7]
              simp only [hD, cond_false] at hS
              have e1 : (fset D 8 true) 8 = true := rfl
              go_simp
              simp only [yUpon]
              refine (store_free d t p x _ (hS.dev 4 rfl) HLM.out (by rw [HI.out.now]; omega)).mono ?_
              rintro e w1 ⟨rfl, hd, hkk⟩
              refine hK _ _ trivial ?_
              simp only [e1, cond_true]
              exact hS.did (i := 4) rfl hd hkk
          case fin =>
            clear HS
            intro D uu wf hall hS
            have f8 := (hall 8 (by simp)).1
            simp only [f8, cond_true] at hS
            have HS := Lib.hid hS
            clear hall hS f8
            simp only [puts, Act.put, List.setIfInBounds_toArray, List.set_cons_succ, List.set_cons_zero, Nat.zero_add, Nat.reduceAdd]
            have hi2 : (t.store p x).Is nw := HI.out.store _ _
            have hl2 : (t.store p x).l < 0 := HLM.out
            generalize t.store p x = t2 at *
            replace HI := Lib.hid hi2
            replace HLM := Lib.hid hl2
            clear hi2 hl2
            by_cases hjl : i < xs2.length
            · have hjlI : (i : Int) < (xs2.length : Int) := by omega
              obtain ⟨gm, offm, hA2, hxm⟩ := HC2.out i hjl
              subst hA2
              obtain ⟨y, hy⟩ : ∃ y, xs2.getD i 0 = y := ⟨_, rfl⟩
              rw [hy] at hxm
              have hxm := (Ext.mk wf HS.out.keep : Ext w).cell hxm
              simp only at hxm
              have HY := Lib.hid hy
              clear hy
              have b2 := (HS.out.blk 5 rfl).cell 2
              simp at b2
              go_wp2_with (at_builtin; refine of_stop ?_)
              unfold Stop
              replace HS := Lib.hid (HS.out.new 25 #[.int .u64 y])
              generalize wf.alloc _ = wa at *
              generalize wf.heap.size = gn at *
              have hc := (HS.out.blk 8 rfl).cell
              clear b2
              refine wpList_append HS.out 7 rfl rfl _ _ 26 rfl rfl rfl rfl (by decide) rfl ⟨gn, 0, none⟩ 1 1 [.int .u64 y] rfl rfl (by decide) (fun i v hv => by rw [addrO, hc]; simpa using hv) oneI (by simp [uw, rsI_length]; omega) ?_
              intro v' wb hS
              obtain ⟨RA2, RC2, hv'⟩ := rowR_val (hS.row 7 rfl)
              rw [show (uw (rsI xs2 i) ++ [Value.int .u64 y]).length = i + 1 by simp [uw, rsI_length]] at hv'
              subst hv'
              replace HS := Lib.hid hS
              clear hS hc
              go_wp2_with (at_builtin; refine of_stop ?_)
              unfold Stop
              replace HS := Lib.hid (HS.out.new 25 #[.int .u64 y])
              generalize wb.alloc _ = wc at *
              generalize wb.heap.size = gn2 at *
              have hc := (HS.out.blk 9 rfl).cell
              refine wpList_append HS.out 6 rfl rfl _ _ 26 rfl rfl rfl rfl (by decide) rfl ⟨gn2, 0, none⟩ 1 1 [.int .u64 y] rfl rfl (by decide) (fun i v hv => by rw [addrO, hc]; simpa using hv) oneI (by simp [uw, rsI_length]; omega) ?_
              intro v' wd hS
              obtain ⟨WA2, WC2, hv'⟩ := rowR_val (hS.row 6 rfl)
              rw [show (uw ((e1 : Int) :: (u1 : Int) :: rsI xs2 (i)) ++ [Value.int .u64 y]).length = i + 1 + 2 by simp [uw, rsI_length]] at hv'
              subst hv'
              replace HS := Lib.hid hS
              clear hS hc
              have b2 := (HS.out.blk 5 rfl).cell 2
              simp at b2
              have z2 := (HS.out.blk 5 rfl).frozen 2
              have hs2 := HS.out.put (i := 5) rfl 2 (.slice RA2 (i + 1) RC2)
              have hs3 := hs2.take 8
              have HS2 := Lib.hid hs3
              clear hs2 hs3
              go_wp2
              refine ⟨⟨i + 1, t2, RA2, RC2, by omega, by first | rfl | go_num | simp, HI.out, HLM.out, ?_⟩, by simp [intOf]; omega⟩
              have qe1 : uw (rsI xs2 (i + 1)) = uw (rsI xs2 i) ++ [Value.int .u64 y] := by rw [rsI_succ, HY.out, uw_snoc]
              have qe2 : uw ((e1 : Int) :: (u1 : Int) :: rsI xs2 (i + 1)) = uw ((e1 : Int) :: (u1 : Int) :: rsI xs2 (i)) ++ [Value.int .u64 y] := by rw [rsI_succ, HY.out]; simp [uw]
              rw [qe1, qe2]
              exact HS2.out
            · have hjlI : ¬ (i : Int) < (xs2.length : Int) := by omega
              obtain ⟨y, hy⟩ : ∃ y, xs2.getD i 0 = y := ⟨_, rfl⟩
              have hy0 : y = 0 := by rw [← hy, List.getD_eq_getElem?_getD, List.getElem?_eq_none (by omega)]; rfl
              subst hy0
              have HY := Lib.hid hy
              clear hy
              have b2 := (HS.out.blk 5 rfl).cell 2
              simp at b2
              go_wp2_with (at_builtin; refine of_stop ?_)
              unfold Stop
              replace HS := Lib.hid (HS.out.new 25 #[.int .u64 0])
              generalize wf.alloc _ = wa at *
              generalize wf.heap.size = gn at *
              have hc := (HS.out.blk 8 rfl).cell
              clear b2
              refine wpList_append HS.out 7 rfl rfl _ _ 26 rfl rfl rfl rfl (by decide) rfl ⟨gn, 0, none⟩ 1 1 [.int .u64 0] rfl rfl (by decide) (fun i v hv => by rw [addrO, hc]; simpa using hv) oneI (by simp [uw, rsI_length]; omega) ?_
              intro v' wb hS
              obtain ⟨RA2, RC2, hv'⟩ := rowR_val (hS.row 7 rfl)
              rw [show (uw (rsI xs2 i) ++ [Value.int .u64 0]).length = i + 1 by simp [uw, rsI_length]] at hv'
              subst hv'
              replace HS := Lib.hid hS
              clear hS hc
              go_wp2_with (at_builtin; refine of_stop ?_)
              unfold Stop
              replace HS := Lib.hid (HS.out.new 25 #[.int .u64 0])
              generalize wb.alloc _ = wc at *
              generalize wb.heap.size = gn2 at *
              have hc := (HS.out.blk 9 rfl).cell
              refine wpList_append HS.out 6 rfl rfl _ _ 26 rfl rfl rfl rfl (by decide) rfl ⟨gn2, 0, none⟩ 1 1 [.int .u64 0] rfl rfl (by decide) (fun i v hv => by rw [addrO, hc]; simpa using hv) oneI (by simp [uw, rsI_length]; omega) ?_
              intro v' wd hS
              obtain ⟨WA2, WC2, hv'⟩ := rowR_val (hS.row 6 rfl)
              rw [show (uw ((e1 : Int) :: (u1 : Int) :: rsI xs2 (i)) ++ [Value.int .u64 0]).length = i + 1 + 2 by simp [uw, rsI_length]] at hv'
              subst hv'
              replace HS := Lib.hid hS
              clear hS hc
              have b2 := (HS.out.blk 5 rfl).cell 2
              simp at b2
              have z2 := (HS.out.blk 5 rfl).frozen 2
              have hs2 := HS.out.put (i := 5) rfl 2 (.slice RA2 (i + 1) RC2)
              have hs3 := hs2.take 8
              have HS2 := Lib.hid hs3
              clear hs2 hs3
              go_wp2
              refine ⟨⟨i + 1, t2, RA2, RC2, by omega, by first | rfl | go_num | simp, HI.out, HLM.out, ?_⟩, by simp [intOf]; omega⟩
              have qe1 : uw (rsI xs2 (i + 1)) = uw (rsI xs2 i) ++ [Value.int .u64 0] := by rw [rsI_succ, HY.out, uw_snoc]
              have qe2 : uw ((e1 : Int) :: (u1 : Int) :: rsI xs2 (i + 1)) = uw ((e1 : Int) :: (u1 : Int) :: rsI xs2 (i)) ++ [Value.int .u64 0] := by rw [rsI_succ, HY.out]; simp [uw]
              rw [qe1, qe2]
              exact HS2.out
        · have hilI : ¬ (i : Int) < (xs1.length : Int) := by omega
          by_cases hjl : i < xs2.length
          · have hjlI : (i : Int) < (xs2.length : Int) := by omega
            obtain ⟨gm, offm, hA2, hxm⟩ := HC2.out i hjl
            subst hA2
            obtain ⟨y, hy⟩ : ∃ y, xs2.getD i 0 = y := ⟨_, rfl⟩
            rw [hy] at hxm
            have hxm := (Ext.mk wr HS.out.keep : Ext w).cell hxm
            simp only at hxm
            have HY := Lib.hid hy
            clear hy
            have b2 := (HS.out.blk 5 rfl).cell 2
            simp at b2
            go_wp2_with (at_builtin; refine of_stop ?_)
            unfold Stop
            replace HS := Lib.hid (HS.out.new 25 #[.int .u64 y])
            generalize wr.alloc _ = wa at *
            generalize wr.heap.size = gn at *
            have hc := (HS.out.blk 8 rfl).cell
            clear b2
            refine wpList_append HS.out 7 rfl rfl _ _ 26 rfl rfl rfl rfl (by decide) rfl ⟨gn, 0, none⟩ 1 1 [.int .u64 y] rfl rfl (by decide) (fun i v hv => by rw [addrO, hc]; simpa using hv) oneI (by simp [uw, rsI_length]; omega) ?_
            intro v' wb hS
            obtain ⟨RA2, RC2, hv'⟩ := rowR_val (hS.row 7 rfl)
            rw [show (uw (rsI xs2 i) ++ [Value.int .u64 y]).length = i + 1 by simp [uw, rsI_length]] at hv'
            subst hv'
            replace HS := Lib.hid hS
            clear hS hc
            go_wp2_with (at_builtin; refine of_stop ?_)
            unfold Stop
            replace HS := Lib.hid (HS.out.new 25 #[.int .u64 y])
            generalize wb.alloc _ = wc at *
            generalize wb.heap.size = gn2 at *
            have hc := (HS.out.blk 9 rfl).cell
            refine wpList_append HS.out 6 rfl rfl _ _ 26 rfl rfl rfl rfl (by decide) rfl ⟨gn2, 0, none⟩ 1 1 [.int .u64 y] rfl rfl (by decide) (fun i v hv => by rw [addrO, hc]; simpa using hv) oneI (by simp [uw, rsI_length]; omega) ?_
            intro v' wd hS
            obtain ⟨WA2, WC2, hv'⟩ := rowR_val (hS.row 6 rfl)
            rw [show (uw ((e1 : Int) :: (u1 : Int) :: rsI xs2 (i)) ++ [Value.int .u64 y]).length = i + 1 + 2 by simp [uw, rsI_length]] at hv'
            subst hv'
            replace HS := Lib.hid hS
            clear hS hc
            have b2 := (HS.out.blk 5 rfl).cell 2
            simp at b2
            have z2 := (HS.out.blk 5 rfl).frozen 2
            have hs2 := HS.out.put (i := 5) rfl 2 (.slice RA2 (i + 1) RC2)
            have hs3 := hs2.take 8
            have HS2 := Lib.hid hs3
            clear hs2 hs3
            go_wp2
            refine ⟨⟨i + 1, t, RA2, RC2, by omega, by first | rfl | go_num | simp, HI.out, HLM.out, ?_⟩, by simp [intOf]; omega⟩
            have qe1 : uw (rsI xs2 (i + 1)) = uw (rsI xs2 i) ++ [Value.int .u64 y] := by rw [rsI_succ, HY.out, uw_snoc]
            have qe2 : uw ((e1 : Int) :: (u1 : Int) :: rsI xs2 (i + 1)) = uw ((e1 : Int) :: (u1 : Int) :: rsI xs2 (i)) ++ [Value.int .u64 y] := by rw [rsI_succ, HY.out]; simp [uw]
            rw [qe1, qe2]
            exact HS2.out
          · have hjlI : ¬ (i : Int) < (xs2.length : Int) := by omega
            obtain ⟨y, hy⟩ : ∃ y, xs2.getD i 0 = y := ⟨_, rfl⟩
            have hy0 : y = 0 := by rw [← hy, List.getD_eq_getElem?_getD, List.getElem?_eq_none (by omega)]; rfl
            subst hy0
            have HY := Lib.hid hy
            clear hy
            have b2 := (HS.out.blk 5 rfl).cell 2
            simp at b2
            go_wp2_with (at_builtin; refine of_stop ?_)
            unfold Stop
            replace HS := Lib.hid (HS.out.new 25 #[.int .u64 0])
            generalize wr.alloc _ = wa at *
            generalize wr.heap.size = gn at *
            have hc := (HS.out.blk 8 rfl).cell
            clear b2
            refine wpList_append HS.out 7 rfl rfl _ _ 26 rfl rfl rfl rfl (by decide) rfl ⟨gn, 0, none⟩ 1 1 [.int .u64 0] rfl rfl (by decide) (fun i v hv => by rw [addrO, hc]; simpa using hv) oneI (by simp [uw, rsI_length]; omega) ?_
            intro v' wb hS
            obtain ⟨RA2, RC2, hv'⟩ := rowR_val (hS.row 7 rfl)
            rw [show (uw (rsI xs2 i) ++ [Value.int .u64 0]).length = i + 1 by simp [uw, rsI_length]] at hv'
            subst hv'
            replace HS := Lib.hid hS
            clear hS hc
            go_wp2_with (at_builtin; refine of_stop ?_)
            unfold Stop
            replace HS := Lib.hid (HS.out.new 25 #[.int .u64 0])
            generalize wb.alloc _ = wc at *
            generalize wb.heap.size = gn2 at *
            have hc := (HS.out.blk 9 rfl).cell
            refine wpList_append HS.out 6 rfl rfl _ _ 26 rfl rfl rfl rfl (by decide) rfl ⟨gn2, 0, none⟩ 1 1 [.int .u64 0] rfl rfl (by decide) (fun i v hv => by rw [addrO, hc]; simpa using hv) oneI (by simp [uw, rsI_length]; omega) ?_
            intro v' wd hS
            obtain ⟨WA2, WC2, hv'⟩ := rowR_val (hS.row 6 rfl)
            rw [show (uw ((e1 : Int) :: (u1 : Int) :: rsI xs2 (i)) ++ [Value.int .u64 0]).length = i + 1 + 2 by simp [uw, rsI_length]] at hv'
            subst hv'
            replace HS := Lib.hid hS
            clear hS hc
            have b2 := (HS.out.blk 5 rfl).cell 2
            simp at b2
            have z2 := (HS.out.blk 5 rfl).frozen 2
            have hs2 := HS.out.put (i := 5) rfl 2 (.slice RA2 (i + 1) RC2)
            have hs3 := hs2.take 8
            have HS2 := Lib.hid hs3
            clear hs2 hs3
            go_wp2
            refine ⟨⟨i + 1, t, RA2, RC2, by omega, by first | rfl | go_num | simp, HI.out, HLM.out, ?_⟩, by simp [intOf]; omega⟩
            have qe1 : uw (rsI xs2 (i + 1)) = uw (rsI xs2 i) ++ [Value.int .u64 0] := by rw [rsI_succ, HY.out, uw_snoc]
            have qe2 : uw ((e1 : Int) :: (u1 : Int) :: rsI xs2 (i + 1)) = uw ((e1 : Int) :: (u1 : Int) :: rsI xs2 (i)) ++ [Value.int .u64 0] := by rw [rsI_succ, HY.out]; simp [uw]
            rw [qe1, qe2]
            exact HS2.out
      · have hltI : ¬ (i : Int) < (k.R : Int) := by omega
        obtain rfl : i = k.R := by omega
        clear hlt hltI hi
        obtain ⟨ws, hws⟩ : ∃ ws : List Int, (e1 : Int) :: (u1 : Int) :: rsI xs2 k.R = ws := ⟨_, rfl⟩
        have hwl : ws.length = k.R + 2 := by rw [← hws]; simp [rsI_length]
        rw [hws] at HS
        have HWS := Lib.hid hws
        have HWL := Lib.hid hwl
        obtain ⟨z, hz⟩ : ∃ z, q4 % 6 + 1 = z := ⟨_, rfl⟩
        obtain ⟨q6, hq6⟩ : ∃ q6, q4 % 6 = q6 := ⟨_, rfl⟩
        have hrem : ((q4 : Int)).tmod 6 = (q6 : Int) := by rw [show (6 : Int) = ((6 : Nat) : Int) from rfl, tmod_w, hq6]
        have hzw : IntKind.i64.wrap (q6 : Int) = (q6 : Int) := IntWalk.i64_in _ (by omega)
        have hzw2 : IntKind.i64.wrap (1 + (q6 : Int)) = (z : Int) := by rw [IntWalk.i64_in _ (by omega)]; omega
        have hz1' : 1 ≤ z := by omega
        have HZ := Lib.hid hz
        clear hws hwl hz hq6
        have c0 := (HS.out.blk 3 rfl).cell 0
        simp at c0
        have c1 := (HS.out.blk 3 rfl).cell 1
        simp at c1
        have c2 := (HS.out.blk 3 rfl).cell 2
        simp at c2
        go_wp2_with fail
        refine (words7_any d t k _ (HS.out.dev 4 rfl) HK.out (HI.out.now.trans HNW.out.symm)).mono ?_
        rintro e wx ⟨gw, ex, cw, rfl, hbw, hgw, hkk⟩
        have hdl : (t.now.drop k.act).length = nw - na := by rw [List.length_drop, HI.out.now, HNA.out]
        rw [hdl, HNA.out]
        replace HS := Lib.hid (HS.out.add hkk (r := blkR gw 25 (uw t.now ++ ex).toArray) hbw (by intro y hy; simp [blkR] at hy; subst hy; exact hgw))
        clear hbw hgw hkk hdl c0 c1 c2
        go_wp2_with fail
        replace HS := Lib.hid (((HS.out.new 54 #[.slice none 0 0]).nilRowN 56 2).nilRowN 56 2)
        generalize wx.alloc _ = wy at *
        generalize wx.heap.size = gg at *
        replace HS : Hid (Sep w [] [blkR gx 24 #[.int .u16 l, .int .u16 r, .int .u16 s], blkR gs 5 #[.int .u8 (q4 : Int)], blkR ga 51 #[.int .u16 (n5 : Int), .int .u16 (m5 : Int)], blkR gk 29 #[.int .i64 (k.L : Int), .int .i64 (k.R : Int), .int .i64 (k.S : Int)], devR d (t), blkR gb 39 #[.int .i64 (e1 : Int), .int .i64 (u1 : Int), .slice RA k.R RC], rowR 25 (.slice WA (k.R + 2) WC) (uw ws), rowR 25 (.slice RA k.R RC) (uw (rsI xs2 k.R)), blkR gw 25 (uw t.now ++ ex).toArray, blkR gg 54 #[.slice none 0 0], rowN 56 2 (.slice none 0 0) 0 [], rowN 56 2 (.slice none 0 0) (([] : List (Nat × Int))).length (onesOf (([] : List (Nat × Int))))] wy) := HS
        have hk2I : IntKind.i64.wrap ((k.R : Int) + 2) = (k.R : Int) + 2 := IntWalk.i64_in _ (by omega)
        go_loopw [21, 23, 24, 25, 126] (fun v21 v23 _ _ v126 wr => ∃ (i : Nat) (QA : Option Addr) (QC : Nat), i ≤ k.R + 2 ∧ v126 = .int .i64 (i : Int) ∧ v23 = .int .i64 (codeOf t na ws z i) ∧ v21 = .slice QA ((dif t na ws i).take z).length QC ∧ Sep w [] [blkR gx 24 #[.int .u16 l, .int .u16 r, .int .u16 s], blkR gs 5 #[.int .u8 (q4 : Int)], blkR ga 51 #[.int .u16 (n5 : Int), .int .u16 (m5 : Int)], blkR gk 29 #[.int .i64 (k.L : Int), .int .i64 (k.R : Int), .int .i64 (k.S : Int)], devR d (t), blkR gb 39 #[.int .i64 (e1 : Int), .int .i64 (u1 : Int), .slice RA k.R RC], rowR 25 (.slice WA (k.R + 2) WC) (uw ws), rowR 25 (.slice RA k.R RC) (uw (rsI xs2 k.R)), blkR gw 25 (uw t.now ++ ex).toArray, blkR gg 54 #[.slice none 0 0], rowN 56 2 (.slice none 0 0) 0 [], rowN 56 2 (.slice QA ((dif t na ws i).take z).length QC) (((dif t na ws i).take z)).length (onesOf (((dif t na ws i).take z)))] wr) (fun _ _ _ _ v126 _ => k.R + 2 - (intOf v126).toNat)
        case atStart =>
          refine ⟨0, none, 0, by omega, rfl, ?_, by simp [dif], ?_⟩
          · have : codeOf t na ws z 0 = 0 := by unfold codeOf; rw [if_neg (by simp [dif]; omega)]
            rw [this]
          · have := HS.out
            simpa [dif] using this
        case round =>
          clear HS
          obtain ⟨i, QA, QC, hi, rfl, rfl, rfl, hs⟩ := hrel
          have HS := Lib.hid hs
          clear hs
          by_cases hlt : i < k.R + 2
          · have hltI : (i : Int) < ((k.R + 2 : Nat) : Int) := by omega
            have hltI2 : (i : Int) < (k.R : Int) + 2 := by omega
            obtain ⟨x, hx⟩ : ∃ x, t.nw (na + i) = x := ⟨_, rfl⟩
            obtain ⟨y, hy⟩ : ∃ y, ws.getD i 0 = y := ⟨_, rfl⟩
            have hrow : wr.ownsRow 0 25 1 (.slice WA (k.R + 2) WC) (uw ws).length (uw ws) := HS.out.row 6 rfl
            obtain ⟨g6, hWA, k6⟩ : ∃ g6, WA = some ⟨g6, 0, none⟩ ∧ wr.cell? ⟨g6, i, none⟩ = some (.int .u64 y) := by
              have hil : i < ws.length := by rw [HWL.out]; omega
              rcases hrow.2 with ⟨hv, h0⟩ | ⟨g, cap, cur, hv, _⟩
              · simp [uw] at h0; rw [h0] at hil; simp at hil
              · injection hv with q1 q2 q3
                refine ⟨g, q1, ?_⟩
                subst q1
                have := hrow.cells (g := g) rfl i (.int .u64 y) (by simp [uw, hil, ← hy, List.getD_eq_getElem?_getD])
                rwa [addrO] at this
            subst hWA
            have kw : wr.cell? ⟨gw, na + i, none⟩ = some (.int .u64 x) := by
              rw [(HS.out.blk 8 rfl).cell, uw_getW t.now ex (na + i) (by rw [HI.out.now]; omega), ← hx]; rfl
            clear hrow
            have hnwI : (i : Int) < ((nw - na : Nat) : Int) := by omega
            have hnwN : i < nw - na := by omega
            by_cases hxy : x = y
            · have hd := dif_same (t := t) (na := na) (ws := ws) (i := i) (by rw [hx, hy, hxy])
              have hcd : codeOf t na ws z (i + 1) = codeOf t na ws z i := by unfold codeOf; rw [hd]
              have HD := Lib.hid hd
              have HCD := Lib.hid hcd
              subst hxy
              clear hd hcd hx hy
              go_wp2
              exact ⟨⟨i + 1, QA, QC, by omega, by first | rfl | go_num | simp, by rw [HCD.out], by first | (rw [HD.out]; done) | (rw [HD.out, List.length_take]), by rw [HD.out]; exact HS.out⟩, by simp [intOf]; omega⟩
            · have hd := dif_other (t := t) (na := na) (ws := ws) (i := i) (by rw [hx, hy]; exact hxy)
              rw [hy] at hd
              by_cases hzl : z ≤ (dif t na ws i).length
              · have hc1 : codeOf t na ws z i = 3 := by unfold codeOf; rw [if_pos hzl]
                have hc2 : codeOf t na ws z (i + 1) = 3 := by unfold codeOf; rw [hd, if_pos (by simp; omega)]
                have ht2 : (dif t na ws (i + 1)).take z = (dif t na ws i).take z := by rw [hd, List.take_append_of_le_length hzl]
                have HC2' := Lib.hid hc2
                have HT2 := Lib.hid ht2
                rw [hc1]
                clear hd hc1 hc2 ht2 hx hy hzl
                go_wp2
                exact ⟨⟨i + 1, QA, QC, by omega, by first | rfl | go_num | simp, by rw [HC2'.out], by first | (rw [HT2.out]; done) | (rw [HT2.out, List.length_take]), by rw [HT2.out]; exact HS.out⟩, by simp [intOf]; omega⟩
              · have hc1 : codeOf t na ws z i = 0 := by unfold codeOf; rw [if_neg hzl]
                have ht1 : (dif t na ws i).take z = dif t na ws i := List.take_of_length_le (by omega)
                have ht2 : (dif t na ws (i + 1)).take z = dif t na ws i ++ [(na + i, y)] := by rw [hd]; exact List.take_of_length_le (by simp; omega)
                have hlen2 : (dif t na ws (i + 1)).length = (dif t na ws i).length + 1 := by rw [hd]; simp
                have hlb := dif_len t na ws i
                rw [hc1, ht1]
                rw [ht1] at HS
                have HT2 := Lib.hid ht2
                have hsum : IntKind.i64.wrap ((na : Int) + (i : Int)) = ((na + i : Nat) : Int) := by rw [IntWalk.i64_in _ (by omega)]; omega
                obtain ⟨ni, hni⟩ : ∃ ni, na + i = ni := ⟨_, rfl⟩
                rw [hni] at hsum HT2
                obtain ⟨ln, hln⟩ : ∃ ln, (dif t na ws i).length = ln := ⟨_, rfl⟩
                rw [hln] at hzl hlen2 hlb HS
                rw [hln]
                have hcz : codeOf t na ws z (i + 1) = if ln + 1 = z then 3 else 0 := by
                  unfold codeOf; rw [hlen2]
                  by_cases h : ln + 1 = z
                  · rw [if_pos h, if_pos (by omega)]
                  · rw [if_neg h, if_neg (by omega)]
                have HCZ := Lib.hid hcz
                have HLN := Lib.hid hln
                clear hd hc1 ht1 ht2 hx hy hlen2 hni hln hcz
                have c0 := (HS.out.blk 3 rfl).cell 0
                simp at c0
                have c1 := (HS.out.blk 3 rfl).cell 1
                simp at c1
                have c2 := (HS.out.blk 3 rfl).cell 2
                simp at c2
                go_wp2_with fail
                refine (HKA.out _).mono ?_
                rintro e wz ⟨rfl, hkk⟩
                replace HS := Lib.hid (HS.out.grow hkk)
                clear hkk c0 c1 c2
                go_wp2_with (at_builtin; refine of_stop ?_)
                unfold Stop
                replace HS := Lib.hid (HS.out.new 56 #[.int .i64 (ni : Int), .int .u64 y])
                generalize wz.alloc _ = wa at *
                generalize wz.heap.size = gn at *
                have hc := (HS.out.blk 12 rfl).cell
                refine wpList_appendN HS.out 11 rfl rfl _ _ 54 rfl rfl (z := .agg #[.int .i64 0, .int .u64 0]) (bytes := 16) (by kernel_rfl) rfl (by decide) (by decide) rfl ⟨gn, 0, none⟩ 1 1 [.int .i64 (ni : Int), .int .u64 y] rfl rfl (by decide) (fun i u hu => by rw [addrO, hc]; simpa using hu) (fun u hu => by simp at hu; rcases hu with rfl | rfl <;> rfl) (by omega) ?_
                intro v' we hS
                obtain ⟨QA2, QC2, hv'⟩ := rowN_val (hS.rowN 11 rfl)
                subst hv'
                have hS12 := hS.take 12
                replace HS := Lib.hid hS12
                clear hS hc hS12
                have s0 := (HS.out.blk 1 rfl).cell 0
                simp at s0
                by_cases hlz : ln + 1 = z
                · have t1 : ((ln : Int) + 1 = (z : Int)) = True := by rw [eq_iff_iff, iff_true]; omega
                  have t2 : ((ln : Int) + 1 == (z : Int)) = true := by rw [beq_iff_eq]; omega
                  have t3 : decide ((ln : Int) + 1 = (z : Int)) = true := decide_eq_true (by omega)
                  have t4 : decide (ln + 1 = z) = true := decide_eq_true hlz
                  have HLZ := Lib.hid hlz
                  have hcz := HCZ.out
                  rw [if_pos hlz] at hcz
                  replace HCZ := Lib.hid hcz
                  clear hcz
                  go_wp2
                  refine ⟨⟨i + 1, QA2, QC2, by omega, by first | rfl | go_num | simp, by rw [HCZ.out], by rw [HT2.out, List.length_append, HLN.out]; first | rfl | (rw [show ln + [(ni, y)].length = z from HLZ.out]), ?_⟩, by simp [intOf]; omega⟩
                  rw [HT2.out, onesOf_snoc, List.length_append, HLN.out]
                  exact HS.out
                · have t1 : ((ln : Int) + 1 = (z : Int)) = False := by rw [eq_iff_iff, iff_false]; omega
                  have t2 : ((ln : Int) + 1 == (z : Int)) = false := by rw [beq_eq_false_iff_ne]; omega
                  have t3 : decide ((ln : Int) + 1 = (z : Int)) = false := decide_eq_false (by omega)
                  have t4 : decide (ln + 1 = z) = false := decide_eq_false hlz
                  have HLZ := Lib.hid hlz
                  have hcz := HCZ.out
                  rw [if_neg hlz] at hcz
                  replace HCZ := Lib.hid hcz
                  clear hcz
                  go_wp2
                  refine ⟨⟨i + 1, QA2, QC2, by omega, by first | rfl | go_num | simp, by rw [HCZ.out], by rw [HT2.out, List.length_append, HLN.out]; first | rfl | (rw [show ln + [(ni, y)].length = z from HLZ.out]), ?_⟩, by simp [intOf]; omega⟩
                  rw [HT2.out, onesOf_snoc, List.length_append, HLN.out]
                  exact HS.out
          · have hltI : ¬ (i : Int) < ((k.R + 2 : Nat) : Int) := by omega
            have hltI2 : ¬ (i : Int) < (k.R : Int) + 2 := by omega
            obtain rfl : i = k.R + 2 := by omega
            clear hlt hltI hltI2 hi
            obtain ⟨gr, RC', exr, hra, hs2⟩ := HS.out.rowBlk (i := 7) rfl (by simp [uw, rsI_length]; omega)
            injection hra with q1 q2 q3
            subst q1 q3
            clear q2
            have hj1 := hs2.join (i := 10) (j := 1) (by decide) rfl rfl
            have hj2 := hj1.join (i := 9) (j := 10) (by decide) rfl rfl
            have hj3 := hj2.join (i := 4) (j := 9) (by decide) rfl rfl
            replace HS := Lib.hid hj3
            clear hs2 hj1 hj2 hj3
            replace HS : Hid (Sep w [] [blkR gx 24 #[.int .u16 l, .int .u16 r, .int .u16 s], noR, blkR ga 51 #[.int .u16 (n5 : Int), .int .u16 (m5 : Int)], blkR gk 29 #[.int .i64 (k.L : Int), .int .i64 (k.R : Int), .int .i64 (k.S : Int)], gotR d t gg gs (q4 : Int) (.slice none 0 0) ([] : List (Nat × Int)), blkR gb 39 #[.int .i64 (e1 : Int), .int .i64 (u1 : Int), .slice (some ⟨gr, 0, none⟩) k.R RC], rowR 25 (.slice WA (k.R + 2) WC) (uw ws), blkR gr 25 (uw (rsI xs2 k.R) ++ exr).toArray, blkR gw 25 (uw t.now ++ ex).toArray, noR, noR, rowN 56 2 (.slice QA ((dif t na ws (k.R + 2)).take z).length QC) ((dif t na ws (k.R + 2)).take z).length (onesOf ((dif t na ws (k.R + 2)).take z))] wr) := HS
            have hrd : Rd wr (.slice (some ⟨gr, 0, none⟩) k.R RC) (uw (rsI xs2 k.R)) := by
              have h := Rd.of_uw (n := RC) (HS.out.blk 7 rfl)
              rwa [rsI_length] at h
            have htk := takes_got (d := d) (k := k) (t := t) (ws := ws) (gg := gg) (gs := gs) HK.out (by rw [HWL.out]; omega) HZ.out
            rw [HNA.out] at htk
            have hwr := rwrite_any d k e1 u1 (.slice (some ⟨gr, 0, none⟩) k.R RC) (rsI xs2 k.R) 32 #[] #[.pointer (some ⟨gg, 0, none⟩), .pointer (some ⟨gs, 0, none⟩)] (fun i r => (∃ v, r = gotR d t gg gs (q4 : Int) v (dif t na ws i)) ∧ (dif t na ws i).length < z) (fun err r => err = 3 ∧ ∃ i, i ≤ ws.length ∧ (dif t na ws i).length = z ∧ ∃ v, r = gotR d t gg gs (q4 : Int) v (dif t na ws i)) (gotR d t gg gs (q4 : Int) (.slice none 0 0) ([] : List (Nat × Int))) wr HK.out he11 (by have := HK.out.s1; omega) hrd (by rw [rsI_length]; omega) (by rw [rsI_length]; omega) (by rw [HNA.out, HWS.out]; exact htk) ⟨⟨_, rfl⟩, by simp [dif]; omega⟩ (HS.out.all 4 _ rfl)
            rw [rsI_length] at hwr
            simp only [Kfg.cells, rbC] at hwr
            have HWR := Lib.hid hwr
            clear hrd htk hwr
            have c0 := (HS.out.blk 3 rfl).cell 0
            simp at c0
            have c1 := (HS.out.blk 3 rfl).cell 1
            simp at c1
            have c2 := (HS.out.blk 3 rfl).cell 2
            simp at c2
            have b0 := (HS.out.blk 5 rfl).cell 0
            simp at b0
            have b1 := (HS.out.blk 5 rfl).cell 1
            simp at b1
            have b2 := (HS.out.blk 5 rfl).cell 2
            simp at b2
            go_wp2_with fail
            refine HWR.out.mono ?_
            rintro e wz ⟨err, r', rfl, hS, h⟩
            obtain ⟨lf, vf, hlf, rfl, hlf2⟩ : ∃ lf vf, lf = ((dif t na ws (k.R + 2)).take z) ∧ r' = gotR d t gg gs (q4 : Int) vf lf ∧ codeOf t na ws z (k.R + 2) = err := by
              rcases h with ⟨rfl, ⟨vf, rfl⟩, hl⟩ | ⟨_, rfl, i, hi, hl, vf, rfl⟩
              · exact ⟨_, vf, (List.take_of_length_le (by omega)).symm, rfl, by unfold codeOf; rw [if_neg (by omega)]⟩
              · obtain ⟨rest, hrest⟩ := dif_pre t na ws i (k.R + 2 - i)
                rw [HWL.out] at hi
                rw [show i + (k.R + 2 - i) = k.R + 2 by omega] at hrest
                refine ⟨_, vf, ?_, rfl, ?_⟩
                · rw [← hrest, ← hl, List.take_left]
                · unfold codeOf
                  rw [if_pos (by rw [← hrest, List.length_append]; omega)]
            rw [hlf2]
            rw [← hlf] at HS ⊢
            replace HS := Lib.hid (HS.out.app hS (i := 4) rfl (fun k h => h) (j := 0) rfl)
            clear hS h HWR c0 c1 c2 b0 b1 b2 hlf2
            have hgot := (HS.out.all 4 _ rfl : (gotR d t gg gs (q4 : Int) vf lf).holds wz)
            have hlfl : lf.length ≤ k.R + 2 := by rw [hlf, List.length_take]; have := dif_len t na ws (k.R + 2); omega
            have heq := equalO_same vf (.slice QA lf.length QC) lf wz (rowN_rdO hgot.2.1.2.1.1) (rowN_rdO (HS.out.rowN 11 rfl)) (by omega)
            have gg0 := hgot.2.1.1.cell 0
            simp at gg0
            have HEQ := Lib.hid heq
            clear hgot heq hlf hlfl
            go_wp2_with fail
            refine HEQ.out.mono ?_
            rintro e wh ⟨rfl, hkk⟩
            replace HS := Lib.hid (HS.out.grow hkk)
            clear hkk gg0
            go_wp2
            go_ret
            exact ⟨rfl, HS.out.keep⟩

theorem RootsWrites.walk {v1 v2 : Value} {w : World} (l r s : Int) (h : (lowest .u16 ≤ l ∧ l ≤ greatest .u16) ∧ (lowest .u16 ≤ r ∧ r ≤ greatest .u16) ∧ (lowest .u16 ≤ s ∧ s ≤ greatest .u16)) (xs1 : List Int) (hr1 : Rd w v1 (xs1.map (Value.int .u64))) (_ : ∀ x ∈ xs1, lowest .u64 ≤ x ∧ x ≤ greatest .u64) (hn1 : xs1.length ≤ maxLen) (xs2 : List Int) (hr2 : Rd w v2 (xs2.map (Value.int .u64))) (_ : ∀ x ∈ xs2, lowest .u64 ≤ x ∧ x ≤ greatest .u64) (hn2 : xs2.length ≤ maxLen) (a3 : Int) (a30 : lowest .u8 ≤ a3) (a31 : a3 ≤ greatest .u8) (a4 : Int) (a40 : lowest .u8 ≤ a4) (a41 : a4 ≤ greatest .u8) (x5 y5 : Int) (h5 : (lowest .u16 ≤ x5 ∧ x5 ≤ greatest .u16) ∧ (lowest .u16 ≤ y5 ∧ y5 ≤ greatest .u16)) :
    Calls Try.prog 7 #[.agg #[.int .u16 l, .int .u16 r, .int .u16 s], v1, v2, .int .u8 a3, .int .u8 a4, .agg #[.int .u16 x5, .int .u16 y5]] w fun e w' => e = .returned (.bool true) ∧ Below w.heap.size w w' := by
  obtain ⟨⟨l0, l1⟩, ⟨r0, r1⟩, s0, s1⟩ := h
  obtain ⟨⟨x50, x51⟩, y50, y51⟩ := h5
  simp [lowest, greatest] at l0 l1 r0 r1 s0 s1 a30 a31 a40 a41 x50 x51 y50 y51
  exact (RootsWrites.core l r s v1 xs1 v2 xs2 a3 a4 x5 y5 w l0 l1 r0 r1 s0 s1 hr1 hn1 hr2 hn2 a30 a31 a40 a41 x50 x51 y50 y51).mono fun e w' ⟨he, hk⟩ => ⟨he, hk.below⟩
end Go.Proofs.Ytaophnicdbmojaa
