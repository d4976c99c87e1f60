/-
  The walk of tumuluslaw05.SuperReads.
-/
import Derived.Test.YthejggahengfnaaFmtNo
import Derived.BigRegion
set_option linter.unusedSimpArgs false
set_option linter.unusedVariables false
namespace Go.Proofs.Ythejggahengfnaa
open Go.RowKit Go.Shelf

/-- Words that a u64 holds. -/
def U64s (xs : List Int) : Prop := ∀ x ∈ xs, 0 ≤ x ∧ x ≤ 18446744073709551615
theorem U64s.set {xs : List Int} (h : U64s xs) (i : Nat) {v : Int} (v0 : 0 ≤ v) (v1 : v ≤ 18446744073709551615) : U64s (xs.set i v) := fun x hx => by
  rcases List.mem_or_eq_of_mem_set hx with h1 | rfl
  · exact h x h1
  · exact ⟨v0, v1⟩
theorem U64s.zeros (n : Nat) : U64s (zeros n) := fun x hx => by
  have := List.eq_of_mem_replicate hx
  subst this; decide
theorem U64s.getD {xs : List Int} (h : U64s xs) (i : Nat) : 0 ≤ xs.getD i 0 ∧ xs.getD i 0 ≤ 18446744073709551615 := by
  rw [List.getD_eq_getElem?_getD]
  cases hx : xs[i]? with
  | none => simp
  | some x => exact h x (List.mem_of_getElem? hx)
theorem uw_getD {xs : List Int} {i : Nat} (h : i < xs.length) : (uw xs).toArray[i]? = some (.int .u64 (xs.getD i 0)) := by
  rw [getElem?_toArray_uw, List.getD_eq_getElem?_getD, List.getElem?_eq_getElem h]; rfl

theorem reads_no {v0 v1 v2 v3 : Int} {n : Nat} {a b c e : Int} (h0 : v0 = MAGIC) (h : Reads v0 v1 v2 v3 n a b c e) (p1 : 0 ≤ v1) (p2 : 0 ≤ v2) (p3 : 0 ≤ v3) (hb : ¬ (v1 ≤ 200 ∧ v2 ≤ 16 ∧ v3 ≤ 4096 ∧ 1 ≤ v2 ∧ v2 + 2 ≤ v1 ∧ 8 ≤ v3)) : a = 0 ∧ b = 0 ∧ c = 0 ∧ e = 1 := by
  by_cases hbig : 4096 < v1 ∨ 4096 < v2 ∨ 4096 < v3
  · exact h.big h0 hbig
  · refine h.bad h0 (by omega) (by omega) (by omega) fun ⟨hk, _⟩ => hb ?_
    obtain ⟨a1, a2, a3, a4, a5, a6⟩ := hk
    dsimp only at a1 a2 a3 a4 a5 a6
    omega

set_option maxRecDepth 100000 in
set_option maxHeartbeats 4000000 in
theorem SuperReads.core (l r s q0 q1 q2 q3 sm m : Int) (w : World) (l0 : 0 ≤ l) (l1 : l ≤ 65535) (r0 : 0 ≤ r) (r1 : r ≤ 65535) (s0 : 0 ≤ s) (s1 : s ≤ 65535) (hq : U64s [q0, q1, q2, q3]) (sm0 : 0 ≤ sm) (sm1 : sm ≤ 255) (m0 : 0 ≤ m) (m1 : m ≤ 255) :
    Calls Try.prog 9 #[.agg #[.int .u16 l, .int .u16 r, .int .u16 s], .agg #[.int .u64 q0, .int .u64 q1, .int .u64 q2, .int .u64 q3], .int .u8 sm, .int .u8 m] w fun e w' => e = .returned (.bool true) ∧ Keep w.heap.size [] w w' := by
  have hs0 := ((Sep.start w []).new 40 #[.int .u16 l, .int .u16 r, .int .u16 s]).new 55 #[.int .u64 q0, .int .u64 q1, .int .u64 q2, .int .u64 q3]
  simp only [World.size_alloc] at hs0
  have HS := Lib.hid hs0
  have HQ := Lib.hid hq
  clear hs0 hq
  go_enter Try.func9, Try.ntmps9
  go_wp2_with fail
  generalize (w.alloc _).alloc _ = w2 at *
  generalize w.heap.size = gx at *
  generalize gx + 1 = gw at *
  refine (awake5_any _).mono ?_
  rintro e w1 ⟨rfl, hk⟩
  replace HS := Lib.hid (HS.out.grow hk)
  clear hk
  have c0 := (HS.out.blk 0 rfl).cell 0
  simp at c0
  have c1 := (HS.out.blk 0 rfl).cell 1
  simp at c1
  have c2 := (HS.out.blk 0 rfl).cell 2
  simp at c2
  go_wp2_with fail
  refine (kmake l r s _ l0 l1 r0 r1 s0 s1).mono ?_
  rintro e w3 ⟨k, hk, hL, hR, hS, rfl, hkk⟩
  simp only [Kfg.cells]
  replace HS := Lib.hid ((HS.out.grow hkk).new 43 #[.int .i64 (k.L : Int), .int .i64 (k.R : Int), .int .i64 (k.S : Int)])
  have HK := Lib.hid hk
  clear hkk hk c0 c1 c2
  go_wp2_with fail
  generalize w3.alloc _ = w4 at *
  generalize w3.heap.size = gk at *
  refine (kwords k _ HK.out).mono ?_
  rintro e w1 ⟨rfl, hk⟩
  replace HS := Lib.hid (HS.out.grow hk)
  clear hk
  obtain ⟨kw, hkw⟩ : ∃ kw, k.words = kw := ⟨_, rfl⟩
  have hkl : 24 ≤ kw ∧ kw ≤ 10000 := by rw [← hkw]; have := Kfg.words_le HK.out; have := k.act_le; have := HK.out.l0; have := HK.out.r0; omega
  obtain ⟨n, hn⟩ : ∃ n : Nat, (kw : Int) + 8 * (m % 3 / 2) = n := ⟨((kw : Int) + 8 * (m % 3 / 2)).toNat, by omega⟩
  have hn8 : n % 8 = 0 := by have := k.words_mod; omega
  have hnl : 24 ≤ n ∧ n ≤ 11000 := by omega
  have hmk := fun w => make_zeros n w (by omega)
  have HKW := Lib.hid hkw
  have HN8 := Lib.hid hn8
  rw [hkw]
  clear hkw hn8 hkl
  replace HS := Lib.hid (HS.out.new 27 (uw (zeros n)).toArray)
  have c0 := (HS.out.blk 2 rfl).cell 0
  simp at c0
  have c1 := (HS.out.blk 2 rfl).cell 1
  simp at c1
  have c2 := (HS.out.blk 2 rfl).cell 2
  simp at c2
  have hkL : (k.L : Int) ≤ 200 := by have := HK.out.l1; omega
  have hkR : (k.R : Int) ≤ 16 := by have := HK.out.r1; omega
  have hkS : (k.S : Int) ≤ 4096 := by have := HK.out.s1; omega
  go_wp2_with fail
  clear hmk hn c0 c1 c2
  have hs1 := HS.out.new 55 #[.int .u64 6076848300954571569, .int .u64 (k.L : Int), .int .u64 (k.R : Int), .int .u64 (k.S : Int)]
  simp only [World.size_alloc] at hs1
  replace HS := Lib.hid hs1
  clear hs1
  generalize (w1.alloc _).alloc _ = w5 at *
  generalize w1.heap.size = gl at *
  generalize gl + 1 = gr at *
  have HR : Hid (gl ≠ gr ∧ gr ≠ gl) := ⟨HS.out.ne 3 4 rfl rfl (by decide), HS.out.ne 4 3 rfl rfl (by decide)⟩
  have HRW : Hid (gl ≠ gw ∧ gw ≠ gl) := ⟨HS.out.ne 3 1 rfl rfl (by decide), HS.out.ne 1 3 rfl rfl (by decide)⟩
  go_loopw [40] (fun v' wr => ∃ (j : Nat) (xs : List Int), j ≤ 4 ∧ v' = .int .i64 (j : Int) ∧ xs.length = n ∧ U64s xs ∧ Sep w [] [blkR gx 40 #[.int .u16 l, .int .u16 r, .int .u16 s], blkR gw 55 #[.int .u64 q0, .int .u64 q1, .int .u64 q2, .int .u64 q3], blkR gk 43 #[.int .i64 (k.L : Int), .int .i64 (k.R : Int), .int .i64 (k.S : Int)], blkR gl 27 (uw xs).toArray, blkR gr 55 #[.int .u64 6076848300954571569, .int .u64 (k.L : Int), .int .u64 (k.R : Int), .int .u64 (k.S : Int)]] wr) (fun v' _ => 4 - (intOf v').toNat)
  case atStart => exact ⟨0, zeros n, by omega, rfl, zeros_length n, U64s.zeros n, HS.out⟩
  case round =>
    clear HS
    obtain ⟨j, xs, hj, rfl, hxl, hxu, hs⟩ := hrel
    have HS := Lib.hid hs
    have HXL := Lib.hid hxl
    have HXU := Lib.hid hxu
    clear hs hxl hxu
    rcases (show j = 0 ∨ j = 1 ∨ j = 2 ∨ j = 3 ∨ j = 4 by omega) with rfl | rfl | rfl | rfl | rfl
    · as_aux_lemma =>
        have a1 := (HS.out.blk 1 rfl).cell 0
        simp at a1
        have b1 := (HS.out.blk 4 rfl).cell 0
        simp at b1
        have hb := HS.out.blk 3 rfl
        have z1 : wr.cell? ⟨gl, 0, none⟩ = some (.int .u64 (xs.getD 0 0)) := by rw [hb.cell]; exact uw_getD (by rw [HXL.out]; omega)
        have fz := hb.frozen 0
        have hr := HR.out
        have hrw := HRW.out
        obtain ⟨e1, e2⟩ := hr
        obtain ⟨e3, e4⟩ := hrw
        have hnI : (4 : Int) ≤ n := by omega
        clear hb
        go_wp2
        all_goals first
          | exact ⟨⟨1, xs.set 0 q0, by omega, by first | rfl | go_num | simp, by rw [List.length_set]; exact HXL.out, HXU.out.set 0 (HQ.out _ (by simp)).1 (HQ.out _ (by simp)).2, by have := HS.out.put (i := 3) rfl 0 (.int .u64 q0); rw [uw_set] at this; exact this⟩, by simp [intOf]⟩
          | exact ⟨⟨1, (xs.set 0 q0).set 0 6076848300954571569, by omega, by first | rfl | go_num | simp, by rw [List.length_set, List.length_set]; exact HXL.out, (HXU.out.set 0 (HQ.out _ (by simp)).1 (HQ.out _ (by simp)).2).set 0 (by omega) (by omega), by have := (HS.out.put (i := 3) rfl 0 (.int .u64 q0)).put (i := 3) rfl 0 (.int .u64 6076848300954571569); rw [uw_set, uw_set] at this; exact this⟩, by simp [intOf]⟩
    · as_aux_lemma =>
        have a1 := (HS.out.blk 1 rfl).cell 1
        simp at a1
        have b1 := (HS.out.blk 4 rfl).cell 1
        simp at b1
        have hb := HS.out.blk 3 rfl
        have z1 : wr.cell? ⟨gl, 1, none⟩ = some (.int .u64 (xs.getD 1 0)) := by rw [hb.cell]; exact uw_getD (by rw [HXL.out]; omega)
        have fz := hb.frozen 1
        have hr := HR.out
        have hrw := HRW.out
        obtain ⟨e1, e2⟩ := hr
        obtain ⟨e3, e4⟩ := hrw
        have hnI : (4 : Int) ≤ n := by omega
        clear hb
        go_wp2
        all_goals first
          | exact ⟨⟨2, xs.set 1 q1, by omega, by first | rfl | go_num | simp, by rw [List.length_set]; exact HXL.out, HXU.out.set 1 (HQ.out _ (by simp)).1 (HQ.out _ (by simp)).2, by have := HS.out.put (i := 3) rfl 1 (.int .u64 q1); rw [uw_set] at this; exact this⟩, by simp [intOf]⟩
          | exact ⟨⟨2, (xs.set 1 q1).set 1 k.L, by omega, by first | rfl | go_num | simp, by rw [List.length_set, List.length_set]; exact HXL.out, (HXU.out.set 1 (HQ.out _ (by simp)).1 (HQ.out _ (by simp)).2).set 1 (by omega) (by omega), by have := (HS.out.put (i := 3) rfl 1 (.int .u64 q1)).put (i := 3) rfl 1 (.int .u64 k.L); rw [uw_set, uw_set] at this; exact this⟩, by simp [intOf]⟩
    · as_aux_lemma =>
        have a1 := (HS.out.blk 1 rfl).cell 2
        simp at a1
        have b1 := (HS.out.blk 4 rfl).cell 2
        simp at b1
        have hb := HS.out.blk 3 rfl
        have z1 : wr.cell? ⟨gl, 2, none⟩ = some (.int .u64 (xs.getD 2 0)) := by rw [hb.cell]; exact uw_getD (by rw [HXL.out]; omega)
        have fz := hb.frozen 2
        have hr := HR.out
        have hrw := HRW.out
        obtain ⟨e1, e2⟩ := hr
        obtain ⟨e3, e4⟩ := hrw
        have hnI : (4 : Int) ≤ n := by omega
        clear hb
        go_wp2
        all_goals first
          | exact ⟨⟨3, xs.set 2 q2, by omega, by first | rfl | go_num | simp, by rw [List.length_set]; exact HXL.out, HXU.out.set 2 (HQ.out _ (by simp)).1 (HQ.out _ (by simp)).2, by have := HS.out.put (i := 3) rfl 2 (.int .u64 q2); rw [uw_set] at this; exact this⟩, by simp [intOf]⟩
          | exact ⟨⟨3, (xs.set 2 q2).set 2 k.R, by omega, by first | rfl | go_num | simp, by rw [List.length_set, List.length_set]; exact HXL.out, (HXU.out.set 2 (HQ.out _ (by simp)).1 (HQ.out _ (by simp)).2).set 2 (by omega) (by omega), by have := (HS.out.put (i := 3) rfl 2 (.int .u64 q2)).put (i := 3) rfl 2 (.int .u64 k.R); rw [uw_set, uw_set] at this; exact this⟩, by simp [intOf]⟩
    · as_aux_lemma =>
        have a1 := (HS.out.blk 1 rfl).cell 3
        simp at a1
        have b1 := (HS.out.blk 4 rfl).cell 3
        simp at b1
        have hb := HS.out.blk 3 rfl
        have z1 : wr.cell? ⟨gl, 3, none⟩ = some (.int .u64 (xs.getD 3 0)) := by rw [hb.cell]; exact uw_getD (by rw [HXL.out]; omega)
        have fz := hb.frozen 3
        have hr := HR.out
        have hrw := HRW.out
        obtain ⟨e1, e2⟩ := hr
        obtain ⟨e3, e4⟩ := hrw
        have hnI : (4 : Int) ≤ n := by omega
        clear hb
        go_wp2
        all_goals first
          | exact ⟨⟨4, xs.set 3 q3, by omega, by first | rfl | go_num | simp, by rw [List.length_set]; exact HXL.out, HXU.out.set 3 (HQ.out _ (by simp)).1 (HQ.out _ (by simp)).2, by have := HS.out.put (i := 3) rfl 3 (.int .u64 q3); rw [uw_set] at this; exact this⟩, by simp [intOf]⟩
          | exact ⟨⟨4, (xs.set 3 q3).set 3 k.S, by omega, by first | rfl | go_num | simp, by rw [List.length_set, List.length_set]; exact HXL.out, (HXU.out.set 3 (HQ.out _ (by simp)).1 (HQ.out _ (by simp)).2).set 3 (by omega) (by omega), by have := (HS.out.put (i := 3) rfl 3 (.int .u64 q3)).put (i := 3) rfl 3 (.int .u64 k.S); rw [uw_set, uw_set] at this; exact this⟩, by simp [intOf]⟩
    · have hxl := HXL.out
      have hrd : Rd wr (.slice (some ⟨gl, 0, none⟩) n n) (uw xs) := by
        have := Rd.of_uw (w := wr) (n := n) (ex := []) (xs := xs) (by rw [List.append_nil]; exact HS.out.blk 3 rfl)
        rwa [hxl] at this
      have HRD := Lib.hid hrd
      clear hrd hxl
      go_wp2_with fail
      refine (new2_any _ xs _ HRD.out (by rw [HXL.out]; omega)).mono ?_
      rintro e w1 ⟨d, rfl, hdb, hd, hk⟩
      replace HS := Lib.hid (HS.out.add hk (r := devR d _) hd hdb)
      clear hdb hd hk
      have hpx : pad xs = xs := pad_of (by rw [HXL.out]; exact HN8.out)
      have hnw : ∀ i, (St.fresh (-1) 0 xs).nw i = xs.getD i 0 := fun i => by show (pad xs).getD i 0 = _; rw [hpx]
      have hln : (St.fresh (-1) 0 xs).now.length = n := by show (pad xs).length = n; rw [hpx]; exact HXL.out
      obtain ⟨a, b, c, er, hrd⟩ := reads_ex ((St.fresh (-1) 0 xs).nw 0) ((St.fresh (-1) 0 xs).nw 1) ((St.fresh (-1) 0 xs).nw 2) ((St.fresh (-1) 0 xs).nw 3) (St.fresh (-1) 0 xs).now.length
      have HRDS := Lib.hid hrd
      have HNW := Lib.hid hnw
      have HLN := Lib.hid hln
      clear hrd hnw hln hpx
      go_wp2_with fail
      refine (read_any d _ a b c er _ (HS.out.dev 5 rfl) (by rw [HNW.out]; exact (HXU.out.getD 1).1) (by rw [HNW.out]; exact (HXU.out.getD 2).1) (by rw [HNW.out]; exact (HXU.out.getD 3).1) HRDS.out).mono ?_
      rintro e w1 ⟨rfl, hk⟩
      replace HS := Lib.hid (HS.out.grow hk)
      clear hk
      rw [HNW.out, HNW.out, HNW.out, HNW.out, HLN.out] at HRDS
      replace HS := Lib.hid (HS.out.new 43 #[.int .i64 a, .int .i64 b, .int .i64 c])
      have u0 := HXU.out.getD 0
      have u1 := HXU.out.getD 1
      have u2 := HXU.out.getD 2
      have u3 := HXU.out.getD 3
      have hx0 := uw_getD (i := 0) (xs := xs) (by rw [HXL.out]; omega)
      have hx1 := uw_getD (i := 1) (xs := xs) (by rw [HXL.out]; omega)
      have hx2 := uw_getD (i := 2) (xs := xs) (by rw [HXL.out]; omega)
      have hx3 := uw_getD (i := 3) (xs := xs) (by rw [HXL.out]; omega)
      generalize xs.getD 0 0 = x0 at *
      generalize xs.getD 1 0 = x1 at *
      generalize xs.getD 2 0 = x2 at *
      generalize xs.getD 3 0 = x3 at *
      obtain ⟨u1a, u1b⟩ := u1
      obtain ⟨u2a, u2b⟩ := u2
      obtain ⟨u3a, u3b⟩ := u3
      have HX0 := Lib.hid hx0
      have HX1 := Lib.hid hx1
      have HX2 := Lib.hid hx2
      have HX3 := Lib.hid hx3
      clear hx0 hx1 hx2 hx3 u0
      have hnI : (24 : Int) ≤ n := by omega
      have k0 : (w1.alloc (.cells #[.int .i64 a, .int .i64 b, .int .i64 c] 43)).cell? ⟨gl, 0, none⟩ = some (.int .u64 x0) := by rw [(HS.out.blk 3 rfl).cell]; exact HX0.out
      by_cases hmg : x0 = MAGIC
      · have HMG := Lib.hid hmg
        have hmg1 : (x0 == 6076848300954571569) = true := by rw [beq_iff_eq]; exact hmg
        have hmg2 : (x0 != 6076848300954571569) = false := by simp [bne, hmg1]
        clear hmg
        go_wp2_with fail
        clear k0 hmg1 hmg2
        generalize w1.alloc _ = w6 at *
        generalize w1.heap.size = gg at *
        have hcs : 200 < x1 ∨ (x1 ≤ 200 ∧ 16 < x2) ∨ (x1 ≤ 200 ∧ x2 ≤ 16 ∧ 4096 < x3) ∨ (x1 ≤ 200 ∧ x2 ≤ 16 ∧ x3 ≤ 4096 ∧ x2 < 1) ∨ (x1 ≤ 200 ∧ x2 ≤ 16 ∧ x3 ≤ 4096 ∧ 1 ≤ x2 ∧ x1 < x2 + 2) ∨ (x1 ≤ 200 ∧ x2 ≤ 16 ∧ x3 ≤ 4096 ∧ 1 ≤ x2 ∧ x2 + 2 ≤ x1 ∧ x3 < 8) ∨ (x1 ≤ 200 ∧ x2 ≤ 16 ∧ x3 ≤ 4096 ∧ 1 ≤ x2 ∧ x2 + 2 ≤ x1 ∧ 8 ≤ x3) := by omega
        rcases hcs with h | ⟨h1, h⟩ | ⟨h1, h2, h⟩ | ⟨h1, h2, h3, h⟩ | ⟨h1, h2, h3, h4, h⟩ | ⟨h1, h2, h3, h4, h5, h⟩ | ⟨h1, h2, h3, h4, h5, h6⟩
        · as_aux_lemma =>
            obtain ⟨rfl, rfl, rfl, rfl⟩ := reads_no HMG.out HRDS.out u1a u2a u3a (by omega)
            have e1 : ∀ x : Ext w6, x.now.cell? ⟨gl, 1, none⟩ = some (.int .u64 x1) := fun x => x.cell (by rw [(HS.out.blk 3 rfl).cell]; exact HX1.out)
            have e2 : ∀ x : Ext w6, x.now.cell? ⟨gl, 2, none⟩ = some (.int .u64 x2) := fun x => x.cell (by rw [(HS.out.blk 3 rfl).cell]; exact HX2.out)
            have e3 : ∀ x : Ext w6, x.now.cell? ⟨gl, 3, none⟩ = some (.int .u64 x3) := fun x => x.cell (by rw [(HS.out.blk 3 rfl).cell]; exact HX3.out)
            have hsum : x2 ≤ 16 → IntKind.u64.wrap (x2 + 2) = x2 + 2 := fun h => by rw [IntKind.wrap_u64]; omega
            try (have hsum2 := hsum (by omega))
            clear hsum
            have d0 : decide (200 < x1) = true := by (simp; omega)
            refine wp_region_ext (by kernel_rfl) (by kernel_rfl) ?_
            repeat (go_big_quiet_step ((first | fail)))
            refine wpQuiet_nil ?_
            rintro _ ⟨x, rfl⟩
            replace HS := Lib.hid (HS.out.grow x.keep)
            clear e1 e2 e3 d0
            have y0 := (HS.out.blk 6 rfl).cell 0
            simp at y0
            have y1 := (HS.out.blk 6 rfl).cell 1
            simp at y1
            have y2 := (HS.out.blk 6 rfl).cell 2
            simp at y2
            go_wp2
            go_ret
            exact ⟨rfl, HS.out.keep⟩
        · as_aux_lemma =>
            obtain ⟨rfl, rfl, rfl, rfl⟩ := reads_no HMG.out HRDS.out u1a u2a u3a (by omega)
            have e1 : ∀ x : Ext w6, x.now.cell? ⟨gl, 1, none⟩ = some (.int .u64 x1) := fun x => x.cell (by rw [(HS.out.blk 3 rfl).cell]; exact HX1.out)
            have e2 : ∀ x : Ext w6, x.now.cell? ⟨gl, 2, none⟩ = some (.int .u64 x2) := fun x => x.cell (by rw [(HS.out.blk 3 rfl).cell]; exact HX2.out)
            have e3 : ∀ x : Ext w6, x.now.cell? ⟨gl, 3, none⟩ = some (.int .u64 x3) := fun x => x.cell (by rw [(HS.out.blk 3 rfl).cell]; exact HX3.out)
            have hsum : x2 ≤ 16 → IntKind.u64.wrap (x2 + 2) = x2 + 2 := fun h => by rw [IntKind.wrap_u64]; omega
            try (have hsum2 := hsum (by omega))
            clear hsum
            have d0 : decide (200 < x1) = false := by (simp; omega)
            have d1 : decide (16 < x2) = true := by (simp; omega)
            refine wp_region_ext (by kernel_rfl) (by kernel_rfl) ?_
            repeat (go_big_quiet_step ((first | fail)))
            refine wpQuiet_nil ?_
            rintro _ ⟨x, rfl⟩
            replace HS := Lib.hid (HS.out.grow x.keep)
            clear e1 e2 e3 d0 d1
            have y0 := (HS.out.blk 6 rfl).cell 0
            simp at y0
            have y1 := (HS.out.blk 6 rfl).cell 1
            simp at y1
            have y2 := (HS.out.blk 6 rfl).cell 2
            simp at y2
            go_wp2
            go_ret
            exact ⟨rfl, HS.out.keep⟩
        · as_aux_lemma =>
            obtain ⟨rfl, rfl, rfl, rfl⟩ := reads_no HMG.out HRDS.out u1a u2a u3a (by omega)
            have e1 : ∀ x : Ext w6, x.now.cell? ⟨gl, 1, none⟩ = some (.int .u64 x1) := fun x => x.cell (by rw [(HS.out.blk 3 rfl).cell]; exact HX1.out)
            have e2 : ∀ x : Ext w6, x.now.cell? ⟨gl, 2, none⟩ = some (.int .u64 x2) := fun x => x.cell (by rw [(HS.out.blk 3 rfl).cell]; exact HX2.out)
            have e3 : ∀ x : Ext w6, x.now.cell? ⟨gl, 3, none⟩ = some (.int .u64 x3) := fun x => x.cell (by rw [(HS.out.blk 3 rfl).cell]; exact HX3.out)
            have hsum : x2 ≤ 16 → IntKind.u64.wrap (x2 + 2) = x2 + 2 := fun h => by rw [IntKind.wrap_u64]; omega
            try (have hsum2 := hsum (by omega))
            clear hsum
            have d0 : decide (200 < x1) = false := by (simp; omega)
            have d1 : decide (16 < x2) = false := by (simp; omega)
            have d2 : decide (4096 < x3) = true := by (simp; omega)
            refine wp_region_ext (by kernel_rfl) (by kernel_rfl) ?_
            repeat (go_big_quiet_step ((first | fail)))
            refine wpQuiet_nil ?_
            rintro _ ⟨x, rfl⟩
            replace HS := Lib.hid (HS.out.grow x.keep)
            clear e1 e2 e3 d0 d1 d2
            have y0 := (HS.out.blk 6 rfl).cell 0
            simp at y0
            have y1 := (HS.out.blk 6 rfl).cell 1
            simp at y1
            have y2 := (HS.out.blk 6 rfl).cell 2
            simp at y2
            go_wp2
            go_ret
            exact ⟨rfl, HS.out.keep⟩
        · as_aux_lemma =>
            obtain ⟨rfl, rfl, rfl, rfl⟩ := reads_no HMG.out HRDS.out u1a u2a u3a (by omega)
            have e1 : ∀ x : Ext w6, x.now.cell? ⟨gl, 1, none⟩ = some (.int .u64 x1) := fun x => x.cell (by rw [(HS.out.blk 3 rfl).cell]; exact HX1.out)
            have e2 : ∀ x : Ext w6, x.now.cell? ⟨gl, 2, none⟩ = some (.int .u64 x2) := fun x => x.cell (by rw [(HS.out.blk 3 rfl).cell]; exact HX2.out)
            have e3 : ∀ x : Ext w6, x.now.cell? ⟨gl, 3, none⟩ = some (.int .u64 x3) := fun x => x.cell (by rw [(HS.out.blk 3 rfl).cell]; exact HX3.out)
            have hsum : x2 ≤ 16 → IntKind.u64.wrap (x2 + 2) = x2 + 2 := fun h => by rw [IntKind.wrap_u64]; omega
            try (have hsum2 := hsum (by omega))
            clear hsum
            have d0 : decide (200 < x1) = false := by (simp; omega)
            have d1 : decide (16 < x2) = false := by (simp; omega)
            have d2 : decide (4096 < x3) = false := by (simp; omega)
            have d3 : decide (x2 < 1) = true := by (simp; omega)
            refine wp_region_ext (by kernel_rfl) (by kernel_rfl) ?_
            repeat (go_big_quiet_step ((first | fail)))
            refine wpQuiet_nil ?_
            rintro _ ⟨x, rfl⟩
            replace HS := Lib.hid (HS.out.grow x.keep)
            clear e1 e2 e3 d0 d1 d2 d3
            have y0 := (HS.out.blk 6 rfl).cell 0
            simp at y0
            have y1 := (HS.out.blk 6 rfl).cell 1
            simp at y1
            have y2 := (HS.out.blk 6 rfl).cell 2
            simp at y2
            go_wp2
            go_ret
            exact ⟨rfl, HS.out.keep⟩
        · as_aux_lemma =>
            obtain ⟨rfl, rfl, rfl, rfl⟩ := reads_no HMG.out HRDS.out u1a u2a u3a (by omega)
            have e1 : ∀ x : Ext w6, x.now.cell? ⟨gl, 1, none⟩ = some (.int .u64 x1) := fun x => x.cell (by rw [(HS.out.blk 3 rfl).cell]; exact HX1.out)
            have e2 : ∀ x : Ext w6, x.now.cell? ⟨gl, 2, none⟩ = some (.int .u64 x2) := fun x => x.cell (by rw [(HS.out.blk 3 rfl).cell]; exact HX2.out)
            have e3 : ∀ x : Ext w6, x.now.cell? ⟨gl, 3, none⟩ = some (.int .u64 x3) := fun x => x.cell (by rw [(HS.out.blk 3 rfl).cell]; exact HX3.out)
            have hsum : x2 ≤ 16 → IntKind.u64.wrap (x2 + 2) = x2 + 2 := fun h => by rw [IntKind.wrap_u64]; omega
            try (have hsum2 := hsum (by omega))
            clear hsum
            have d0 : decide (200 < x1) = false := by (simp; omega)
            have d1 : decide (16 < x2) = false := by (simp; omega)
            have d2 : decide (4096 < x3) = false := by (simp; omega)
            have d3 : decide (x2 < 1) = false := by (simp; omega)
            have d4 : decide (x1 < x2 + 2) = true := by (simp; omega)
            refine wp_region_ext (by kernel_rfl) (by kernel_rfl) ?_
            repeat (go_big_quiet_step ((first | fail)))
            refine wpQuiet_nil ?_
            rintro _ ⟨x, rfl⟩
            replace HS := Lib.hid (HS.out.grow x.keep)
            clear e1 e2 e3 d0 d1 d2 d3 d4
            have y0 := (HS.out.blk 6 rfl).cell 0
            simp at y0
            have y1 := (HS.out.blk 6 rfl).cell 1
            simp at y1
            have y2 := (HS.out.blk 6 rfl).cell 2
            simp at y2
            go_wp2
            go_ret
            exact ⟨rfl, HS.out.keep⟩
        · as_aux_lemma =>
            obtain ⟨rfl, rfl, rfl, rfl⟩ := reads_no HMG.out HRDS.out u1a u2a u3a (by omega)
            have e1 : ∀ x : Ext w6, x.now.cell? ⟨gl, 1, none⟩ = some (.int .u64 x1) := fun x => x.cell (by rw [(HS.out.blk 3 rfl).cell]; exact HX1.out)
            have e2 : ∀ x : Ext w6, x.now.cell? ⟨gl, 2, none⟩ = some (.int .u64 x2) := fun x => x.cell (by rw [(HS.out.blk 3 rfl).cell]; exact HX2.out)
            have e3 : ∀ x : Ext w6, x.now.cell? ⟨gl, 3, none⟩ = some (.int .u64 x3) := fun x => x.cell (by rw [(HS.out.blk 3 rfl).cell]; exact HX3.out)
            have hsum : x2 ≤ 16 → IntKind.u64.wrap (x2 + 2) = x2 + 2 := fun h => by rw [IntKind.wrap_u64]; omega
            try (have hsum2 := hsum (by omega))
            clear hsum
            have d0 : decide (200 < x1) = false := by (simp; omega)
            have d1 : decide (16 < x2) = false := by (simp; omega)
            have d2 : decide (4096 < x3) = false := by (simp; omega)
            have d3 : decide (x2 < 1) = false := by (simp; omega)
            have d4 : decide (x1 < x2 + 2) = false := by (simp; omega)
            have d5 : decide (x3 < 8) = true := by (simp; omega)
            refine wp_region_ext (by kernel_rfl) (by kernel_rfl) ?_
            repeat (go_big_quiet_step ((first | fail)))
            refine wpQuiet_nil ?_
            rintro _ ⟨x, rfl⟩
            replace HS := Lib.hid (HS.out.grow x.keep)
            clear e1 e2 e3 d0 d1 d2 d3 d4 d5
            have y0 := (HS.out.blk 6 rfl).cell 0
            simp at y0
            have y1 := (HS.out.blk 6 rfl).cell 1
            simp at y1
            have y2 := (HS.out.blk 6 rfl).cell 2
            simp at y2
            go_wp2
            go_ret
            exact ⟨rfl, HS.out.keep⟩
        · as_aux_lemma =>
            obtain ⟨X1, rfl⟩ := Int.eq_ofNat_of_zero_le u1a
            obtain ⟨X2, rfl⟩ := Int.eq_ofNat_of_zero_le u2a
            obtain ⟨X3, rfl⟩ := Int.eq_ofNat_of_zero_le u3a
            have hok : (Kfg.mk X1 X2 X3).Ok := ⟨by show 1 ≤ X2; omega, by show X2 ≤ 16; omega, by show X2 + 2 ≤ X1; omega, by show X1 ≤ 200; omega, by show 8 ≤ X3; omega, by show X3 ≤ 4096; omega⟩
            have HOK := Lib.hid hok
            have hgood := HRDS.out.good HMG.out (by omega) (by omega) (by omega)
            have hbad := HRDS.out.bad HMG.out (by omega) (by omega) (by omega)
            simp only [Int.toNat_natCast] at hgood hbad
            have HG := Lib.hid hgood
            have HB := Lib.hid hbad
            clear hok hgood hbad
            have e1 : ∀ x : Ext w6, x.now.cell? ⟨gl, 1, none⟩ = some (.int .u64 (X1 : Int)) := fun x => x.cell (by rw [(HS.out.blk 3 rfl).cell]; exact HX1.out)
            have e2 : ∀ x : Ext w6, x.now.cell? ⟨gl, 2, none⟩ = some (.int .u64 (X2 : Int)) := fun x => x.cell (by rw [(HS.out.blk 3 rfl).cell]; exact HX2.out)
            have e3 : ∀ x : Ext w6, x.now.cell? ⟨gl, 3, none⟩ = some (.int .u64 (X3 : Int)) := fun x => x.cell (by rw [(HS.out.blk 3 rfl).cell]; exact HX3.out)
            have d0 : decide (200 < (X1 : Int)) = false := by (simp; omega)
            have d1 : decide (16 < (X2 : Int)) = false := by (simp; omega)
            have d2 : decide (4096 < (X3 : Int)) = false := by (simp; omega)
            have d3 : decide ((X2 : Int) < 1) = false := by (simp; omega)
            have d4 : decide ((X1 : Int) < (X2 : Int) + 2) = false := by (simp; omega)
            have d5 : decide ((X3 : Int) < 8) = false := by (simp; omega)
            have hsum2 : IntKind.u64.wrap ((X2 : Int) + 2) = (X2 : Int) + 2 := by rw [IntKind.wrap_u64]; omega
            refine wp_region_ext (by kernel_rfl) (by kernel_rfl) ?_
            repeat (go_big_quiet_step ((first | fail)))
            refine wpQuiet_nil ?_
            rintro _ ⟨x, rfl⟩
            replace HS := Lib.hid (HS.out.grow x.keep)
            clear e1 e2 e3 hsum2 d0 d1 d2 d3 d4 d5
            have k1 : x.now.cell? ⟨gl, 1, none⟩ = some (.int .u64 (X1 : Int)) := by rw [(HS.out.blk 3 rfl).cell]; exact HX1.out
            have k2 : x.now.cell? ⟨gl, 2, none⟩ = some (.int .u64 (X2 : Int)) := by rw [(HS.out.blk 3 rfl).cell]; exact HX2.out
            have k3 : x.now.cell? ⟨gl, 3, none⟩ = some (.int .u64 (X3 : Int)) := by rw [(HS.out.blk 3 rfl).cell]; exact HX3.out
            have hlt := (HS.out.blk 3 rfl).lt
            go_wp2_with fail
            go_big_region
            as_aux_lemma =>
              replace HS := Lib.hid ((HS.out.new 43 #[.int .i64 (X1 : Int), .int .i64 (X2 : Int), .int .i64 (X3 : Int)]).drew)
              clear k1 k2 k3 hlt
              generalize (x.now.alloc _).drew = w7 at *
              generalize x.now.heap.size = gt at *
              have z0 := (HS.out.blk 7 rfl).cell 0
              simp at z0
              have z1 := (HS.out.blk 7 rfl).cell 1
              simp at z1
              have z2 := (HS.out.blk 7 rfl).cell 2
              simp at z2
              go_wp2_with fail
              refine (kwords (Kfg.mk X1 X2 X3) _ HOK.out).mono ?_
              rintro e w1 ⟨rfl, hk⟩
              replace HS := Lib.hid (HS.out.grow hk)
              clear hk
              clear z0 z1 z2
              by_cases hw : n = (Kfg.mk X1 X2 X3).words
              · obtain ⟨rfl, rfl, rfl, rfl⟩ := HG.out ⟨HOK.out, hw⟩
                have hw1 : (((Kfg.mk X1 X2 X3).words : Int) == (n : Int)) = true := by rw [beq_iff_eq]; omega
                have hw2 : (((Kfg.mk X1 X2 X3).words : Int) != (n : Int)) = false := by simp [bne, hw1]
                clear hw
                have z0 := (HS.out.blk 7 rfl).cell 0
                simp at z0
                have z1 := (HS.out.blk 7 rfl).cell 1
                simp at z1
                have z2 := (HS.out.blk 7 rfl).cell 2
                simp at z2
                have y0 := (HS.out.blk 6 rfl).cell 0
                simp at y0
                have y1 := (HS.out.blk 6 rfl).cell 1
                simp at y1
                have y2 := (HS.out.blk 6 rfl).cell 2
                simp at y2
                go_wp2
                go_ret
                exact ⟨rfl, HS.out.keep⟩
              · obtain ⟨rfl, rfl, rfl, rfl⟩ := HB.out (fun h => hw h.2)
                have hw1 : (((Kfg.mk X1 X2 X3).words : Int) == (n : Int)) = false := by rw [beq_eq_false_iff_ne]; omega
                have hw2 : (((Kfg.mk X1 X2 X3).words : Int) != (n : Int)) = true := by simp [bne, hw1]
                clear hw
                have y0 := (HS.out.blk 6 rfl).cell 0
                simp at y0
                have y1 := (HS.out.blk 6 rfl).cell 1
                simp at y1
                have y2 := (HS.out.blk 6 rfl).cell 2
                simp at y2
                go_wp2
                go_ret
                exact ⟨rfl, HS.out.keep⟩
      · obtain ⟨rfl, rfl, rfl, rfl⟩ := HRDS.out.magic hmg
        have hmg1 : (x0 == 6076848300954571569) = false := by rw [beq_eq_false_iff_ne]; exact hmg
        have hmg2 : (x0 != 6076848300954571569) = true := by simp [bne, hmg1]
        clear hmg
        have y0 := (HS.out.blk 6 rfl).cell 0
        simp at y0
        have y1 := (HS.out.blk 6 rfl).cell 1
        simp at y1
        have y2 := (HS.out.blk 6 rfl).cell 2
        simp at y2
        go_wp2
        go_ret
        exact ⟨rfl, HS.out.keep⟩

theorem SuperReads.walk {w : World} (l r s : Int) (h : (lowest .u16 ≤ l ∧ l ≤ greatest .u16) ∧ (lowest .u16 ≤ r ∧ r ≤ greatest .u16) ∧ (lowest .u16 ≤ s ∧ s ≤ greatest .u16)) (q0 q1 q2 q3 : Int) (hq : (lowest .u64 ≤ q0 ∧ q0 ≤ greatest .u64) ∧ (lowest .u64 ≤ q1 ∧ q1 ≤ greatest .u64) ∧ (lowest .u64 ≤ q2 ∧ q2 ≤ greatest .u64) ∧ (lowest .u64 ≤ q3 ∧ q3 ≤ greatest .u64)) (sm : Int) (sm0 : lowest .u8 ≤ sm) (sm1 : sm ≤ greatest .u8) (m : Int) (m0 : lowest .u8 ≤ m) (m1 : m ≤ greatest .u8) :
    Calls Try.prog 9 #[.agg #[.int .u16 l, .int .u16 r, .int .u16 s], .agg #[.int .u64 q0, .int .u64 q1, .int .u64 q2, .int .u64 q3], .int .u8 sm, .int .u8 m] w fun e w' => e = .returned (.bool true) ∧ Below w.heap.size w w' := by
  obtain ⟨⟨l0, l1⟩, ⟨r0, r1⟩, s0, s1⟩ := h
  have hu : U64s [q0, q1, q2, q3] := by
    intro x hx
    simp only [lowest, greatest] at hq
    simp only [List.mem_cons, List.not_mem_nil, or_false] at hx
    rcases hx with rfl | rfl | rfl | rfl
    · exact hq.1
    · exact hq.2.1
    · exact hq.2.2.1
    · exact hq.2.2.2
  simp [lowest, greatest] at l0 l1 r0 r1 s0 s1 sm0 sm1 m0 m1
  exact (SuperReads.core l r s q0 q1 q2 q3 sm m w l0 l1 r0 r1 s0 s1 hu sm0 sm1 m0 m1).mono fun e w' ⟨he, hk⟩ => ⟨he, hk.below⟩
end Go.Proofs.Ythejggahengfnaa
