/-
  Package roots: Write, of any function that stores.
-/
import Derived.Test.YtaophnicdbmojaaRoots
import Derived.Test.YtaophnicdbmojaaMerge
set_option linter.unusedSimpArgs false
set_option linter.unusedVariables false
set_option maxRecDepth 100000
namespace Go.Proofs.Ytaophnicdbmojaa
open Go.RowKit Go.Shelf

/-- A function that stores words: what it answers, what stands; a word that stands already isn't stored. -/
structure Takes (G : FuncId) (bs cap : Array Value) (d : DevI) (na : Nat) (ws : List Int) (J : Nat → Res → Prop) (F : Int → Res → Prop) : Prop where
  enters : Enters Try.prog G
  step : ∀ i, i < ws.length → ∀ r, J i r → ∃ x : Int,
    (∀ w, r.holds w → Calls Try.prog 29 #[.pointer (some ⟨d.b, 0, none⟩), .int .i64 ((na + i : Nat) : Int)] w fun e w' => e = .returned (.int .u64 x) ∧ w = w') ∧
    (x = ws.getD i 0 → J (i + 1) r) ∧
    (x ≠ ws.getD i 0 → ∀ w, r.holds w → Calls Try.prog G (bs ++ (#[.int .i64 ((na + i : Nat) : Int), .int .u64 (ws.getD i 0)] ++ cap)) w fun e w' =>
      ∃ (err : Int) (r' : Res), e = .returned (.int .i64 err) ∧ Keep w.heap.size r.blocks w w' ∧ r'.holds w' ∧ (∀ k ∈ r'.blocks, k ∈ r.blocks ∨ w.heap.size ≤ k) ∧ ((err = 0 ∧ J (i + 1) r') ∨ (err ≠ 0 ∧ F err r')))

set_option maxHeartbeats 4000000 in
theorem rwrite_any (d : DevI) (k : Kfg) (a u : Nat) (rv : Value) (rs : List Int) (G : FuncId) (bs cap : Array Value) (J : Nat → Res → Prop) (F : Int → Res → Prop) (r : Res) (w : World) (hk : k.Ok) (ha : a ≤ 1) (hu : u ≤ 1000000) (hr : Rd w rv (uw rs)) (hr0 : 0 < rs.length) (hr1 : rs.length ≤ 1000)
    (hT : Takes G bs cap d k.act ((a : Int) :: (u : Int) :: rs) J F) (hJ : J 0 r) (hh : r.holds w) :
    Calls Try.prog 28 #[.pointer (some ⟨d.b, 0, none⟩), .agg k.cells, .agg (rbC a u rv), .func (.func G) bs cap] w fun e w' => ∃ (err : Int) (r' : Res), e = .returned (.int .i64 err) ∧ Sep w r.blocks [r'] w' ∧ ((err = 0 ∧ J (rs.length + 2) r') ∨ (err ≠ 0 ∧ F err r')) := by
  have HK := Lib.hid hk
  have HT := Lib.hid hT
  have HJ := Lib.hid hJ
  have HR := Lib.hid hr
  have HS := Lib.hid (Sep.one hh)
  have hw := Kfg.words_le hk
  obtain ⟨RA, RC, rfl, _⟩ := hr.cellAt
  clear hk hT hJ hr hh
  simp only [Kfg.cells, rbC] at *
  have g1 : IntKind.u64.wrap (a : Int) = (a : Int) := by rw [IntKind.wrap_u64]; omega
  have g2 : IntKind.u64.wrap (u : Int) = (u : Int) := by rw [IntKind.wrap_u64]; omega
  go_enter Try.func28, Try.ntmps28
  go_wp2_with (at_builtin; refine of_stop ?_)
  unfold Stop
  obtain ⟨ws, hws⟩ : ∃ ws : List Int, (a : Int) :: (u : Int) :: rs = ws := ⟨_, rfl⟩
  have hwl : ws.length = rs.length + 2 := by rw [← hws]; simp
  have hwu : [Value.int .u64 (a : Int), .int .u64 (u : Int)] ++ uw rs = uw ws := by rw [← hws]; simp [uw]
  rw [hws] at HT
  replace HS := Lib.hid (((HS.out.new 29 #[.int .i64 (k.L : Int), .int .i64 (k.R : Int), .int .i64 (k.S : Int)]).new 39 #[.int .i64 (a : Int), .int .i64 (u : Int), .slice RA rs.length RC]).add ((Keep.refl _ _ _).alloc (Nat.le_refl _) _) (r := rowR 25 _ _) (ownsRow_new _ 25 [.int .u64 (a : Int), .int .u64 (u : Int)] (by simp)) (by simp [rowR, Value.ownBlock]))
  rw [show (w.alloc (.cells #[.int .i64 (k.L : Int), .int .i64 (k.R : Int), .int .i64 (k.S : Int)] 29)).heap.size = w.heap.size + 1 by simp, show ((w.alloc (.cells #[.int .i64 (k.L : Int), .int .i64 (k.R : Int), .int .i64 (k.S : Int)] 29)).alloc (.cells #[.int .i64 (a : Int), .int .i64 (u : Int), .slice RA rs.length RC] 39)).heap.size = w.heap.size + 1 + 1 by simp] at HS
  have hk3 : Keep w.heap.size [] w (((w.alloc (.cells #[.int .i64 (k.L : Int), .int .i64 (k.R : Int), .int .i64 (k.S : Int)] 29)).alloc (.cells #[.int .i64 (a : Int), .int .i64 (u : Int), .slice RA rs.length RC] 39)).alloc (.cells #[.int .u64 (a : Int), .int .u64 (u : Int)] 25)) :=
    (((Keep.refl _ _ _).alloc (Nat.le_refl _) _).alloc (by simp) _).alloc (by simp; omega) _
  obtain ⟨A', C', hA, hcells⟩ := HR.out.keep hk3
  obtain ⟨g, off, hRA, hc⟩ := hcells (by simp [uw]; omega)
  injection hA with q1 q2 q3
  subst q1
  subst hRA
  have HC := Lib.hid hc
  clear hcells hc q2 q3 hk3 hws
  generalize ((w.alloc _).alloc _).alloc _ = w4 at *
  generalize w.heap.size = gk at *
  generalize gk + 1 = gb at *
  generalize gb + 1 = gw at *
  refine wpList_append HS.out 3 rfl rfl _ _ 26 rfl rfl rfl rfl (by decide) rfl ⟨g, off, none⟩ rs.length RC (uw rs) rfl (by simp [uw]) hr0 (fun i v hv => by rw [show (⟨g, off, none⟩ : Addr).add i = ⟨g, off + i, none⟩ by unfold Addr.add; split <;> simp_all]; exact HC.out i v hv) (by intro v hv; simp [uw] at hv; obtain ⟨x, _, rfl⟩ := hv; rfl) (by simp; omega) ?_
  intro v' w5 hS
  obtain ⟨A, c, hv'⟩ := rowR_val (hS.row 3 rfl)
  subst hv'
  replace HS := Lib.hid hS
  clear hS HC
  have hul : (uw ws).length = ws.length := by simp [uw]
  rw [hwu, hul] at HS
  rw [hwu, hul]
  replace HS : Hid (Sep w r.blocks [r, blkR gk 29 #[.int .i64 (k.L : Int), .int .i64 (k.R : Int), .int .i64 (k.S : Int)], blkR gb 39 #[.int .i64 (a : Int), .int .i64 (u : Int), .slice (some ⟨g, off, none⟩) rs.length RC], rowR 25 (.slice A ws.length c) (uw ws)] w5) := HS
  clear hwu g1 g2
  obtain ⟨n, hn⟩ : ∃ n, ws.length = n := ⟨_, rfl⟩
  rw [hn] at HS ⊢
  have hnI : (n : Int) ≤ 2000 := by omega
  have HNN := Lib.hid hn
  go_wp2_with fail
  go_loopw [10, 11, 12, 13, 26] (fun _ _ _ _ v' wr => ∃ (i : Nat) (r' : Res), i ≤ n ∧ v' = .int .i64 (i : Int) ∧ J i r' ∧ Sep w r.blocks [r', blkR gk 29 #[.int .i64 (k.L : Int), .int .i64 (k.R : Int), .int .i64 (k.S : Int)], blkR gb 39 #[.int .i64 (a : Int), .int .i64 (u : Int), .slice (some ⟨g, off, none⟩) rs.length RC], rowR 25 (.slice A n c) (uw ws)] wr) (fun _ _ _ _ v' _ => n - (intOf v').toNat)
  case atStart => exact ⟨0, r, by omega, rfl, HJ.out, HS.out⟩
  case round =>
    clear HS HJ hn
    obtain ⟨i, q, hi, rfl, hj, hs⟩ := hrel
    have HS := Lib.hid hs
    have HJ := Lib.hid hj
    clear hs hj
    by_cases hlt : i < n
    · obtain ⟨x, hx1, hx2, hx3⟩ := HT.out.step i (by rw [HNN.out]; exact hlt) q HJ.out
      obtain ⟨m, hm⟩ : ∃ m, k.act + i = m := ⟨_, rfl⟩
      obtain ⟨y, hy⟩ : ∃ y, ws.getD i 0 = y := ⟨_, rfl⟩
      obtain ⟨na, hna⟩ : ∃ na, k.act = na := ⟨_, rfl⟩
      have hac := fun w => kactive k w HK.out
      rw [hm, hy] at hx3
      rw [hm] at hx1
      rw [hy] at hx2
      rw [hna] at hac hm
      have hsum : IntKind.i64.wrap ((na : Int) + (i : Int)) = (m : Int) := by rw [IntWalk.i64_in _ (by omega)]; omega
      have HX1 := Lib.hid hx1
      have HX2 := Lib.hid hx2
      have HX3 := Lib.hid hx3
      have HAC := Lib.hid hac
      have hltI : (i : Int) < (n : Int) := by omega
      have hrr : Rd wr (.slice A n c) (uw ws) := rowR_rd (HS.out.row 3 rfl)
      obtain ⟨A', C', hA, hr⟩ := hrr.cellAt
      injection hA with q1 q2 q3
      subst q1
      obtain ⟨g2, off2, rfl, k0⟩ := hr i (by rw [HNN.out]; exact hlt)
      rw [hy] at k0
      clear hr hrr q2 q3 hx1 hx2 hx3 hac hm hy hna
      have c0 := (HS.out.blk 1 rfl).cell 0
      simp at c0
      have c1 := (HS.out.blk 1 rfl).cell 1
      simp at c1
      have c2 := (HS.out.blk 1 rfl).cell 2
      simp at c2
      go_wp2_with fail
      refine (HAC.out _).mono ?_
      rintro e w6 ⟨rfl, hkk⟩
      replace HS := Lib.hid (HS.out.grow hkk)
      clear hkk c0 c1 c2 k0
      go_wp2_with fail
      refine (HX1.out _ (HS.out.all 0 _ rfl)).mono ?_
      rintro e w7 ⟨rfl, rfl⟩
      by_cases hxy : x = y
      · have e1 : (x == y) = true := by simpa using hxy
        have e2 : decide (x = y) = true := by simpa using hxy
        have HXY := Lib.hid hxy
        clear hxy
        go_wp2
        exact ⟨⟨i + 1, q, by omega, by first | rfl | go_num | simp, HX2.out HXY.out, HS.out⟩, by simp [intOf]; omega⟩
      · have e1 : (x == y) = false := by simpa using hxy
        have e2 : decide (x = y) = false := by simpa using hxy
        have HXY := Lib.hid hxy
        clear hxy
        go_wp2_with fail
        rw [HT.out.enters, Oper.upon_enter]
        refine (HX3.out HXY.out _ (HS.out.all 0 _ rfl)).mono ?_
        rintro e w8 ⟨err, q', rfl, hkk, hh, hb, hor⟩
        replace HS := Lib.hid (HS.out.step (i := 0) rfl hkk (r' := q') hh hb)
        clear hkk hh hb HX1 HX2 HX3
        rcases hor with ⟨rfl, hj⟩ | ⟨herr, hf⟩
        · have HJ2 := Lib.hid hj
          clear hj
          go_wp2
          exact ⟨⟨i + 1, q', by omega, by first | rfl | go_num | simp, HJ2.out, HS.out⟩, by simp [intOf]; omega⟩
        · have HF := Lib.hid hf
          have d1 : (err != 0) = true := by simpa using herr
          have d2 : decide (err = 0) = false := by simpa using herr
          have d3 : (err == 0) = false := by simpa using herr
          have HE := Lib.hid herr
          clear hf herr
          go_wp2
          go_ret
          exact ⟨err, q', rfl, HS.out.take 1, .inr ⟨HE.out, HF.out⟩⟩
    · have hin : i = n := by omega
      subst hin
      have hlt' : ¬ (i : Int) < (i : Int) := by omega
      go_wp2
      go_ret
      have hj := HJ.out
      rw [← HNN.out, hwl] at hj
      exact ⟨0, rfl, q, HS.out.take 1, .inl ⟨rfl, hj⟩⟩
end Go.Proofs.Ytaophnicdbmojaa
