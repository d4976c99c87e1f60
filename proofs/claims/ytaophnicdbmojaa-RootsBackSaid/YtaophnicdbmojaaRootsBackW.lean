/-
  RootsBack: the walk.
-/
import Derived.Deep.CutRange
import Derived.Test.YtaophnicdbmojaaAwk8
import Derived.Test.YtaophnicdbmojaaRootsS
import Derived.Test.YtaophnicdbmojaaRelN
set_option linter.unusedSimpArgs false
set_option linter.unusedVariables false
set_option maxRecDepth 100000
namespace Go.Proofs.Ytaophnicdbmojaa
open Go.RowKit Go.Shelf

theorem bit1_u8' (x : Int) (h0 : 0 ≤ x) (h1 : x ≤ 255) : ∃ a : Nat, wrap64 (bits .and .u8 x 1) = (a : Int) ∧ a ≤ 1 := by
  have hw : ∀ n : Int, 0 ≤ n → n < 2 ^ 8 → IntKind.u8.wrap n = n := fun n h0 h1 => by rw [IntKind.wrap_u8]; omega
  have h := bits_mask .u8 8 (by decide) hw 1 (by decide) x h0 (by omega)
  have h2 : bits .and .u8 x 1 = x % 2 := by simpa using h
  refine ⟨(x % 2).toNat, ?_, by omega⟩
  rw [h2]
  unfold wrap64
  omega

/-- A new slice of zeros. -/
def RowAtNew (w0 : World) (v : Value) (n : Nat) (w : World) : Prop := ∃ g, v = .slice (some ⟨g, 0, none⟩) n n ∧ Blk w g 25 (uw (zeros n)).toArray ∧ w0.heap.size ≤ g
theorem RowAtNew.keep {w0 w w' : World} {v : Value} {n : Nat} (h : RowAtNew w0 v n w) (hk : Keep w.heap.size [] w w') : RowAtNew w0 v n w' := by
  obtain ⟨g, hv, hb, hg⟩ := h
  exact ⟨g, hv, hb.keep hk hb.lt (by simp), hg⟩

set_option maxRecDepth 100000 in
set_option maxHeartbeats 4000000 in
theorem RootsBack.core (l r s x y : Int) (v1 : Value) (ps : List Int) (w : World) (l0 : 0 ≤ l) (l1 : l ≤ 65535) (r0 : 0 ≤ r) (r1 : r ≤ 65535) (s0 : 0 ≤ s) (s1 : s ≤ 65535) (x0 : 0 ≤ x) (x1 : x ≤ 255) (y0 : 0 ≤ y) (y1 : y ≤ 65535) (hp : Rd w v1 (uw ps)) (hpl : ps.length ≤ maxLen) :
    Calls Try.prog 6 #[.agg #[.int .u16 l, .int .u16 r, .int .u16 s], v1, .int .u8 x, .int .u16 y] w fun e w' => e = .returned (.bool true) ∧ Keep w.heap.size [] w w' := by
  simp only [maxLen] at hpl
  obtain ⟨SA, SC, rfl, hps⟩ := hp.cellAt
  have HS := Lib.hid ((Sep.start w []).new 24 #[.int .u16 l, .int .u16 r, .int .u16 s])
  have HP := Lib.hid hp
  clear hp hps
  by_cases hb2 : 20 < ps.length
  · have hbI : (20 : Int) < ps.length := by omega
    go_enter Try.func6, Try.ntmps6
    go_wp2_with fail
    generalize w.alloc _ = w2 at *
    refine (awake8_any _).mono ?_
    rintro e w1 ⟨rfl, hk⟩
    replace HS := Lib.hid (HS.out.grow hk)
    clear hk
    go_wp2
    go_ret
    exact ⟨rfl, HS.out.keep⟩
  have hx4 : ((20 : Int) < ps.length) = False := by rw [eq_iff_iff, iff_false]; omega
  have hx5 : (20 < ps.length) = False := by rw [eq_iff_iff, iff_false]; omega
  go_enter Try.func6, Try.ntmps6
  go_wp2_with fail
  generalize w.alloc _ = w2 at *
  generalize w.heap.size = gx at *
  refine (awake8_any _).mono ?_
  rintro e w1 ⟨rfl, hk⟩
  replace HS := Lib.hid (HS.out.grow hk)
  clear hk
  have c0 := (HS.out.blk 0 rfl).cell 0
  simp at c0
  have c1 := (HS.out.blk 0 rfl).cell 1
  simp at c1
  have c2 := (HS.out.blk 0 rfl).cell 2
  simp at c2
  go_wp2_with fail
  refine (kmake l r s _ l0 l1 r0 r1 s0 s1).mono ?_
  rintro e w3 ⟨k, hk, hL, hR, hS, rfl, hkk⟩
  simp only [Kfg.cells]
  replace HS := Lib.hid ((HS.out.grow hkk).new 29 #[.int .i64 (k.L : Int), .int .i64 (k.R : Int), .int .i64 (k.S : Int)])
  have HK := Lib.hid hk
  clear hkk hk c0 c1 c2
  go_wp2_with fail
  generalize w3.alloc _ = w4 at *
  generalize w3.heap.size = gk at *
  refine (formatted_any k _ [] _ HK.out (rd_nil6 _ 0) (by decide)).mono ?_
  rintro e w5 ⟨d, rfl, hdb, hd, hkk⟩
  obtain ⟨s5, hs5⟩ : ∃ s5, s5 = (St.fresh (-1) 0 (fill [] k.words)).run (fmtOps k) := ⟨_, rfl⟩
  rw [← hs5] at hd
  have hI : s5.Is k.words := by rw [hs5]; exact (fresh_fill [] k).run _
  have hl5 : s5.l < 0 := by rw [hs5, St.run_l]; show (-1 : Int) < 0; decide
  replace HS := Lib.hid (HS.out.add hkk (r := devR d s5) hd hdb)
  have HI := Lib.hid hI
  have HL := Lib.hid hl5
  clear hdb hd hkk hs5 hI hl5
  obtain ⟨a, hga, ha1⟩ := bit1_u8' x x0 x1
  have hkS : k.S ≤ 4096 := HK.out.s1
  have hkR : k.R ≤ 16 := HK.out.r1
  have hkR0 : 1 ≤ k.R := HK.out.r0
  obtain ⟨u, hu, hu1⟩ : ∃ u : Nat, y % ((k.S : Int) + 1) = (u : Int) ∧ u ≤ k.S := by
    have h1 := Int.emod_nonneg y (show ((k.S : Int) + 1) ≠ 0 by omega)
    have h2 := Int.emod_lt_of_pos y (show 0 < ((k.S : Int) + 1) by omega)
    exact ⟨(y % ((k.S : Int) + 1)).toNat, by omega, by omega⟩
  have hz1 : ((k.S : Int) + 1 = 0) = False := by simp; omega
  have hi1 : IntKind.i64.wrap ((k.S : Int) + 1) = (k.S : Int) + 1 := IntWalk.i64_in _ (by omega)
  have c1 : ∀ x : Ext w5, x.now.cell? ⟨gk, 1, none⟩ = some (.int .i64 (k.R : Int)) := fun x => x.cell (by simpa using (HS.out.blk 1 rfl).cell 1)
  have c2 : ∀ x : Ext w5, x.now.cell? ⟨gk, 2, none⟩ = some (.int .i64 (k.S : Int)) := fun x => x.cell (by simpa using (HS.out.blk 1 rfl).cell 2)
  have hws : w.heap.size ≤ w5.heap.size := HS.out.keep.size
  have hga2 : IntKind.i64.wrap (bits .and .u8 x 1) = (a : Int) := by
    rw [IntKind.wrap_i64]
    unfold wrap64 at hga
    omega
  have hy2 : IntKind.i64.wrap y = y := IntWalk.i64_in _ (by omega)
  have hu2 : y.tmod ((k.S : Int) + 1) = (u : Int) := by rw [Int.tmod_eq_emod_of_nonneg y0]; exact hu
  have hmk := fun w => make_zeros k.R w (by omega)
  go_wp2_with fail
  refine wp_region_rel_tails 14 (by simp) (by kernel_rfl) (by kernel_rfl) (by kernel_rfl) (by kernel_rfl) ?_
  simp only [List.take_succ_cons, List.take_zero, List.drop_succ_cons, List.drop_zero]
  simp only [puts, Act.put, List.setIfInBounds_toArray, List.set_cons_succ, List.set_cons_zero, Nat.zero_add, Nat.reduceAdd]
  repeat (apply wpRel_is; (focus (intro u y K hK; simp only [sure, told, lay, Region.binds, List.getElem?_cons_zero, List.getElem?_cons_succ, List.getElem?_nil, if_true, Nat.reduceBEq, cond_true, cond_false]; intros; go_simp; simp only [yUpon]; with_reducible refine hK y (Keep.refl _ _ _))); simp only [List.nil_append, List.cons_append])
  refine wpRel_so (fun v w' => RowAtNew w5 v k.R w') (fun v w1 w2 h hk => h.keep hk) ?_ ?_
  · intro u y K hK
    simp only [sure, told, lay, Region.binds, List.getElem?_cons_zero, List.getElem?_cons_succ, List.getElem?_nil, if_true, Nat.reduceBEq, cond_true, cond_false]
    intros
    go_simp
    simp only [yUpon]
    have hk2 : Keep y.now.heap.size [] y.now (y.now.alloc (.cells (uw (zeros k.R)).toArray 25)) := (Keep.refl _ _ _).alloc (Nat.le_refl _) _
    exact hK _ ⟨_, y.keep.join hk2 y.keep.size (by simp)⟩ hk2 ⟨_, rfl, Blk.new _ _ _, y.keep.size⟩
  simp only [List.nil_append, List.cons_append]
  refine wpRel_so (fun v w' => ∃ q, v = .agg #[.int .i64 (a : Int), .int .i64 (u : Int), q] ∧ RowAtNew w5 q k.R w') (fun v w1 w2 h hk => by obtain ⟨q, h1, h2⟩ := h; exact ⟨q, h1, h2.keep hk⟩) ?_ ?_
  · intro uu y K hK
    simp only [sure, told, lay, Region.binds, List.getElem?_cons_zero, List.getElem?_cons_succ, List.getElem?_nil, if_true, Nat.reduceBEq, cond_true, cond_false]
    rintro ⟨q, he, hb, hg⟩
    rw [he]
    go_simp
    simp only [yUpon]
    exact hK _ y (Keep.refl _ _ _) ⟨_, rfl, q, rfl, hb, hg⟩
  simp only [List.nil_append, List.cons_append]
  refine wpRel_so (fun v w' => ∃ g, v = .pointer (some ⟨g, 0, none⟩) ∧ Blk w' g 39 #[.int .i64 0, .int .i64 0, .slice none 0 0] ∧ w5.heap.size ≤ g) (fun v w1 w2 h hk => by obtain ⟨g, h1, h2, h3⟩ := h; exact ⟨g, h1, h2.keep hk h2.lt (by simp), h3⟩) ?_ ?_
  · intro uu y K hK
    simp only [sure, told, lay, Region.binds, List.getElem?_cons_zero, List.getElem?_cons_succ, List.getElem?_nil, if_true, Nat.reduceBEq, cond_true, cond_false]
    intros
    go_simp
    simp only [yUpon]
    have hk2 : Keep y.now.heap.size [] y.now (y.now.alloc (.cells #[.int .i64 0, .int .i64 0, .slice none 0 0] 39)) := (Keep.refl _ _ _).alloc (Nat.le_refl _) _
    exact hK _ ⟨_, y.keep.join hk2 y.keep.size (by simp)⟩ hk2 ⟨_, rfl, Blk.new _ _ _, y.keep.size⟩
  simp only [List.nil_append, List.cons_append]
  refine wpRel_nil ?_
  intro uu z h
  obtain ⟨q, h12, gr, hq, hbr, hgr⟩ : ∃ q, uu 12 = .agg #[.int .i64 (a : Int), .int .i64 (u : Int), q] ∧ RowAtNew w5 q k.R z.now := h 12 _ rfl
  obtain ⟨gb, h13, hbb, hgb⟩ : ∃ g, uu 13 = .pointer (some ⟨g, 0, none⟩) ∧ Blk z.now g 39 #[.int .i64 0, .int .i64 0, .slice none 0 0] ∧ w5.heap.size ≤ g := h 13 _ rfl
  subst hq
  have hne : gr ≠ gb := by
    rintro rfl
    unfold Blk at hbr hbb
    rw [hbr] at hbb
    simp at hbb
  replace HS := Lib.hid (HS.out.grow_news z.keep [blkR gr 25 (uw (zeros k.R)).toArray, blkR gb 39 #[.int .i64 0, .int .i64 0, .slice none 0 0]]
    (by intro q hq; simp at hq; rcases hq with rfl | rfl; exact ⟨hbr, by simp [blkR]; exact hgr⟩; exact ⟨hbb, by simp [blkR]; exact hgb⟩) (by simp [blkR]; exact hne))
  obtain ⟨rs, hrs⟩ : ∃ rs, ps.take k.R ++ (zeros k.R).drop (ps.take k.R).length = rs := ⟨_, rfl⟩
  have hrl : rs.length = k.R := by rw [← hrs]; simp [zeros]; omega
  have h0 := hne.symm
  have d0 := (HS.out.blk 4 rfl).cell 0
  have d1 := (HS.out.blk 4 rfl).cell 1
  have d2 := (HS.out.blk 4 rfl).cell 2
  simp at d0 d1 d2
  have z0 := (HS.out.blk 4 rfl).frozen 0
  have z1 := (HS.out.blk 4 rfl).frozen 1
  have z2 := (HS.out.blk 4 rfl).frozen 2
  have hS3 := ((HS.out.put (i := 4) rfl 0 (.int .i64 (a : Int))).put (i := 4) rfl 1 (.int .i64 (u : Int))).put (i := 4) rfl 2 (.slice (some ⟨gr, 0, none⟩) k.R k.R)
  have HS3 := Lib.hid hS3
  obtain ⟨w6, hw6⟩ : ∃ w6, ((z.now.setCell ⟨gb, 0, none⟩ (.int .i64 (a : Int))).setCell ⟨gb, 1, none⟩ (.int .i64 (u : Int))).setCell ⟨gb, 2, none⟩ (.slice (some ⟨gr, 0, none⟩) k.R k.R) = w6 := ⟨_, rfl⟩
  rw [hw6] at HS3
  replace HS3 : Hid (Sep w [] [blkR gx 24 #[.int .u16 l, .int .u16 r, .int .u16 s], blkR gk 29 #[.int .i64 (k.L : Int), .int .i64 (k.R : Int), .int .i64 (k.S : Int)], devR d s5, blkR gr 25 (uw (zeros k.R)).toArray, blkR gb 39 #[.int .i64 (a : Int), .int .i64 (u : Int), .slice (some ⟨gr, 0, none⟩) k.R k.R]] w6) := HS3
  obtain ⟨SA', SC', hA, hcells⟩ := HP.out.keep HS3.out.keep
  injection hA with q1 q2 q3
  subst q1
  have hul : (uw ps).length = ps.length := by simp [uw]
  obtain ⟨w7, hcp, hb7, hk7, _⟩ := copy_blk (P := Try.prog) (dT := 26) (sT := 26) (ty := 3) underlying_words size_word (HS3.out.blk 3 rfl) (some ⟨gr, 0, none⟩) SA k.R k.R ps.length SC 0 (uw (ps.take k.R)) (by simp [uw]; omega)
    (fun hpos => by
      obtain ⟨g2, o2, he, hc⟩ := hcells (by simp [uw] at hpos ⊢; omega)
      refine ⟨rfl, g2, o2, he, fun j v hv => hc j v ?_⟩
      simp only [uw, List.getElem?_map, List.getElem?_take] at hv ⊢
      split at hv
      · exact hv
      · simp at hv)
    (by simp [uw, zeros]; omega) (by intro v hv; simp only [uw, List.mem_map] at hv; obtain ⟨x, _, rfl⟩ := hv; rfl)
  have hsp : splice (uw (zeros k.R)).toArray.toList 0 (uw (ps.take k.R)) = uw rs := by
    rw [← hrs]
    simp [splice, uw]
  rw [hsp] at hb7
  have hS7 := HS3.out.step (i := 3) rfl hk7 (r' := blkR gr 25 (uw rs).toArray) hb7 (fun _ h => .inl h)
  have HS7 := Lib.hid hS7
  have b2 := (HS3.out.blk 4 rfl).cell 2
  simp at b2
  clear h hcells q2 q3 hb7 hk7 hsp hS3 hS7 HS3
  simp only [h12, h13]
  show wpList _ _ _ _ _ _
  go_upto_region 11 with fail
  replace HS : Hid (Sep w [] [blkR gx 24 #[.int .u16 l, .int .u16 r, .int .u16 s], blkR gk 29 #[.int .i64 (k.L : Int), .int .i64 (k.R : Int), .int .i64 (k.S : Int)], devR d s5, blkR gr 25 (uw rs).toArray, blkR gb 39 #[.int .i64 (a : Int), .int .i64 (u : Int), .slice (some ⟨gr, 0, none⟩) k.R k.R]] w7) := HS7
  clear HS7 hcp b2 hw6 d0 d1 d2 z0 z1 z2 hbr hbb h12 h13 c1 c2 hmk hga2 hu2 hy2 hz1 hi1 hrs
  have c0 := (HS.out.blk 1 rfl).cell 0
  simp at c0
  have c1 := (HS.out.blk 1 rfl).cell 1
  simp at c1
  have c2 := (HS.out.blk 1 rfl).cell 2
  simp at c2
  have b0 := (HS.out.blk 4 rfl).cell 0
  simp at b0
  have b1 := (HS.out.blk 4 rfl).cell 1
  simp at b1
  have b2 := (HS.out.blk 4 rfl).cell 2
  simp at b2
  go_wp2_with fail
  have hrd : Rd w7 (.slice (some ⟨gr, 0, none⟩) k.R k.R) (uw rs) := by
    have h := Rd.of_blk (n := k.R) (xs := uw rs) (ex := []) (by rw [List.append_nil]; exact HS.out.blk 3 rfl : Blk w7 gr 25 (uw rs ++ []).toArray)
    rwa [show (uw rs).length = k.R by simp [uw]; exact hrl] at h
  have hww := Kfg.words_le HK.out
  refine (rwrite_any d k a u (.slice (some ⟨gr, 0, none⟩) k.R k.R) rs 19 #[.pointer (some ⟨d.b, 0, none⟩)] #[] (fun i r => ∃ t, r = devR d t ∧ WrS s5 t k ((a : Int) :: (u : Int) :: rs) i) (fun _ _ => False) (devR d s5) _ HK.out ha1 (by omega) hrd (by omega) (by omega) (takes_store HK.out (by simp; exact hrl)) ⟨s5, rfl, WrS.start _ HI.out HL.out⟩ (HS.out.dev 2 rfl)).mono ?_
  rintro e w8 ⟨err, r', rfl, hS, ⟨rfl, t, rfl, ht⟩ | ⟨_, hf⟩⟩
  rotate_left
  · exact hf.elim
  replace HS := Lib.hid (HS.out.app hS (i := 2) rfl (fun k h => h) (j := 0) rfl)
  have hta : t.nw k.act = (a : Int) := ht.done 0 (by omega)
  have htu : t.nw (k.act + 1) = (u : Int) := ht.done 1 (by omega)
  have hro : rootsOf t k k.R = rs := ht.roots hrl
  have HTA := Lib.hid hta
  have HTU := Lib.hid htu
  have HRO := Lib.hid hro
  have HT := Lib.hid ht
  clear hS hta htu hro ht c0 c1 c2 b0 b1 b2 hrd
  have c0 := (HS.out.blk 1 rfl).cell 0
  simp at c0
  have c1 := (HS.out.blk 1 rfl).cell 1
  simp at c1
  have c2 := (HS.out.blk 1 rfl).cell 2
  simp at c2
  go_wp2_with fail
  refine (rread_any d t k a u _ (HS.out.dev 2 rfl) HK.out HT.out.is.now HTA.out HTU.out ha1 hu1).mono ?_
  rintro e w9 ⟨v, rfl, hkk, hrow, hnew⟩
  rw [HRO.out] at hrow
  obtain ⟨RA, RC, hv⟩ := rowR_val hrow
  subst hv
  have hl1 : (uw rs).length = k.R := by simp [uw]; exact hrl
  replace HS := Lib.hid (HS.out.add hkk (r := rowR 25 (.slice RA (uw rs).length RC) (uw rs)) hrow hnew)
  rw [hl1] at HS ⊢
  simp only [rbC]
  clear hkk hrow hnew c0 c1 c2
  have b0 := (HS.out.blk 4 rfl).cell 0
  simp at b0
  have b1 := (HS.out.blk 4 rfl).cell 1
  simp at b1
  have b2 := (HS.out.blk 4 rfl).cell 2
  simp at b2
  have hgl := (HS.out.blk 4 rfl).lt
  have heq : Calls Try.prog 30 #[.slice RA k.R RC, .slice (some ⟨gr, 0, none⟩) k.R k.R] (w9.alloc (.cells #[.int .i64 (a : Int), .int .i64 (u : Int), .slice RA k.R RC] 39)) fun e w' => e = .returned (.bool true) ∧ Keep (w9.alloc (.cells #[.int .i64 (a : Int), .int .i64 (u : Int), .slice RA k.R RC] 39)).heap.size [] (w9.alloc (.cells #[.int .i64 (a : Int), .int .i64 (u : Int), .slice RA k.R RC] 39)) w' := by
    have hS2 := HS.out.alloc (.cells #[.int .i64 (a : Int), .int .i64 (u : Int), .slice RA k.R RC] 39)
    have h1 := rowR_rd (hS2.row 5 rfl)
    have h2 : Rd (w9.alloc (.cells #[.int .i64 (a : Int), .int .i64 (u : Int), .slice RA k.R RC] 39)) (.slice (some ⟨gr, 0, none⟩) k.R k.R) (uw rs) := by
      have h := Rd.of_blk (n := k.R) (xs := uw rs) (ex := []) (by rw [List.append_nil]; exact hS2.blk 3 rfl : Blk (w9.alloc (.cells #[.int .i64 (a : Int), .int .i64 (u : Int), .slice RA k.R RC] 39)) gr 25 (uw rs ++ []).toArray)
      rwa [hl1] at h
    have := equal_any _ _ rs rs _ h1 h2 (by omega)
    rwa [decide_eq_true rfl] at this
  have HEQ := Lib.hid heq
  clear heq
  go_wp2_with fail
  refine HEQ.out.mono ?_
  rintro e w10 ⟨rfl, hkk⟩
  replace HS := Lib.hid ((HS.out.alloc _).grow hkk)
  go_wp2
  go_ret
  exact ⟨rfl, HS.out.keep⟩

theorem RootsBack.walk {v1 : Value} {w : World} (l r s : Int) (h : (lowest .u16 ≤ l ∧ l ≤ greatest .u16) ∧ (lowest .u16 ≤ r ∧ r ≤ greatest .u16) ∧ (lowest .u16 ≤ s ∧ s ≤ greatest .u16)) (ps : List Int) (hp : Rd w v1 (uw ps)) (_ : ∀ x ∈ ps, lowest .u64 ≤ x ∧ x ≤ greatest .u64) (hpl : ps.length ≤ maxLen) (x : Int) (x0 : lowest .u8 ≤ x) (x1 : x ≤ greatest .u8) (y : Int) (y0 : lowest .u16 ≤ y) (y1 : y ≤ greatest .u16) :
    Calls Try.prog 6 #[.agg #[.int .u16 l, .int .u16 r, .int .u16 s], v1, .int .u8 x, .int .u16 y] w fun e w' => e = .returned (.bool true) ∧ Below w.heap.size w w' := by
  obtain ⟨⟨l0, l1⟩, ⟨r0, r1⟩, s0, s1⟩ := h
  simp [lowest, greatest] at l0 l1 r0 r1 s0 s1 x0 x1 y0 y1
  exact (RootsBack.core l r s x y v1 ps w l0 l1 r0 r1 s0 s1 x0 x1 y0 y1 hp hpl).mono fun e w' ⟨he, hk⟩ => ⟨he, hk.below⟩
end Go.Proofs.Ytaophnicdbmojaa
