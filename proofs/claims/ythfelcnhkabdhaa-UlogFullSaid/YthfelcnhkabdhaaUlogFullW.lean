/-
  UlogFull: the walk.
-/
import Derived.Test.YthfelcnhkabdhaaPlace
set_option linter.unusedSimpArgs false
set_option linter.unusedVariables false
namespace Go.Proofs.Ythfelcnhkabdhaa
open Go.RowKit Go.Shelf

set_option maxRecDepth 100000 in
set_option maxHeartbeats 2000000 in
theorem UlogFull.core (l r s v : Int) (a : Nat) (w : World) (l0 : 0 ≤ l) (l1 : l ≤ 65535) (r0 : 0 ≤ r) (r1 : r ≤ 65535) (s0 : 0 ≤ s) (s1 : s ≤ 65535) (ha : a ≤ 65535) (v0 : 0 ≤ v) (v1 : v ≤ 18446744073709551615) :
    Calls Try.prog 5 #[.agg #[.int .u16 l, .int .u16 r, .int .u16 s], .int .u16 a, .int .u64 v] w fun e w' => e = .returned (.bool true) ∧ Keep w.heap.size [] w w' := by
  have HS := Lib.hid ((Sep.start w []).new 24 #[.int .u16 l, .int .u16 r, .int .u16 s])
  go_enter Try.func5, Try.ntmps5
  go_wp2_with fail
  generalize w.alloc _ = w2 at *
  generalize w.heap.size = gx at *
  refine (awake6_any _).mono ?_
  rintro e w1 ⟨rfl, hk⟩
  replace HS := Lib.hid (HS.out.grow hk)
  clear hk
  have c0 := (HS.out.blk 0 rfl).cell 0
  simp at c0
  have c1 := (HS.out.blk 0 rfl).cell 1
  simp at c1
  have c2 := (HS.out.blk 0 rfl).cell 2
  simp at c2
  go_wp2_with fail
  refine (kmake l r s _ l0 l1 r0 r1 s0 s1).mono ?_
  rintro e w3 ⟨k, hk, hL, hR, hS, rfl, hkk⟩
  simp only [Kfg.cells]
  replace HS := Lib.hid ((HS.out.grow hkk).new 30 #[.int .i64 (k.L : Int), .int .i64 (k.R : Int), .int .i64 (k.S : Int)])
  have HK := Lib.hid hk
  clear hkk hk c0 c1 c2
  go_wp2_with fail
  generalize w3.alloc _ = w4 at *
  generalize w3.heap.size = gk at *
  refine (formatted_any k _ [] _ HK.out (rd_nil6 _ 0) (by decide)).mono ?_
  rintro e w5 ⟨d, rfl, hdb, hd, hkk⟩
  obtain ⟨s5, hs5⟩ : ∃ s5, s5 = (St.fresh (-1) 0 (fill [] k.words)).run (fmtOps k) := ⟨_, rfl⟩
  rw [← hs5] at hd
  have hI : s5.Is k.words := by rw [hs5]; exact (fresh_fill [] k).run _
  have hA : AllS s5 k := by rw [hs5]; exact all_of HK.out (fresh_fill [] k)
  have hl5 : s5.l < 0 := by rw [hs5, St.run_l]; show (-1 : Int) < 0; decide
  replace HS := Lib.hid (HS.out.add hkk (r := devR d s5) hd hdb)
  have HI := Lib.hid hI
  have HA := Lib.hid hA
  have HW := Lib.hid hA.whole
  have HL := Lib.hid hl5
  have HE := Lib.hid hs5
  clear hdb hd hkk hs5 hI hA hl5
  have c0 := (HS.out.blk 1 rfl).cell 0
  simp at c0
  have c1 := (HS.out.blk 1 rfl).cell 1
  simp at c1
  have c2 := (HS.out.blk 1 rfl).cell 2
  simp at c2
  go_wp2_with fail
  refine (open_any d s5 k 1 0 _ (HS.out.dev 2 rfl) HK.out (by rw [HW.out.w8]; decide) (by rw [HW.out.w8]; decide) (AllS.log HK.out HW.out)).mono ?_
  rintro e w6 ⟨gl, rfl, hgn, hb, hkk⟩
  replace HS := Lib.hid (HS.out.add hkk (r := blkR gl 79 (logC d k 1 0)) hb (by intro y hy; simp [blkR] at hy; subst hy; exact hgn))
  clear hb hkk hgn c0 c1 c2
  have hgd : gl ∉ d.blocks := HS.out.apart 3 2 _ _ (by decide) rfl rfl gl (by simp [blkR])
  have HGD := Lib.hid hgd
  clear hgd
  have c0 := (HS.out.blk 1 rfl).cell 0
  simp at c0
  have c1 := (HS.out.blk 1 rfl).cell 1
  simp at c1
  have c2 := (HS.out.blk 1 rfl).cell 2
  simp at c2
  go_wp2_with fail
  refine (place_any k a 0 _ HK.out ha).mono ?_
  rintro e w1 ⟨rfl, hk⟩
  replace HS := Lib.hid (HS.out.grow hk)
  clear hk
  clear c0 c1 c2
  obtain ⟨p, hp⟩ : ∃ p, k.place a = p := ⟨_, rfl⟩
  have hpl := Kfg.place_lt HK.out a
  rw [hp] at hpl ⊢
  clear hp
  go_wp2_with fail
  refine (store_free d s5 p v _ (HS.out.dev 2 rfl) HL.out (by rw [HI.out.now]; exact hpl.2)).mono ?_
  rintro e w1 ⟨rfl, hd, hk⟩
  replace HS := Lib.hid (HS.out.did (i := 2) rfl hd hk)
  clear hd hk
  have hI6 := HI.out.store p v
  have hl6 : (s5.store p v).l < 0 := HL.out
  have hn6 : (s5.store p v).nw p = v := by rw [St.nw_store HI.out hpl.2]; simp
  obtain ⟨s6, hs6⟩ : ∃ s6, s5.store p v = s6 := ⟨_, rfl⟩
  rw [hs6] at hI6 hl6 hn6 HS
  have c0 := (HS.out.blk 1 rfl).cell 0
  simp at c0
  go_wp2_with fail
  clear c0
  go_loopw [37] (fun v' wr => ∃ (j : Nat) (s' : St), j ≤ k.L ∧ v' = .int .i64 (j : Int) ∧ (s'.Is k.words ∧ s'.l < 0 ∧ s'.nw p = v) ∧ Sep w [] [blkR gx 24 #[.int .u16 l, .int .u16 r, .int .u16 s], blkR gk 30 #[.int .i64 (k.L : Int), .int .i64 (k.R : Int), .int .i64 (k.S : Int)], devR d s', blkR gl 79 (logC d k 1 j)] wr) (fun v' _ => k.L - (intOf v').toNat)
  case atStart => exact ⟨0, s6, by omega, by simp, ⟨hI6, hl6, hn6⟩, HS.out⟩
  case round =>
    clear HS
    obtain ⟨j, s', hj, rfl, hf, hs⟩ := hrel
    have HS := Lib.hid hs
    have HF := Lib.hid hf
    clear hs hf
    by_cases hlt : j < k.L
    · go_wp2_with fail
      refine (append_any d s' k 1 _ j p gl _ (HS.out.dev 2 rfl) (HS.out.blk 3 rfl) HGD.out HK.out HF.out.1.now (by decide) (by decide) hlt hpl.2 rfl).mono ?_
      rintro e w7 hp
      obtain ⟨rfl, hd, hb, hkp⟩ := hp.free HF.out.2.1
      obtain ⟨x, hx⟩ : ∃ x, (s'.store (16 + 4 * j + 1) (p : Int)).nw p = x := ⟨_, rfl⟩
      rw [hx] at hd
      obtain ⟨q1, q2⟩ := k.act_le
      have hf7 : (s'.run (appOps 1 j p x)).Is k.words ∧ (s'.run (appOps 1 j p x)).l < 0 ∧ (s'.run (appOps 1 j p x)).nw p = v := by
        refine ⟨HF.out.1.run _, by rw [St.run_l]; exact HF.out.2.1, ?_⟩
        rw [app_nw HK.out HF.out.1 hlt, if_neg (by omega), if_neg (by omega), if_neg (by omega)]
        exact HF.out.2.2
      replace HS := Lib.hid (HS.out.step2 (i := 2) (j := 3) (by decide) rfl rfl hkp (r' := devR d (s'.run (appOps 1 j p x))) (q' := blkR gl 79 (logC d k 1 (j + 1))) hd hb (fun _ h => h) (fun _ h => h))
      clear hp hd hb hkp hx q1 q2
      have HF7 := Lib.hid hf7
      clear hf7
      go_wp2
      exact ⟨⟨j + 1, _, by omega, by simp, HF7.out, HS.out⟩, by simp [intOf]; omega⟩
    · have hjL : j = k.L := by omega
      have hnl : decide ((j : Int) < (k.L : Int)) = false := by simp; omega
      go_wp2_with fail
      refine (words_any d s' _ (HS.out.dev 2 rfl)).mono ?_
      rintro e w1 ⟨vw, gw, xw, rfl, hn⟩
      have vw_v := hn.val
      replace HS := Lib.hid (HS.out.add hn.keep (r := blkR gw _ _) hn.blk (by intro k hk; simp [blkR] at hk; subst hk; exact hn.new))
      clear hn
      go_wp2_with fail
      have c0 : ∀ x : Ext w1, x.now.cell? ⟨gk, 0, none⟩ = some (.int .i64 (k.L : Int)) := fun x => x.cell (by simpa using (HS.out.blk 1 rfl).cell 0)
      have hjt : ((j : Int) == (k.L : Int)) = true := by rw [beq_iff_eq]; omega
      have heq : ∀ (v' : Value) (y : Ext w1), Rd y.now v' (uw s'.now) → Calls Try.prog 26 #[v', .slice (some ⟨gw, 0, none⟩) (uw s'.now).length ((uw s'.now).length + xw.length)] y.now fun e w' => e = .returned (.bool true) ∧ Keep y.now.heap.size [] y.now w' := fun v' y hr => by
        have hb := (HS.out.grow y.keep).blk 4 rfl
        have hrd : Rd y.now (.slice (some ⟨gw, 0, none⟩) (uw s'.now).length ((uw s'.now).length + xw.length)) (uw s'.now) := Rd.of_blk hb
        have hlen : s'.now.length ≤ 1099511627776 := by rw [HF.out.1.now]; have := Kfg.words_le HK.out; omega
        have := equal_any v' _ s'.now s'.now y.now hr hrd hlen
        rwa [decide_eq_true rfl] at this
      refine wp_region_rel (by kernel_rfl) (by kernel_rfl) (by kernel_rfl) ?_
      simp only [puts, Act.put, List.setIfInBounds_toArray, List.set_cons_succ, List.set_cons_zero, Nat.zero_add, Nat.reduceAdd]
      repeat (apply wpRel_is; (focus (intro u y K hK; simp only [sure, told, lay, Region.binds, List.getElem?_cons_zero, List.getElem?_cons_succ, List.getElem?_nil, if_true, Nat.reduceBEq, cond_true, cond_false]; intros; go_simp; simp only [yUpon]; with_reducible refine hK y (Keep.refl _ _ _))); simp only [List.nil_append, List.cons_append])
      apply wpRel_is
      · intro u y K hK
        simp only [sure, told, lay, Region.binds, List.getElem?_cons_zero, List.getElem?_cons_succ, List.getElem?_nil, if_true, Nat.reduceBEq, cond_true, cond_false]
        intros
        go_simp
        simp only [yUpon]
        refine (append_full d s' k 1 (p : Int) j gl _ ((HS.out.grow y.keep).dev 2 rfl) ((HS.out.grow y.keep).blk 3 rfl) (by omega) (by rw [HF.out.1.now]; omega) hjL).mono ?_
        rintro e w' ⟨rfl, hk⟩
        exact hK ⟨w', y.keep.join hk y.keep.size (by simp)⟩ hk
      simp only [List.nil_append, List.cons_append]
      repeat (apply wpRel_is; (focus (intro u y K hK; simp only [sure, told, lay, Region.binds, List.getElem?_cons_zero, List.getElem?_cons_succ, List.getElem?_nil, if_true, Nat.reduceBEq, cond_true, cond_false]; intros; go_simp; simp only [yUpon]; with_reducible refine hK y (Keep.refl _ _ _))); simp only [List.nil_append, List.cons_append])
      apply wpRel_is
      · intro u y K hK
        simp only [sure, told, lay, Region.binds, List.getElem?_cons_zero, List.getElem?_cons_succ, List.getElem?_nil, if_true, Nat.reduceBEq, cond_true, cond_false]
        intros
        go_simp
        simp only [yUpon]
        refine (append_low d k 1 (-5) j gl _ (by decide)).mono ?_
        rintro e w' ⟨rfl, rfl⟩
        exact hK y (Keep.refl _ _ _)
      simp only [List.nil_append, List.cons_append]
      repeat (apply wpRel_is; (focus (intro u y K hK; simp only [sure, told, lay, Region.binds, List.getElem?_cons_zero, List.getElem?_cons_succ, List.getElem?_nil, if_true, Nat.reduceBEq, cond_true, cond_false]; intros; go_simp; simp only [yUpon]; with_reducible refine hK y (Keep.refl _ _ _))); simp only [List.nil_append, List.cons_append])
      apply wpRel_is
      · intro u y K hK
        simp only [sure, told, lay, Region.binds, List.getElem?_cons_zero, List.getElem?_cons_succ, List.getElem?_nil, if_true, Nat.reduceBEq, cond_true, cond_false]
        intros
        go_simp
        simp only [yUpon]
        refine (log_len d k 1 j gl _ ((HS.out.grow y.keep).blk 3 rfl)).mono ?_
        rintro e w' ⟨rfl, rfl⟩
        exact hK y (Keep.refl _ _ _)
      simp only [List.nil_append, List.cons_append]
      repeat (apply wpRel_is; (focus (intro u y K hK; simp only [sure, told, lay, Region.binds, List.getElem?_cons_zero, List.getElem?_cons_succ, List.getElem?_nil, if_true, Nat.reduceBEq, cond_true, cond_false]; intros; go_simp; simp only [yUpon]; with_reducible refine hK y (Keep.refl _ _ _))); simp only [List.nil_append, List.cons_append])
      refine wpRel_so (fun v w' => RowAt w' v (uw s'.now)) (fun v w1 w2 h hk => h.keep hk) ?_ ?_
      · intro u y K hK
        simp only [sure, told, lay, Region.binds, List.getElem?_cons_zero, List.getElem?_cons_succ, List.getElem?_nil, if_true, Nat.reduceBEq, cond_true, cond_false]
        intros
        go_simp
        simp only [yUpon]
        refine (words_any d s' _ ((HS.out.grow y.keep).dev 2 rfl)).mono ?_
        rintro e w' ⟨v, g, ex, rfl, hn⟩
        exact hK v ⟨w', y.keep.join hn.keep y.keep.size (by simp)⟩ hn.keep hn.at_
      simp only [List.nil_append, List.cons_append]
      repeat (apply wpRel_is; (focus (intro u y K hK; simp only [sure, told, lay, Region.binds, List.getElem?_cons_zero, List.getElem?_cons_succ, List.getElem?_nil, if_true, Nat.reduceBEq, cond_true, cond_false]; intros; go_simp; simp only [yUpon]; with_reducible refine hK y (Keep.refl _ _ _))); simp only [List.nil_append, List.cons_append])
      apply wpRel_is
      · intro u y K hK
        simp only [sure, told, lay, Region.binds, List.getElem?_cons_zero, List.getElem?_cons_succ, List.getElem?_nil, if_true, Nat.reduceBEq, cond_true, cond_false]
        go_simp
        simp only [yUpon]
        intro hr
        intros
        refine (heq _ y hr.rd).mono ?_
        rintro e w' ⟨rfl, hk⟩
        exact hK ⟨w', y.keep.join hk y.keep.size (by simp)⟩ hk
      simp only [List.nil_append, List.cons_append]
      repeat (apply wpRel_is; (focus (intro u y K hK; simp only [sure, told, lay, Region.binds, List.getElem?_cons_zero, List.getElem?_cons_succ, List.getElem?_nil, if_true, Nat.reduceBEq, cond_true, cond_false]; intros; go_simp; simp only [yUpon]; with_reducible refine hK y (Keep.refl _ _ _))); simp only [List.nil_append, List.cons_append])
      apply wpRel_is
      · intro u y K hK
        simp only [sure, told, lay, Region.binds, List.getElem?_cons_zero, List.getElem?_cons_succ, List.getElem?_nil, if_true, Nat.reduceBEq, cond_true, cond_false]
        intros
        go_simp
        simp only [yUpon]
        refine (load_is d s' p v _ ((HS.out.grow y.keep).dev 2 rfl) HF.out.2.2).mono ?_
        rintro e w' ⟨rfl, rfl⟩
        exact hK y (Keep.refl _ _ _)
      simp only [List.nil_append, List.cons_append]
      repeat (apply wpRel_is; (focus (intro u y K hK; simp only [sure, told, lay, Region.binds, List.getElem?_cons_zero, List.getElem?_cons_succ, List.getElem?_nil, if_true, Nat.reduceBEq, cond_true, cond_false]; intros; go_simp; simp only [yUpon]; with_reducible refine hK y (Keep.refl _ _ _))); simp only [List.nil_append, List.cons_append])
      refine wpRel_nil ?_
      intro u y h
      have hN : u 29 = .bool true := h 29 _ rfl
      have hk := y.keep
      have HY := Lib.hid hk
      clear h hk
      simp only [hN]
      go_wp2
      go_ret
      exact ⟨rfl, HS.out.keep.join HY.out (by have := HS.out.keep.size; omega) (by simp)⟩

theorem UlogFull.walk {w : World} (l r s : Int) (h : (lowest .u16 ≤ l ∧ l ≤ greatest .u16) ∧ (lowest .u16 ≤ r ∧ r ≤ greatest .u16) ∧ (lowest .u16 ≤ s ∧ s ≤ greatest .u16)) (a : Int) (a0 : lowest .u16 ≤ a) (a1 : a ≤ greatest .u16) (v : Int) (v0 : lowest .u64 ≤ v) (v1 : v ≤ greatest .u64) :
    Calls Try.prog 5 #[.agg #[.int .u16 l, .int .u16 r, .int .u16 s], .int .u16 a, .int .u64 v] w fun e w' => e = .returned (.bool true) ∧ Below w.heap.size w w' := by
  obtain ⟨⟨l0, l1⟩, ⟨r0, r1⟩, s0, s1⟩ := h
  simp [lowest, greatest] at l0 l1 r0 r1 s0 s1 v0 v1 a0 a1
  obtain ⟨b, rfl⟩ : ∃ b : Nat, a = (b : Int) := ⟨a.toNat, by omega⟩
  exact (UlogFull.core l r s v b w l0 l1 r0 r1 s0 s1 (by omega) v0 v1).mono fun e w' ⟨he, hk⟩ => ⟨he, hk.below⟩
end Go.Proofs.Ythfelcnhkabdhaa
