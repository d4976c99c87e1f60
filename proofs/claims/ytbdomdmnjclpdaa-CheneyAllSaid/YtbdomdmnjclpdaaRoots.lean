/-
  Package roots.
-/
import Derived.Test.YtbdomdmnjclpdaaAwk7
import Derived.Test.YtbdomdmnjclpdaaRelS
import Derived.Test.YtbdomdmnjclpdaaReg
import Derived.Test.YtbdomdmnjclpdaaRel
set_option linter.unusedSimpArgs false
set_option linter.unusedVariables false
set_option maxRecDepth 100000
namespace Go.Proofs.Ytbdomdmnjclpdaa
open Go.RowKit Go.Shelf

/-- A block's cells: which space, how much of it, the roots. -/
abbrev rbC (a u : Nat) (v : Value) : Array Value := #[.int .i64 (a : Int), .int .i64 (u : Int), v]

theorem Kfg.from_words {k : Kfg} (hk : k.Ok) {a : Nat} (ha : a ≤ 2) : k.from_ 0 ≤ k.from_ a ∧ k.from_ a ≤ k.words ∧ k.words ≤ 10000 := by
  have h1 := k.from_step 0
  have h2 := k.from_step 1
  have h3 := k.words_is
  have h4 := (Kfg.words_le hk).2
  rcases a with _ | _ | _ | a <;> simp only [Nat.zero_add] at * <;> omega

set_option maxHeartbeats 2000000 in
theorem place_is (k : Kfg) (a u i m : Nat) (v : Value) (w : World) (hk : k.Ok) (ha : a ≤ 2) (hm : k.from_ a + i = m) (hi : i ≤ 1000000000) :
    Calls Try.prog 36 #[.agg (rbC a u v), .agg k.cells, .int .i64 i] w fun e w' => e = .returned (.int .i64 (m : Int)) ∧ Keep w.heap.size [] w w' := by
  have HS := Lib.hid (Sep.start w [])
  have HK := Lib.hid hk
  have HA := Lib.hid ha
  have hsum : IntKind.i64.wrap ((k.from_ a : Int) + (i : Int)) = (m : Int) := by
    have := Kfg.from_words hk ha
    rw [IntWalk.i64_in _ (by omega)]
    omega
  clear hk ha hm hi
  simp only [Kfg.cells, rbC] at *
  go_enter Try.func36, Try.ntmps36
  go_wp2_with fail
  replace HS := Lib.hid ((HS.out.new 33 #[.int .i64 (a : Int), .int .i64 (u : Int), v]).new 30 #[.int .i64 (k.L : Int), .int .i64 (k.R : Int), .int .i64 (k.S : Int)])
  refine (kfrom k _ HK.out a (by have := HA.out; omega)).mono ?_
  rintro e w1 ⟨rfl, hk⟩
  replace HS := Lib.hid (HS.out.grow hk)
  clear hk
  go_wp2
  go_ret
  exact ⟨rfl, HS.out.keep⟩

/-- Is a number a word of the space that is used? -/
def hasB (k : Kfg) (a u : Nat) (x : Int) : Bool := decide ((k.from_ a : Int) ≤ x) && decide (x < (k.from_ a + u : Nat))

set_option maxHeartbeats 2000000 in
theorem has_is (k : Kfg) (a u : Nat) (x : Int) (v : Value) (w : World) (hk : k.Ok) (ha : a ≤ 2) (hu : u ≤ 1000000000) (hx : 0 ≤ x ∧ x ≤ 18446744073709551615) :
    Calls Try.prog 34 #[.agg (rbC a u v), .agg k.cells, .int .u64 x] w fun e w' => e = .returned (.bool (hasB k a u x)) ∧ Keep w.heap.size [] w w' := by
  have HS := Lib.hid (Sep.start w [])
  have HK := Lib.hid hk
  have HA := Lib.hid ha
  have hf := Kfg.from_words hk ha
  obtain ⟨f, hf1⟩ : ∃ f, k.from_ a = f := ⟨_, rfl⟩
  have HF := Lib.hid hf1
  have h1 : IntKind.u64.wrap (f : Int) = (f : Int) := by rw [IntKind.wrap_u64]; omega
  have h2 : IntKind.u64.wrap (u : Int) = (u : Int) := by rw [IntKind.wrap_u64]; omega
  have HB : Hid (hasB k a u x = (decide ((f : Int) ≤ x) && decide (x < (f + u : Nat)))) := Lib.hid (by rw [← hf1]; rfl)
  clear hk ha hf
  simp only [Kfg.cells, rbC] at *
  go_enter Try.func34, Try.ntmps34
  go_wp2_with fail
  replace HS := Lib.hid ((HS.out.new 33 #[.int .i64 (a : Int), .int .i64 (u : Int), v]).new 30 #[.int .i64 (k.L : Int), .int .i64 (k.R : Int), .int .i64 (k.S : Int)])
  refine (kfrom k _ HK.out a (by have := HA.out; omega)).mono ?_
  rw [HF.out]
  rintro e w1 ⟨rfl, hk⟩
  replace HS := Lib.hid (HS.out.grow hk)
  clear hk hf1
  generalize w.heap.size = gb at *
  have c0 := (HS.out.blk 0 rfl).cell 0
  simp at c0
  have c1 := (HS.out.blk 0 rfl).cell 1
  simp at c1
  have h3 : x < (f : Int) ∨ ((f : Int) ≤ x ∧ IntKind.u64.wrap (x - (f : Int)) = x - f) := by
    rcases Int.lt_or_le x f with h | h
    · exact .inl h
    · exact .inr ⟨h, by rw [IntKind.wrap_u64]; omega⟩
  rcases h3 with h3 | ⟨h3, h4⟩
  · have e1 : decide ((f : Int) ≤ x) = false := by simp; omega
    have e2 : decide (x ≥ (f : Int)) = false := by simp; omega
    go_wp2
    go_ret
    rw [HB.out, e1]
    exact ⟨rfl, HS.out.keep⟩
  · have e1 : decide ((f : Int) ≤ x) = true := by simp; omega
    have e2 : decide (x ≥ (f : Int)) = true := by simp; omega
    have e3 : decide (x - (f : Int) < (u : Int)) = decide (x < (f + u : Nat)) := by
      by_cases h : x < (f + u : Nat)
      · rw [decide_eq_true h, decide_eq_true (by omega)]
      · rw [decide_eq_false h, decide_eq_false (by omega)]
    go_wp2
    go_ret
    rw [HB.out, e1, ← e3]
    exact ⟨by simp; omega, HS.out.keep⟩

theorem kused (k : Kfg) (w : World) (h : k.Ok) : Calls Try.prog 50 #[.agg k.cells] w fun e w' => e = .returned (.int .i64 ((k.act + 1 : Nat) : Int)) ∧ Keep w.heap.size [] w w' := by
  have := usedAt_any k.cfg w h.small
  rw [k.active_eq] at this
  exact this

/-- The roots that stand. -/
def rootsOf (s : St) (k : Kfg) (n : Nat) : List Int := (List.range n).map fun i => s.nw (k.act + 2 + i)
theorem rootsOf_length (s : St) (k : Kfg) (n : Nat) : (rootsOf s k n).length = n := by simp [rootsOf]
theorem rootsOf_succ (s : St) (k : Kfg) (n : Nat) : uw (rootsOf s k (n + 1)) = uw (rootsOf s k n) ++ [.int .u64 (s.nw (k.act + 2 + n))] := by simp [rootsOf, List.range_succ, uw]

/-- What a Read answers: a block whose roots are a new row. -/
def RbAt (w : World) (a u : Nat) (xs : List Int) (e : Ending) (w' : World) : Prop :=
  ∃ v, e = .returned (.tuple #[.agg (rbC a u v), .int .i64 0]) ∧ Keep w.heap.size [] w w' ∧ w'.ownsRow 0 38 1 v (uw xs).length (uw xs) ∧ ∀ k ∈ v.ownBlock.toList, w.heap.size ≤ k

theorem RowAt.built (w : World) (t : TypeId) (xs : List Value) : RowAt (w.alloc (.cells xs.toArray t)) (.slice (some ⟨w.heap.size, 0, none⟩) xs.length xs.length) xs :=
  ⟨w.heap.size, xs.length, rfl, Nat.le_refl _, fun j u hu => by rw [(Blk.new w t xs.toArray).cell]; simpa using hu⟩

set_option maxHeartbeats 4000000 in
theorem rread_any (d : DevI) (s : St) (k : Kfg) (a u : Nat) (w : World) (h : Dev w d s) (hk : k.Ok) (hl : s.now.length = k.words) (ha : s.nw k.act = (a : Int)) (hu : s.nw (k.act + 1) = (u : Int)) (ha1 : a ≤ 1) (hu1 : u ≤ k.S) :
    Calls Try.prog 29 #[.pointer (some ⟨d.b, 0, none⟩), .agg k.cells] w (RbAt w a u (rootsOf s k k.R)) := by
  have H := Lib.hid h
  have HK := Lib.hid hk
  have HL := Lib.hid hl
  have HS := Lib.hid (Sep.start w [])
  have hkR : k.R ≤ 16 := by have := hk.r1; omega
  have hkS : k.S ≤ 4096 := by have := hk.s1; omega
  obtain ⟨na, hna⟩ : ∃ na, k.act = na := ⟨_, rfl⟩
  have hw := Kfg.words_le hk
  rw [hna] at ha hu
  have HNA := Lib.hid hna
  have HA := Lib.hid ha
  have HU := Lib.hid hu
  clear h hk hl ha hu hna
  simp only [Kfg.cells] at *
  go_enter Try.func29, Try.ntmps29
  go_wp2_with fail
  replace HS := Lib.hid ((HS.out.new 30 #[.int .i64 (k.L : Int), .int .i64 (k.R : Int), .int .i64 (k.S : Int)]).new 33 #[.int .i64 0, .int .i64 0, .slice none 0 0])
  rw [show (w.alloc (.cells #[.int .i64 (k.L : Int), .int .i64 (k.R : Int), .int .i64 (k.S : Int)] 30)).heap.size = w.heap.size + 1 by simp] at HS
  generalize (w.alloc _).alloc _ = w2 at *
  generalize w.heap.size = gb at *
  generalize gb + 1 = gr at *
  have c0 : ∀ x : Ext w2, x.now.cell? ⟨gb, 0, none⟩ = some (.int .i64 (k.L : Int)) := fun x => x.cell (by simpa using (HS.out.blk 0 rfl).cell 0)
  have c1 : ∀ x : Ext w2, x.now.cell? ⟨gb, 1, none⟩ = some (.int .i64 (k.R : Int)) := fun x => x.cell (by simpa using (HS.out.blk 0 rfl).cell 1)
  have c2 : ∀ x : Ext w2, x.now.cell? ⟨gb, 2, none⟩ = some (.int .i64 (k.S : Int)) := fun x => x.cell (by simpa using (HS.out.blk 0 rfl).cell 2)
  have hdv : ∀ x : Ext w2, Dev x.now d s := fun x => H.out.of_new (HS.out.grow x.keep).keep
  have hac : ∀ w, Calls Try.prog 49 #[.agg k.cells] w fun e w' => e = .returned (.int .i64 (na : Int)) ∧ Keep w.heap.size [] w w' := fun w => by have := kactive k w HK.out; rwa [HNA.out] at this
  have hus : ∀ w, Calls Try.prog 50 #[.agg k.cells] w fun e w' => e = .returned (.int .i64 ((na : Int) + 1)) ∧ Keep w.heap.size [] w w' := fun w => by have := kused k w HK.out; rwa [HNA.out] at this
  have hl1 : ∀ x : Ext w2, Calls Try.prog 32 #[.pointer (some ⟨d.b, 0, none⟩), .int .i64 (na : Int)] x.now fun e w' => e = .returned (.int .u64 (a : Int)) ∧ x.now = w' := fun x => load_is d s na _ _ (hdv x) HA.out
  have hl2 : ∀ x : Ext w2, Calls Try.prog 32 #[.pointer (some ⟨d.b, 0, none⟩), .int .i64 ((na : Int) + 1)] x.now fun e w' => e = .returned (.int .u64 (u : Int)) ∧ x.now = w' := fun x => load_is d s (na + 1) _ _ (hdv x) HU.out
  have HAC := Lib.hid hac
  have HUS := Lib.hid hus
  have HL1 := Lib.hid hl1
  have HL2 := Lib.hid hl2
  clear hdv hac hus hl1 hl2
  refine wp_region_ext (by kernel_rfl) (by kernel_rfl) ?_
  repeat (go_big_quiet_step ((first | (go_at_call 49; with_reducible exact Calls.ext (HAC.out _)) | (go_at_call 50; with_reducible exact Calls.ext (HUS.out _)) | (go_at_call 32; with_reducible exact Calls.ext_same (HL1.out _)) | (go_at_call 32; with_reducible exact Calls.ext_same (HL2.out _)))))
  refine wpQuiet_nil ?_
  rintro _ ⟨x, rfl⟩
  replace HS := Lib.hid (HS.out.grow x.keep)
  clear c0 c1 c2
  have c1 := (HS.out.blk 0 rfl).cell 1
  simp at c1
  have c2 := (HS.out.blk 0 rfl).cell 2
  simp at c2
  have e1 : decide ((a : Int) > 1) = false := by simp; omega
  have e2 : IntKind.u64.wrap (k.S : Int) = (k.S : Int) := by rw [IntKind.wrap_u64]; omega
  have e3 : decide ((u : Int) > (k.S : Int)) = false := by simp; omega
  have e3' : (k.S < u) = False := by simp; omega
  have e1' : ((1 : Int) < (a : Int)) = False := by simp; omega
  have e1'' : (1 < a) = False := by simp; omega
  have e4 : IntKind.i64.wrap (a : Int) = (a : Int) := IntWalk.i64_in _ (by omega)
  have e5 : IntKind.i64.wrap (u : Int) = (u : Int) := IntWalk.i64_in _ (by omega)
  have hgl := (HS.out.blk 0 rfl).lt
  go_wp2_with fail
  replace HS := Lib.hid (((HS.out.new 33 (rbC a u (.slice none 0 0))).nilRow 38).take 4)
  clear c1 c2 hgl HAC HUS HL1 HL2
  simp only [rbC] at HS
  generalize x.now.alloc _ = w3 at *
  generalize x.now.heap.size = gx at *
  go_loopw [35] (fun v' wr => ∃ (j : Nat) (vv : Value), j ≤ k.R ∧ v' = .int .i64 (j : Int) ∧ Sep w [] [blkR gb 30 #[.int .i64 (k.L : Int), .int .i64 (k.R : Int), .int .i64 (k.S : Int)], blkR gr 33 #[.int .i64 0, .int .i64 0, .slice none 0 0], blkR gx 33 #[.int .i64 (a : Int), .int .i64 (u : Int), vv], rowR 38 vv (uw (rootsOf s k j))] wr) (fun v' _ => k.R - (intOf v').toNat)
  case atStart => exact ⟨0, _, Nat.zero_le _, rfl, HS.out⟩
  case round =>
    clear HS
    obtain ⟨j, vv, hj, rfl, hs⟩ := hrel
    obtain ⟨A0, C0, hvv⟩ := rowR_val (hs.row 3 rfl)
    subst hvv
    have HS := Lib.hid hs
    clear hs
    by_cases hlt : j < k.R
    · have hlt' : (j : Int) < (k.R : Int) := by omega
      obtain ⟨m, hm⟩ : ∃ m, k.act + 2 + j = m := ⟨_, rfl⟩
      obtain ⟨y0, hy⟩ : ∃ y0, s.nw m = y0 := ⟨_, rfl⟩
      have hld : ∀ x : Ext wr, Calls Try.prog 32 #[.pointer (some ⟨d.b, 0, none⟩), .int .i64 (m : Int)] x.now fun e w' => e = .returned (.int .u64 y0) ∧ x.now = w' := fun x => load_is d s m _ _ (H.out.of_new (HS.out.grow x.keep).keep) hy
      have HLD := Lib.hid hld
      have HM := Lib.hid hm
      have HY := Lib.hid hy
      clear hld hm hy
      have c0 : ∀ x : Ext wr, x.now.cell? ⟨gb, 0, none⟩ = some (.int .i64 (k.L : Int)) := fun x => x.cell (by simpa using (HS.out.blk 0 rfl).cell 0)
      have c1 : ∀ x : Ext wr, x.now.cell? ⟨gb, 1, none⟩ = some (.int .i64 (k.R : Int)) := fun x => x.cell (by simpa using (HS.out.blk 0 rfl).cell 1)
      have c2 : ∀ x : Ext wr, x.now.cell? ⟨gb, 2, none⟩ = some (.int .i64 (k.S : Int)) := fun x => x.cell (by simpa using (HS.out.blk 0 rfl).cell 2)
      have c3 : ∀ x : Ext wr, x.now.cell? ⟨gx, 2, none⟩ = some (.slice A0 (uw (rootsOf s k j)).length C0) := fun x => x.cell (by simpa using (HS.out.blk 2 rfl).cell 2)
      go_wp2_with fail
      refine wp_region_rel_tails 8 (by simp) (by kernel_rfl) (by kernel_rfl) (by kernel_rfl) (by kernel_rfl) ?_
      simp only [List.take_succ_cons, List.take_zero, List.drop_succ_cons, List.drop_zero]
      simp only [puts, Act.put, List.setIfInBounds_toArray, List.set_cons_succ, List.set_cons_zero, Nat.zero_add, Nat.reduceAdd]
      repeat (apply wpRel_is; (focus (intro u y K hK; simp only [sure, told, lay, Region.binds, List.getElem?_cons_zero, List.getElem?_cons_succ, List.getElem?_nil, if_true, Nat.reduceBEq, cond_true, cond_false]; intros; go_simp; simp only [yUpon]; with_reducible refine hK y (Keep.refl _ _ _))); simp only [List.nil_append, List.cons_append])
      apply wpRel_is
      · intro u y K hK
        simp only [sure, told, lay, Region.binds, List.getElem?_cons_zero, List.getElem?_cons_succ, List.getElem?_nil, if_true, Nat.reduceBEq, cond_true, cond_false]
        intros
        go_simp
        simp only [yUpon]
        refine (kroot_eq k _ HK.out j m (by omega) HM.out).mono ?_
        rintro e w' ⟨rfl, hk⟩
        exact hK ⟨w', y.keep.join hk y.keep.size (by simp)⟩ hk
      simp only [List.nil_append, List.cons_append]
      repeat (apply wpRel_is; (focus (intro u y K hK; simp only [sure, told, lay, Region.binds, List.getElem?_cons_zero, List.getElem?_cons_succ, List.getElem?_nil, if_true, Nat.reduceBEq, cond_true, cond_false]; intros; go_simp; simp only [yUpon]; with_reducible refine hK y (Keep.refl _ _ _))); simp only [List.nil_append, List.cons_append])
      apply wpRel_is
      · intro u y K hK
        simp only [sure, told, lay, Region.binds, List.getElem?_cons_zero, List.getElem?_cons_succ, List.getElem?_nil, if_true, Nat.reduceBEq, cond_true, cond_false]
        intros
        go_simp
        simp only [yUpon]
        refine (HLD.out y).mono ?_
        rintro e w' ⟨rfl, rfl⟩
        exact hK y (Keep.refl _ _ _)
      simp only [List.nil_append, List.cons_append]
      repeat (apply wpRel_is; (focus (intro u y K hK; simp only [sure, told, lay, Region.binds, List.getElem?_cons_zero, List.getElem?_cons_succ, List.getElem?_nil, if_true, Nat.reduceBEq, cond_true, cond_false]; intros; go_simp; simp only [yUpon]; with_reducible refine hK y (Keep.refl _ _ _))); simp only [List.nil_append, List.cons_append])
      refine wpRel_so (fun v w' => RowAt w' v [.int .u64 y0]) (fun v w1 w2 h hk => h.keep hk) ?_ ?_
      · intro u y K hK
        simp only [sure, told, lay, Region.binds, List.getElem?_cons_zero, List.getElem?_cons_succ, List.getElem?_nil, if_true, Nat.reduceBEq, cond_true, cond_false]
        intros
        go_simp
        simp only [yUpon]
        have hk2 : Keep y.now.heap.size [] y.now (y.now.alloc (.cells #[.int .u64 y0] 38)) := (Keep.refl _ _ _).alloc (Nat.le_refl _) _
        exact hK _ ⟨_, y.keep.join hk2 y.keep.size (by simp)⟩ hk2 (RowAt.built _ _ [.int .u64 y0])
      simp only [List.nil_append, List.cons_append]
      refine wpRel_nil ?_
      intro u z h
      obtain ⟨gs, cs, h7, _, hc⟩ : RowAt z.now (u 7) [.int .u64 y0] := h 7 _ rfl
      have h1 : u 1 = .slice A0 (uw (rootsOf s k j)).length C0 := h 1 _ rfl
      replace HS := Lib.hid (HS.out.grow z.keep)
      clear h c0 c1 c2 c3
      simp only [h7, h1]
      show wpList _ _ _ _ _ _
      refine wpList_append HS.out 3 rfl rfl _ _ 31 rfl rfl rfl rfl (by decide) rfl ⟨gs, 0, none⟩ 1 cs [.int .u64 y0] rfl rfl (by decide) (fun i v hv => by rw [show (⟨gs, 0, none⟩ : Addr).add i = ⟨gs, i, none⟩ by unfold Addr.add; split <;> simp_all]; exact hc i v hv) (by simp [Value.oneCell']) (by simp [uw, rootsOf]; omega) ?_
      intro v' w4 hS
      obtain ⟨A, c, hv'⟩ := rowR_val (hS.row 3 rfl)
      subst hv'
      replace HS := Lib.hid hS
      clear hS
      have cx := (HS.out.blk 2 rfl).cell 2
      simp at cx
      have fz := (HS.out.blk 2 rfl).frozen 2
      have hr2 : uw (rootsOf s k (j + 1)) = uw (rootsOf s k j) ++ [.int .u64 y0] := by rw [rootsOf_succ, HM.out, HY.out]
      have HR2 := Lib.hid hr2
      clear hr2 hc h7 h1
      go_wp2
      refine ⟨⟨j + 1, .slice A ((uw (rootsOf s k j)).length + 1) c, by omega, by first | rfl | go_num | simp, ?_⟩, by simp [intOf]; omega⟩
      rw [HR2.out]
      simpa using HS.out.put (i := 2) rfl 2 (.slice A (uw (rootsOf s k j) ++ [Value.int .u64 y0]).length c)
    · have hj2 : j = k.R := by omega
      subst hj2
      have hlt' : ¬ (k.R : Int) < (k.R : Int) := by omega
      have c0 := (HS.out.blk 2 rfl).cell 0
      simp at c0
      have c1 := (HS.out.blk 2 rfl).cell 1
      simp at c1
      have c2 := (HS.out.blk 2 rfl).cell 2
      simp at c2
      have d0 := (HS.out.blk 1 rfl).cell 0
      simp at d0
      have d1 := (HS.out.blk 1 rfl).cell 1
      simp at d1
      have d2 := (HS.out.blk 1 rfl).cell 2
      simp at d2
      have z0 := (HS.out.blk 1 rfl).frozen 0
      have z1 := (HS.out.blk 1 rfl).frozen 1
      have z2 := (HS.out.blk 1 rfl).frozen 2
      have hne := HS.out.ne 1 2 rfl rfl (by decide)
      have hne2 := hne.symm
      have hS3 := ((HS.out.put (i := 1) rfl 0 (.int .i64 (a : Int))).put (i := 1) rfl 1 (.int .i64 (u : Int))).put (i := 1) rfl 2 (.slice A0 (uw (rootsOf s k k.R)).length C0)
      have HS3 := Lib.hid hS3
      clear hS3
      go_wp2
      generalize ((wr.setCell _ _).setCell _ _).setCell _ _ = wz at *
      have hld : (loadVar 33 ⟨gr, 0, none⟩).run Try.prog wz = .ok (.agg (rbC a u (.slice A0 (uw (rootsOf s k k.R)).length C0))) wz := by
        have hb := HS3.out.blk 1 rfl
        refine run_loadVar_mid wz gr 0 33 [.int .i64 (a : Int), .int .i64 (u : Int), .slice A0 (uw (rootsOf s k k.R)).length C0] ((Try.prog.underlying 33).getD (.int .i64)) (fun j v hv => ?_) (by kernel_rfl) (by kernel_rfl) (by kernel_rfl)
        · rw [Nat.zero_add, hb.cell]
          simpa using hv
      refine bodyPost_ret (v := .tuple #[.agg (rbC a u (.slice A0 (uw (rootsOf s k k.R)).length C0)), .int .i64 0]) ?_ rfl ?_
      · rw [results_cell_tmp rfl]
        simp [asAddr, hld]
      exact ⟨_, rfl, HS3.out.keep, HS3.out.row 3 rfl, fun k hk => Nat.le_of_not_lt fun hlt => by simpa using HS3.out.old 3 _ rfl k hk hlt⟩
end Go.Proofs.Ytbdomdmnjclpdaa
