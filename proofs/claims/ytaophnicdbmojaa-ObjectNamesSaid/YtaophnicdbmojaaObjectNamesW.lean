/-
  ObjectNames: the walk.
-/
import Derived.Test.YtaophnicdbmojaaAwk10
import Derived.Test.YtaophnicdbmojaaRangeX
import Derived.Test.YtaophnicdbmojaaRowN
import Derived.Test.YtaophnicdbmojaaRng
import Derived.Sort.CutIn
set_option linter.unusedSimpArgs false
set_option linter.unusedVariables false
set_option maxRecDepth 100000
namespace Go.Proofs.Ytaophnicdbmojaa
open Go.RowKit Go.Shelf

attribute [local go_sem] Oper.semAt_some

theorem wpFr_seqH {Fr : FuncId → Prop} {P : Program} {Q : Exit → Act → World → Prop} {a : Act} {w : World} {x y : Code}
    (h : ∀ K : Act → World → Prop, (∀ a w, wpFr Fr P y Q a w → K a w) → x.wp P (Exit.then K Q) a w) : wpFr Fr P (.seq x y) Q a w :=
  wpFr_seq (wpFr_of_wp (h _ fun _ _ h => h))
theorem addrN (g i : Nat) : (⟨g, 0, none⟩ : Addr).add i = ⟨g, i, none⟩ := by unfold Addr.add; split <;> simp_all
theorem k80_from : (kOf 0 0 80).from_ 0 = 40 := by decide
theorem tmod_n (a n : Nat) : ((a : Int)).tmod (n : Int) = ((a % n : Nat) : Int) := by
  rw [Int.tmod_eq_emod_of_nonneg (by omega)]; simp
/-- Two cells of each name. -/
def pairsOf (l : List (Nat × Int)) : List Value := l.flatMap fun x => [.int .i64 (x.1 : Int), .int .i64 x.2]
theorem pairsOf_snoc (l : List (Nat × Int)) (x : Nat × Int) : pairsOf (l ++ [x]) = pairsOf l ++ [.int .i64 (x.1 : Int), .int .i64 x.2] := by simp [pairsOf]
theorem pairsOf_get : ∀ (l : List (Nat × Int)) (m : Nat) (x : Nat × Int), l[m]? = some x → (pairsOf l)[2 * m]? = some (.int .i64 (x.1 : Int)) ∧ (pairsOf l)[2 * m + 1]? = some (.int .i64 x.2)
  | [], m, x, h => by simp at h
  | y :: l, 0, x, h => by simp at h; subst h; exact ⟨rfl, rfl⟩
  | y :: l, m + 1, x, h => by
    have := pairsOf_get l m x (by simpa using h)
    rw [show 2 * (m + 1) = 2 * m + 2 by omega]
    exact this
theorem namesTo_same {t : St} {n at_ q : Nat} {v : Int} (h : t.Is n) (hq : q < n) : ∀ {i : Nat}, at_ + i < q → namesTo (t.store q v) at_ i = namesTo t at_ i
  | 0, _ => rfl
  | i + 1, hi => by
    have e := St.nw_store h hq v
    have ih := namesTo_same (v := v) h hq (at_ := at_) (i := i) (by omega)
    by_cases hz : t.nw (at_ + 1 + i) = 0
    · rw [namesTo_zero hz, namesTo_zero (by rw [e, if_neg (by omega)]; exact hz), ih]
    · have hz2 : (t.store q v).nw (at_ + 1 + i) ≠ 0 := by rw [e, if_neg (by omega)]; exact hz
      simp only [namesTo]
      rw [ih, e, if_neg (show at_ + 1 + i ≠ q by omega), if_neg hz]
theorem namesTo_len (t : St) (at_ : Nat) : ∀ i, (namesTo t at_ i).length ≤ i
  | 0 => Nat.le_refl _
  | i + 1 => by
    have ih := namesTo_len t at_ i
    by_cases hz : t.nw (at_ + 1 + i) = 0
    · rw [namesTo_zero hz]; omega
    · rw [namesTo_more hz]; omega
/-- append, in a drawn region. -/
theorem y_appendN {W w : World} {S : List Nat} {L : List Res} {e : TypeId} {v : Value} {xs : List Value} {n sz : Nat} {P : Program} {o : Oper} {a : Act} {K : Value → World → Prop} {Q : Exit → Act → World → Prop} (HS : Sep W S L w) (i : Nat) (hi : L[i]? = some (rowN e sz v n xs)) (hgd : o.guard = none) (s x : Operand) (t : TypeId)
    (ho : o.op = .call { callee := .builtin .append, args := #[s, x], argTypes := #[t, t] }) {z : Value} {bytes : Nat} (ht : P.underlying t = some (.slice e)) (hinfo : (P.info? e).map (fun i => (i.zero, i.size, i.bytes)) = some (some z, sz, bytes)) (hzs : z.cells.size = sz) (hs0 : 0 < sz) (hb8 : bytes ≤ 64)
    (hs : a.eval s = v) (ad : Addr) (m c : Nat) (news : List Value) (hx : a.eval x = .slice (some ad) m c) (hl : news.length = m * sz) (hm : 0 < m) (hnews : ∀ j u, news[j]? = some u → w.cell? (ad.add j) = some u) (h1 : ∀ u ∈ news, u.oneCell' = true)
    (h63 : n + m ≤ 1099511627776)
    (h : ∀ v' w', (∃ A c, v' = .slice A (n + m) c) → Sep W S (L.set i (rowN e sz v' (n + m) (xs ++ news))) w' → K v' w') : yUpon P a K Q ((execOp a.eval o).run P w) := by
  obtain ⟨i0, hi0, hz0, hz1, hz2⟩ := info_parts hinfo
  obtain ⟨v', w', hr, h2, h3, h4⟩ := run_append_rowN (P := P) w (ty := o.type) ht hi0 hz0 hz1 hz2 hzs hs0 (HS.rowN i hi) ad m c news hl hm hnews h1 h63 hb8
  have hs2 := HS.step hi (r' := rowN e sz v' (n + m) (xs ++ news)) h3 h2 h4
  unfold yUpon execOp
  simp only [ho, resolve, invoke, builtin, Sem.run_bind, Sem.run_pure, Result.andThen_ok, List.map_toArray, List.map_cons, List.map_nil, hs, hx, hr]
  exact h v' w' (rowN_val h2) hs2
/-- A slice's own block. -/
def sliceR (v : Value) (t : TypeId) (cs : Array Value) : Res := match v with | .slice (some ⟨g, 0, none⟩) _ _ => blkR g t cs | _ => noR
/-- A device with one object of eight words at 40, whose names are set up to i. -/
structure NmS (t : St) (k : Kfg) (b i : Nat) : Prop where
  is : t.Is k.words
  lim : t.l < 0
  zero : ∀ j, i ≤ j → j < b → t.nw (40 + 1 + j) = 0
  small : ∀ j, j < b → 0 ≤ t.nw (40 + 1 + j) ∧ t.nw (40 + 1 + j) ≤ 3
theorem NmS.skip {t : St} {k : Kfg} {b i : Nat} (h : NmS t k b i) : NmS t k b (i + 1) := ⟨h.is, h.lim, fun j h1 h2 => h.zero j (by omega) h2, h.small⟩
theorem NmS.put {t : St} {k : Kfg} {b i q : Nat} {v : Int} (h : NmS t k b i) (hq : 40 + 1 + i = q) (hw : q < k.words) (h0 : 0 ≤ v) (h3 : v ≤ 3) : NmS (t.store q v) k b (i + 1) := by
  have e := St.nw_store h.is hw v
  refine ⟨h.is.store _ _, h.lim, fun j h1 h2 => ?_, fun j h2 => ?_⟩
  · rw [e, if_neg (by omega)]; exact h.zero j (by omega) h2
  · rw [e]
    split
    · exact ⟨h0, h3⟩
    · exact h.small j h2
set_option maxRecDepth 100000 in
set_option maxHeartbeats 8000000 in
theorem ObjectNames.core (a0 : Int) (v1 : Value) (xs1 : List Int) (a2 : Int) (w : World) (a00 : 0 ≤ a0) (a01 : a0 ≤ 255) (hr1 : Rd w v1 (xs1.map (Value.int .u16))) (hb1 : ∀ x ∈ xs1, 0 ≤ x ∧ x ≤ 65535) (hn1 : xs1.length ≤ maxLen) (a20 : 0 ≤ a2) (a21 : a2 ≤ 255) :
    Calls Try.prog 12 #[.int .u8 a0, v1, .int .u8 a2] w fun e w' => e = .returned (.bool true) ∧ Keep w.heap.size [] w w' := by
  simp only [maxLen] at hn1
  obtain ⟨q0, rfl⟩ : ∃ q0 : Nat, a0 = (q0 : Int) := ⟨a0.toNat, by omega⟩
  obtain ⟨q2, rfl⟩ : ∃ q2 : Nat, a2 = (q2 : Int) := ⟨a2.toNat, by omega⟩
  obtain ⟨z, hz⟩ : ∃ z, q2 % 9 = z := ⟨_, rfl⟩
  have hrem : ((q2 : Int)).tmod 9 = (z : Int) := by rw [show (9 : Int) = ((9 : Nat) : Int) from rfl, tmod_n, hz]
  have hz8 : z ≤ 8 := by omega
  have hzw : IntKind.i64.wrap (z : Int) = (z : Int) := IntWalk.i64_in _ (by omega)
  clear hz
  obtain ⟨b, hb⟩ : ∃ b, q0 % 9 = b := ⟨_, rfl⟩
  have hb8 : b ≤ 8 := by omega
  have HS := Lib.hid (((Sep.start w []).new 5 #[.int .u8 (q2 : Int)]).new 4 #[.bool false])
  simp only [World.size_alloc] at HS
  refine Calls.mono (R := fun e w' => e = .returned (.bool true) ∧ Sep w [] [] w') ?_ fun e w' h => ⟨h.1, h.2.keep⟩
  have HRD := Lib.hid hr1
  obtain ⟨NA, NC, hv1, hms⟩ := hr1.cells
  subst hv1
  have HXB := Lib.hid hb1
  have HMS := Lib.hid hms
  clear hms hr1 hb1
  refine calls_of_wpFr Try.func12 rfl ?_
  simp only [Try.ntmps12, List.size_toArray, List.length_cons, List.length_nil, Nat.reduceAdd, Nat.reduceSub, Array.replicate_succ,
     Array.replicate_zero, List.push_toArray, List.append_toArray, List.nil_append, List.cons_append]
  refine wpFr_seq (wpFr_of_wp ?_)
  go_wp2
  generalize (w.alloc _).alloc _ = w2 at *
  generalize w.heap.size = gs at *
  generalize gs + 1 = gr at *
  refine wpFr_seq (wpFr_of_wp ?_)
  go_wp2_with fail
  refine (awake10_any _).mono ?_
  rintro e w1 ⟨rfl, hk⟩
  replace HS := Lib.hid (HS.out.grow hk)
  clear hk
  go_wp2
  refine wpFr_seq (wpFr_of_wp ?_)
  by_cases hb1 : 20 < xs1.length
  · have hbI : (20 : Int) < xs1.length := by omega
    have r0 := (HS.out.blk 1 rfl).cell 0
    simp at r0
    have z2 := (HS.out.blk 1 rfl).frozen 0
    have hs2 := HS.out.put (i := 1) rfl 0 (.bool true)
    have HS2 := Lib.hid hs2
    clear hs2
    go_wp2
    have ld := loadVar_one (P := Try.prog) (ty := 4) (a := ⟨gr, 0, none⟩) (v := .bool true) (d := .bool) (by kernel_rfl) rfl (by rw [(HS2.out.blk 1 rfl).cell 0]; rfl)
    exact leave_none (results_c (fn := Try.f12) (p := 6) (ty := 4) (a1 := ⟨gr, 0, none⟩) rfl _ _ _ rfl ld) ⟨rfl, HS2.out.take 0⟩
  have hx2 : ((20 : Int) < xs1.length) = False := by rw [eq_iff_iff, iff_false]; omega
  have hx3 : (20 < xs1.length) = False := by rw [eq_iff_iff, iff_false]; omega
  go_wp2
  clear hx2 hx3
  refine wpFr_seq (wpFr_of_wp ?_)
  go_wp2_with fail
  replace HS := Lib.hid (HS.out.new 65 #[.int .u8 (q0 : Int), .int .u8 8])
  generalize w1.alloc _ = w2 at *
  generalize w1.heap.size = gh at *
  refine (filled_any 0 0 80 _ [⟨(q0 : Int), 8⟩] _ (by decide) (by decide) (by decide) (by decide) (by decide) (by decide) (rdH_one (HS.out.blk 2 rfl)) (by intro x hx; simp at hx; subst hx; exact ⟨by show (0 : Int) ≤ q0; omega, by show (q0 : Int) ≤ 255; omega, by show (0 : Int) ≤ 8; decide, by show (8 : Int) ≤ 255; decide⟩) (by simp)).mono ?_
  have hbb : (⟨(q0 : Int), 8⟩ : HV).b = b := by show ((q0 : Int) % ((8 : Nat) + 1 : Int)).toNat = b; omega
  have hpl : placed ((kOf 0 0 80).from_ 0) (kOf 0 0 80).S [⟨(q0 : Int), 8⟩] 0 = [⟨40, 8, b⟩] := by
    rw [k80_from, ← hbb]; rfl
  have hus : usedOf (kOf 0 0 80).S [⟨(q0 : Int), 8⟩] 0 = 9 := rfl
  have hk : (kOf 0 0 80).Ok := (kOf_ok (by decide) (by decide) (by decide)).1
  rw [hpl, hus]
  have hf0 := k80_from
  have hkS : (kOf 0 0 80).S = 88 := rfl
  have hkw : (kOf 0 0 80).words ≤ 10000 := (Kfg.words_le hk).2
  generalize kOf 0 0 80 = k at *
  clear hbb hpl hus hb
  rintro e w3 ⟨d, t, rv, ov, rfl, hf, hb, hS⟩
  obtain ⟨RA, RC, hrv⟩ := rowR_val (hS.row 2 rfl)
  obtain ⟨RL, hRL⟩ : ∃ RL, (uw (rootsOf t k k.R)).length = RL := ⟨_, rfl⟩
  obtain ⟨rs, hrs⟩ : ∃ rs, rootsOf t k k.R = rs := ⟨_, rfl⟩
  rw [hrs] at hrv hS hRL
  rw [hRL] at hrv
  subst hrv
  clear hRL hrs
  obtain ⟨gv, C0, ex, rfl, hS2⟩ := (HS.out.adds hS).rowBlk (i := 4) rfl (by simp [atsOf])
  replace HS := Lib.hid hS2
  rw [show (atsOf [⟨40, 8, b⟩]).length = 1 from rfl]
  simp only [Kfg.cells, rbC]
  have HF := Lib.hid hf
  have HB := Lib.hid hb
  have HK := Lib.hid hk
  have HF0 := Lib.hid hf0
  have HKS := Lib.hid hkS
  clear hkS hS hS2 hf hb hk hf0
  go_wp2
  replace HS := Lib.hid ((HS.out.new 29 #[.int .i64 (k.L : Int), .int .i64 (k.R : Int), .int .i64 (k.S : Int)]).new 39 #[.int .i64 0, .int .i64 9, .slice RA RL RC])
  simp only [World.size_alloc] at HS
  generalize (w3.alloc _).alloc _ = w4 at *
  generalize w3.heap.size = gk at *
  generalize gk + 1 = gb at *
  refine wpFr_seq (wpFr_of_wp ?_)
  go_wp2
  refine wpFr_seq (wpFr_of_wp ?_)
  have hhd : t.nw 40 = hw (8 : Nat) (b : Nat) := HF.out.heads ⟨40, 8, b⟩ (by simp)
  have hof : ∀ w, Dev w d t → Calls Try.prog 42 #[.pointer (some ⟨d.b, 0, none⟩), .agg #[.int .i64 (k.L : Int), .int .i64 (k.R : Int), .int .i64 (k.S : Int)], .agg #[.int .i64 0, .int .i64 9, .slice RA RL RC], .int .i64 40] w (fun e w' => e = .returned (.tuple #[.agg #[.int .i64 8, .int .i64 (b : Int), .int .i64 40], .int .i64 0]) ∧ Keep w.heap.size [] w w') := fun w (hd : Dev w d t) => of_yes d t k 0 9 40 49 (hw (8 : Nat) (b : Nat)) 8 (b : Int) (.slice RA RL RC) w hd HK.out (by decide) (by rw [HKS.out]; decide) (by rw [HF0.out]; decide) (by rw [HF0.out]) hhd (hw_wd (by decide) hb8).1 (hw_wd (by decide) hb8).2 (headOf_hw (a := 8) (b := (b : Int)) ⟨by decide, by decide, by omega, by omega⟩) (by decide)
  have HOF := Lib.hid hof
  clear hof hhd
  replace HS : Hid (Sep w [] [blkR gs 5 #[.int .u8 (q2 : Int)], blkR gr 4 #[.bool false], blkR gh 65 #[.int .u8 (q0 : Int), .int .u8 8], devR d (t), blkR gv 3 (atsOf [⟨40, 8, b⟩] ++ ex).toArray, rowR 25 (.slice RA RL RC) (uw rs), blkR gk 29 #[.int .i64 (k.L : Int), .int .i64 (k.R : Int), .int .i64 (k.S : Int)], blkR gb 39 #[.int .i64 0, .int .i64 9, .slice RA RL RC], noR] w4) := Lib.hid (HS.out.add (Keep.refl _ _ _) (r := noR) trivial (by simp [noR]))
  refine wp_region_st3 (W := w) (S := []) (by kernel_rfl) (by kernel_rfl) (by kernel_rfl) (fun D uu => [blkR gs 5 #[.int .u8 (q2 : Int)], blkR gr 4 #[.bool false], blkR gh 65 #[.int .u8 (q0 : Int), .int .u8 8], devR d (t), blkR gv 3 (atsOf [⟨40, 8, b⟩] ++ ex).toArray, rowR 25 (.slice RA RL RC) (uw rs), blkR gk 29 #[.int .i64 (k.L : Int), .int .i64 (k.R : Int), .int .i64 (k.S : Int)], blkR gb 39 #[.int .i64 0, .int .i64 9, .slice RA RL RC], bif D 10 then ptrR (uu 10) 75 (bif D 11 then #[.int .i64 8, .int .i64 (b : Int), .int .i64 40] else #[.int .i64 0, .int .i64 0, .int .i64 0]) else noR])
    (fun j v => match j with
      | 0 => v = .pointer (some ⟨d.b, 0, none⟩)
      | 1 => v = .agg #[.int .i64 (k.L : Int), .int .i64 (k.R : Int), .int .i64 (k.S : Int)]
      | 2 => v = .agg #[.int .i64 0, .int .i64 9, .slice RA RL RC]
      | 3 => v = .slice (some ⟨gv, 0, none⟩) 1 C0
      | 4 => v = .pointer (some ⟨gv, 0, none⟩)
      | 5 => v = .int .i64 40
      | 6 => v = .tuple #[.agg #[.int .i64 8, .int .i64 (b : Int), .int .i64 40], .int .i64 0]
      | 7 => v = .tuple #[.agg #[.int .i64 8, .int .i64 (b : Int), .int .i64 40], .int .i64 0]
      | 8 => v = .agg #[.int .i64 8, .int .i64 (b : Int), .int .i64 40]
      | 9 => v = .int .i64 0
      | 10 => ∃ h, v = .pointer (some ⟨h, 0, none⟩)
      | 12 => v = .int .i64 0
      | _ => True) ?start ?step ?fin
  case start => exact fun u => HS.out
  case step =>
    clear HS
    refine ⟨?_, ?_, ?_, ?_, ?_, ?_, ?_, ?_, ?_, ?_, ?_, ?_, ?_, trivial⟩
    · intro D uu w' K hD hF hl hS hK
      simp only [puts, Act.put, List.setIfInBounds_toArray, List.set_cons_succ, List.set_cons_zero, Nat.zero_add, Nat.reduceAdd]
      go_simp
      simp only [yUpon]
      exact hK _ _ rfl hS
    · intro D uu w' K hD hF hl hS hK
      simp only [puts, Act.put, List.setIfInBounds_toArray, List.set_cons_succ, List.set_cons_zero, Nat.zero_add, Nat.reduceAdd]
      have x0 := (hS.blk 6 rfl).cell 0
      have x1 := (hS.blk 6 rfl).cell 1
      have x2 := (hS.blk 6 rfl).cell 2
      simp at x0 x1 x2
      go_simp
      simp only [yUpon]
      exact hK _ _ rfl hS
    · intro D uu w' K hD hF hl hS hK
      simp only [puts, Act.put, List.setIfInBounds_toArray, List.set_cons_succ, List.set_cons_zero, Nat.zero_add, Nat.reduceAdd]
      have x0 := (hS.blk 7 rfl).cell 0
      have x1 := (hS.blk 7 rfl).cell 1
      have x2 := (hS.blk 7 rfl).cell 2
      simp at x0 x1 x2
      go_simp
      simp only [yUpon]
      exact hK _ _ rfl hS
    · intro D uu w' K hD hF hl hS hK
      simp only [puts, Act.put, List.setIfInBounds_toArray, List.set_cons_succ, List.set_cons_zero, Nat.zero_add, Nat.reduceAdd]
      go_simp
      simp only [yUpon]
      exact hK _ _ rfl hS
    · intro D uu w' K hD hF hl hS hK
      have f3 := (hF 3 (by kernel_rfl)).2
      simp only at f3
      simp only [puts, Act.put, List.setIfInBounds_toArray, List.set_cons_succ, List.set_cons_zero, Nat.zero_add, Nat.reduceAdd]
      simp only [f3]
      go_simp
      simp only [yUpon]
      exact hK _ _ rfl hS
    · intro D uu w' K hD hF hl hS hK
      have f4 := (hF 4 (by kernel_rfl)).2
      simp only at f4
      simp only [puts, Act.put, List.setIfInBounds_toArray, List.set_cons_succ, List.set_cons_zero, Nat.zero_add, Nat.reduceAdd]
      simp only [f4]
      have x0 := (hS.blk 4 rfl).cell 0
      simp [atsOf] at x0
      go_simp
      simp only [yUpon]
      exact hK _ _ rfl hS
    · intro D uu w' K hD hF hl hS hK
      have f0 := (hF 0 (by kernel_rfl)).2
      simp only at f0
      have f1 := (hF 1 (by kernel_rfl)).2
      simp only at f1
      have f2 := (hF 2 (by kernel_rfl)).2
      simp only at f2
      have f5 := (hF 5 (by kernel_rfl)).2
      simp only at f5
      simp only [puts, Act.put, List.setIfInBounds_toArray, List.set_cons_succ, List.set_cons_zero, Nat.zero_add, Nat.reduceAdd]
      simp only [f0, f1, f2, f5]
      go_simp
      simp only [yUpon]
      refine (HOF.out _ (hS.dev 3 rfl)).mono ?_
      rintro e w1 ⟨rfl, hkk⟩
      exact hK _ _ rfl (hS.grow hkk)
    · intro D uu w' K hD hF hl hS hK
      have f6 := (hF 6 (by kernel_rfl)).2
      simp only at f6
      simp only [puts, Act.put, List.setIfInBounds_toArray, List.set_cons_succ, List.set_cons_zero, Nat.zero_add, Nat.reduceAdd]
      simp only [f6]
      go_simp
      simp only [yUpon]
      exact hK _ _ rfl hS
    · intro D uu w' K hD hF hl hS hK
      have f7 := (hF 7 (by kernel_rfl)).2
      simp only at f7
      simp only [puts, Act.put, List.setIfInBounds_toArray, List.set_cons_succ, List.set_cons_zero, Nat.zero_add, Nat.reduceAdd]
      simp only [f7]
      go_simp
      simp only [yUpon]
      exact hK _ _ rfl hS
    · intro D uu w' K hD hF hl hS hK
      have f7 := (hF 7 (by kernel_rfl)).2
      simp only at f7
      simp only [puts, Act.put, List.setIfInBounds_toArray, List.set_cons_succ, List.set_cons_zero, Nat.zero_add, Nat.reduceAdd]
      simp only [f7]
      go_simp
      simp only [yUpon]
      exact hK _ _ rfl hS
    · intro D uu w' K hD hF hl hS hK
      simp only [puts, Act.put, List.setIfInBounds_toArray, List.set_cons_succ, List.set_cons_zero, Nat.zero_add, Nat.reduceAdd]
      have hlate := hl 11 (by kernel_rfl)
      simp only [hD, cond_false] at hS
      have hs2 := hS.step (i := 8) (r := noR) rfl (w' := w'.alloc (.cells #[.int .i64 0, .int .i64 0, .int .i64 0] 75)) ((Keep.refl _ _ _).alloc (Nat.le_refl _) _) (r' := blkR w'.heap.size 75 #[.int .i64 0, .int .i64 0, .int .i64 0]) (Blk.new _ _ _) (by simp [blkR])
      have e1 : (fset D 10 true) 10 = true := rfl
      have e2 : (fset D 10 true) 11 = false := hlate
      go_simp
      simp only [yUpon]
      refine hK _ _ ⟨_, rfl⟩ ?_
      simp only [e1, e2, cond_true, cond_false]
      exact hs2
    · intro D uu w' K hD hF hl hS hK
      have f8 := (hF 8 (by kernel_rfl)).2
      simp only at f8
      simp only [puts, Act.put, List.setIfInBounds_toArray, List.set_cons_succ, List.set_cons_zero, Nat.zero_add, Nat.reduceAdd]
      simp only [f8]
      obtain ⟨d10, g, hg⟩ := hF 10 (by kernel_rfl)
      simp only [hD, d10, hg, ptrR, cond_false, cond_true] at hS
      have x0 := (hS.blk 8 rfl).cell 0
      have x1 := (hS.blk 8 rfl).cell 1
      have x2 := (hS.blk 8 rfl).cell 2
      simp at x0 x1 x2
      have z0 := (hS.blk 8 rfl).frozen 0
      have z1 := (hS.blk 8 rfl).frozen 1
      have z2 := (hS.blk 8 rfl).frozen 2
      have hput := (((hS.put (i := 8) rfl 0 (.int .i64 8)).put (i := 8) rfl 1 (.int .i64 (b : Int))).put (i := 8) rfl 2 (.int .i64 40))
      have e1 : (fset D 11 true) 11 = true := rfl
      have e2 : (fset D 11 true) 10 = true := d10
      simp only [hg]
      go_simp
      simp only [yUpon]
      refine hK _ _ trivial ?_
      simp only [e1, e2, cond_true]
      have e4 : ∀ v, (fset uu 11 v) 10 = .pointer (some ⟨g, 0, none⟩) := fun v => hg
      simp only [e4, ptrR]
      exact hput
    · intro D uu w' K hD hF hl hS hK
      have f9 := (hF 9 (by kernel_rfl)).2
      simp only at f9
      simp only [puts, Act.put, List.setIfInBounds_toArray, List.set_cons_succ, List.set_cons_zero, Nat.zero_add, Nat.reduceAdd]
      simp only [f9]
      go_simp
      simp only [yUpon]
      exact hK _ _ rfl hS
  case fin =>
    intro D uu w5 hall hS
    have f10 := (hall 10 (by simp)).1
    have f11 := (hall 11 (by simp)).1
    obtain ⟨go, v10⟩ := (hall 10 (by simp)).2
    have v12 := (hall 12 (by simp)).2
    simp only at v12
    simp only [f10, f11, v10, ptrR, cond_true] at hS
    have HS := Lib.hid hS
    clear hall hS f10 f11
    simp only [puts, Act.put, List.setIfInBounds_toArray, List.set_cons_succ, List.set_cons_zero, Nat.zero_add, Nat.reduceAdd]
    simp only [v10, v12]
    clear v10 v12
    simp only [Exit.then]
    refine wpFr_seq (wpFr_of_wp ?_)
    go_wp2
    refine wpFr_seq (wpFr_of_wp ?_)
    go_wp2
    replace HS := Lib.hid ((HS.out.new 83 #[.slice none 0 0]).nilRowN 85 2)
    generalize w5.alloc _ = w6 at *
    generalize w5.heap.size = gw at *
    have hnm : NmS t k b 0 := ⟨HF.out.use.is, HF.out.use.lim, fun j _ hj => HB.out.body ⟨40, 8, b⟩ (by simp) j (by show j < 8; omega), fun j hj => by rw [show t.nw (40 + 1 + j) = 0 from HB.out.body ⟨40, 8, b⟩ (by simp) j (by show j < 8; omega)]; decide⟩
    have HNM := Lib.hid hnm
    have hwd : 40 + 9 ≤ k.words := by have := HF.out.in_ HK.out (by decide) (o := ⟨40, 8, b⟩) (by simp); exact this.2.1
    clear hnm
    replace HS : Hid (Sep w [] [blkR gs 5 #[.int .u8 (q2 : Int)], blkR gr 4 #[.bool false], blkR gh 65 #[.int .u8 (q0 : Int), .int .u8 8], devR d (t), blkR gv 3 (atsOf [⟨40, 8, b⟩] ++ ex).toArray, rowR 25 (.slice RA RL RC) (uw rs), blkR gk 29 #[.int .i64 (k.L : Int), .int .i64 (k.R : Int), .int .i64 (k.S : Int)], blkR gb 39 #[.int .i64 0, .int .i64 9, .slice RA RL RC], blkR go 75 #[.int .i64 8, .int .i64 (b : Int), .int .i64 40], blkR gw 83 #[.slice none (namesTo (t) 40 (0)).length 0], rowN 85 2 (.slice none (namesTo (t) 40 (0)).length 0) (namesTo (t) 40 (0)).length (pairsOf (namesTo (t) 40 (0)))] w6) := HS
    refine wpFr_seqH fun K hK => ?_
    refine (show Code.wp _ _ (Exit.then K _) _ _ from ?_)
    have o0 := (HS.out.blk 8 rfl).cell 1
    simp at o0
    go_wp2_with fail
    clear o0
    go_loopw [14, 55] (fun _ v55 wr => ∃ (i : Nat) (t : St) (WA : Option Addr) (WC : Nat), i ≤ b ∧ v55 = .int .i64 (i : Int) ∧ NmS t k b i ∧ Sep w [] [blkR gs 5 #[.int .u8 (q2 : Int)], blkR gr 4 #[.bool false], blkR gh 65 #[.int .u8 (q0 : Int), .int .u8 8], devR d (t), blkR gv 3 (atsOf [⟨40, 8, b⟩] ++ ex).toArray, rowR 25 (.slice RA RL RC) (uw rs), blkR gk 29 #[.int .i64 (k.L : Int), .int .i64 (k.R : Int), .int .i64 (k.S : Int)], blkR gb 39 #[.int .i64 0, .int .i64 9, .slice RA RL RC], blkR go 75 #[.int .i64 8, .int .i64 (b : Int), .int .i64 40], blkR gw 83 #[.slice WA (namesTo (t) 40 (i)).length WC], rowN 85 2 (.slice WA (namesTo (t) 40 (i)).length WC) (namesTo (t) 40 (i)).length (pairsOf (namesTo (t) 40 (i)))] wr) (fun _ v55 _ => b - (intOf v55).toNat)
    case atStart => exact ⟨0, t, none, 0, by omega, rfl, HNM.out, HS.out⟩
    case round =>
      clear HS HNM HF HB
      obtain ⟨i, t, WA, WC, hi, rfl, hn, hs⟩ := hrel
      have HS := Lib.hid hs
      have HN := Lib.hid hn
      clear hs hn
      by_cases hlt : i < b
      · have hltI : (i : Int) < (b : Int) := by omega
        by_cases hil : i < xs1.length
        · have hilI : (i : Int) < (xs1.length : Int) := by omega
          obtain ⟨g, off, hNA, hcx⟩ := HMS.out i hil
          subst hNA
          obtain ⟨x, hx⟩ : ∃ x : Nat, xs1.getD i 0 = (x : Int) := ⟨(xs1.getD i 0).toNat, by
            have := HXB.out (xs1.getD i 0) (by rw [List.getD_eq_getElem?_getD, List.getElem?_eq_getElem hil]; exact List.getElem_mem hil)
            omega⟩
          rw [hx] at hcx
          obtain ⟨y, hy⟩ : ∃ y, x % 4 = y := ⟨_, rfl⟩
          have hrem4 : ((x : Int)).tmod 4 = (y : Int) := by rw [show (4 : Int) = ((4 : Nat) : Int) from rfl, tmod_n, hy]
          have hy3 : y ≤ 3 := by omega
          have hyw : IntKind.i64.wrap (y : Int) = (y : Int) := IntWalk.i64_in _ (by omega)
          obtain ⟨q, hq⟩ : ∃ q, 40 + 1 + i = q := ⟨_, rfl⟩
          have hpt := fun w (hd : Dev w d t) => opoint_dev d t 8 (b : Int) 40 (i : Int) (y : Int) q w hd HN.out.lim (by rw [HN.out.is.now]; omega) (by unfold fieldErr; rw [if_neg (by omega), if_pos (by simp; omega)]) (by omega) ⟨by decide, by decide⟩ (by decide) (by omega)
          have hn2 := HN.out.put (v := (y : Int)) hq (by omega) (by omega) (by omega)
          have hsame := namesTo_same (v := (y : Int)) HN.out.is (show q < k.words by omega) (at_ := 40) (i := i) (by omega)
          have hval : (t.store q (y : Int)).nw (40 + 1 + i) = (y : Int) := by rw [hq, St.nw_store HN.out.is (by omega) (y : Int), if_pos rfl]
          have HPT := Lib.hid hpt
          have HN2 := Lib.hid hn2
          have HSAME := Lib.hid hsame
          have HVAL := Lib.hid hval
          have HCX := Lib.hid hcx
          clear hpt hn2 hsame hval hcx hx hy hq
          go_upto_region 16 with fail
          refine wp_region_st3 (W := w) (S := []) (by kernel_rfl) (by kernel_rfl) (by kernel_rfl) (fun D uu => [blkR gs 5 #[.int .u8 (q2 : Int)], blkR gr 4 #[.bool false], blkR gh 65 #[.int .u8 (q0 : Int), .int .u8 8], devR d (bif D 10 then t.store q (y : Int) else t), blkR gv 3 (atsOf [⟨40, 8, b⟩] ++ ex).toArray, rowR 25 (.slice RA RL RC) (uw rs), blkR gk 29 #[.int .i64 (k.L : Int), .int .i64 (k.R : Int), .int .i64 (k.S : Int)], blkR gb 39 #[.int .i64 0, .int .i64 9, .slice RA RL RC], blkR go 75 #[.int .i64 8, .int .i64 (b : Int), .int .i64 40], blkR gw 83 #[.slice WA (namesTo t 40 i).length WC], rowN 85 2 (.slice WA (namesTo t 40 i).length WC) (namesTo t 40 i).length (pairsOf (namesTo t 40 i))])
            (fun j v => match j with
              | 0 => v = .agg #[.int .i64 8, .int .i64 (b : Int), .int .i64 40]
              | 1 => v = .int .i64 (i : Int)
              | 2 => v = .slice (some ⟨g, off, none⟩) xs1.length NC
              | 3 => v = .int .i64 (i : Int)
              | 4 => v = .pointer (some ⟨g, off + i, none⟩)
              | 5 => v = .int .u16 (x : Int)
              | 6 => v = .int .u16 (y : Int)
              | 7 => v = .int .i64 (y : Int)
              | 8 => v = .pointer (some ⟨d.b, 0, none⟩)
              | 9 => v = .func (.func 19) #[.pointer (some ⟨d.b, 0, none⟩)] #[]
              | _ => True) ?start ?step ?fin
          case start => exact fun u => HS.out
          case step =>
            clear HS
            refine ⟨?_, ?_, ?_, ?_, ?_, ?_, ?_, ?_, ?_, ?_, ?_, trivial⟩
            · intro D uu w' K hD hF hl hS hK
              simp only [puts, Act.put, List.setIfInBounds_toArray, List.set_cons_succ, List.set_cons_zero, Nat.zero_add, Nat.reduceAdd]
              have x0 := (hS.blk 8 rfl).cell 0
              have x1 := (hS.blk 8 rfl).cell 1
              have x2 := (hS.blk 8 rfl).cell 2
              simp at x0 x1 x2
              go_simp
              simp only [yUpon]
              exact hK _ _ rfl hS
            · intro D uu w' K hD hF hl hS hK
              simp only [puts, Act.put, List.setIfInBounds_toArray, List.set_cons_succ, List.set_cons_zero, Nat.zero_add, Nat.reduceAdd]
              go_simp
              simp only [yUpon]
              exact hK _ _ rfl hS
            · intro D uu w' K hD hF hl hS hK
              simp only [puts, Act.put, List.setIfInBounds_toArray, List.set_cons_succ, List.set_cons_zero, Nat.zero_add, Nat.reduceAdd]
              go_simp
              simp only [yUpon]
              exact hK _ _ rfl hS
            · intro D uu w' K hD hF hl hS hK
              simp only [puts, Act.put, List.setIfInBounds_toArray, List.set_cons_succ, List.set_cons_zero, Nat.zero_add, Nat.reduceAdd]
              go_simp
              simp only [yUpon]
              exact hK _ _ rfl hS
            · intro D uu w' K hD hF hl hS hK
              have f2 := (hF 2 (by kernel_rfl)).2
              simp only at f2
              have f3 := (hF 3 (by kernel_rfl)).2
              simp only at f3
              simp only [puts, Act.put, List.setIfInBounds_toArray, List.set_cons_succ, List.set_cons_zero, Nat.zero_add, Nat.reduceAdd]
              simp only [f2, f3]
              go_simp
              simp only [yUpon]
              exact hK _ _ rfl hS
            · intro D uu w' K hD hF hl hS hK
              have f4 := (hF 4 (by kernel_rfl)).2
              simp only at f4
              simp only [puts, Act.put, List.setIfInBounds_toArray, List.set_cons_succ, List.set_cons_zero, Nat.zero_add, Nat.reduceAdd]
              simp only [f4]
              have x5 := (Ext.mk w' hS.keep : Ext w).cell HCX.out
              simp only at x5
              go_simp
              simp only [yUpon]
              exact hK _ _ rfl hS
            · intro D uu w' K hD hF hl hS hK
              have f5 := (hF 5 (by kernel_rfl)).2
              simp only at f5
              simp only [puts, Act.put, List.setIfInBounds_toArray, List.set_cons_succ, List.set_cons_zero, Nat.zero_add, Nat.reduceAdd]
              simp only [f5]
              go_simp
              simp only [yUpon]
              exact hK _ _ rfl hS
            · intro D uu w' K hD hF hl hS hK
              have f6 := (hF 6 (by kernel_rfl)).2
              simp only at f6
              simp only [puts, Act.put, List.setIfInBounds_toArray, List.set_cons_succ, List.set_cons_zero, Nat.zero_add, Nat.reduceAdd]
              simp only [f6]
              go_simp
              simp only [yUpon]
              exact hK _ _ rfl hS
            · intro D uu w' K hD hF hl hS hK
              simp only [puts, Act.put, List.setIfInBounds_toArray, List.set_cons_succ, List.set_cons_zero, Nat.zero_add, Nat.reduceAdd]
              go_simp
              simp only [yUpon]
              exact hK _ _ rfl hS
            · intro D uu w' K hD hF hl hS hK
              have f8 := (hF 8 (by kernel_rfl)).2
              simp only at f8
              simp only [puts, Act.put, List.setIfInBounds_toArray, List.set_cons_succ, List.set_cons_zero, Nat.zero_add, Nat.reduceAdd]
              simp only [f8]
              go_simp
              simp only [yUpon]
              exact hK _ _ rfl hS
            · intro D uu w' K hD hF hl hS hK
              have f0 := (hF 0 (by kernel_rfl)).2
              simp only at f0
              have f1 := (hF 1 (by kernel_rfl)).2
              simp only at f1
              have f7 := (hF 7 (by kernel_rfl)).2
              simp only at f7
              have f9 := (hF 9 (by kernel_rfl)).2
              simp only at f9
              simp only [puts, Act.put, List.setIfInBounds_toArray, List.set_cons_succ, List.set_cons_zero, Nat.zero_add, Nat.reduceAdd]
              simp only [f0, f1, f7, f9]
              simp only [hD, cond_false] at hS
              have e1 : (fset D 10 true) 10 = true := rfl
              go_simp
              simp only [yUpon]
              refine (HPT.out _ (hS.dev 3 rfl)).mono ?_
              rintro e w1 ⟨rfl, hd, hkk⟩
              refine hK _ _ trivial ?_
              simp only [e1, cond_true]
              exact hS.did (i := 3) rfl hd hkk
          case fin =>
            clear HS HN
            intro D uu wf hall hS
            have f10 := (hall 10 (by simp)).1
            simp only [f10, cond_true] at hS
            have HS := Lib.hid hS
            clear hall hS f10
            simp only [puts, Act.put, List.setIfInBounds_toArray, List.set_cons_succ, List.set_cons_zero, Nat.zero_add, Nat.reduceAdd]
            obtain ⟨t2, ht2⟩ : ∃ t2, t.store q (y : Int) = t2 := ⟨_, rfl⟩
            rw [ht2] at HS HN2 HSAME HVAL
            rw [← HSAME.out] at HS
            have x5 := (Ext.mk wf HS.out.keep : Ext w).cell HCX.out
            simp only at x5
            clear ht2 HSAME HPT t
            by_cases hy0 : y = 0
            · subst hy0
              have hnn := namesTo_zero (t := t2) (at_ := 40) (i := i) (by rw [HVAL.out]; rfl)
              have HNN := Lib.hid hnn
              clear hnn
              go_wp2
              refine ⟨⟨i + 1, t2, WA, WC, by omega, by first | rfl | go_num | simp, HN2.out, by rw [HNN.out]; exact HS.out⟩, by simp [intOf]; omega⟩
            · have hy0I : (0 : Int) < (y : Int) := by omega
              go_upto_region 18 with fail
              replace HS : Hid (Sep w [] ([blkR gs 5 #[.int .u8 (q2 : Int)], blkR gr 4 #[.bool false], blkR gh 65 #[.int .u8 (q0 : Int), .int .u8 8], devR d (t2), blkR gv 3 (atsOf [⟨40, 8, b⟩] ++ ex).toArray, rowR 25 (.slice RA RL RC) (uw rs), blkR gk 29 #[.int .i64 (k.L : Int), .int .i64 (k.R : Int), .int .i64 (k.S : Int)], blkR gb 39 #[.int .i64 0, .int .i64 9, .slice RA RL RC], blkR go 75 #[.int .i64 8, .int .i64 (b : Int), .int .i64 40], blkR gw 83 #[.slice WA (namesTo (t2) 40 (i)).length WC], rowN 85 2 (.slice WA (namesTo (t2) 40 (i)).length WC) (namesTo (t2) 40 (i)).length (pairsOf (namesTo (t2) 40 (i)))] ++ [noR]) wf) := Lib.hid (HS.out.add (Keep.refl _ _ _) (r := noR) trivial (by simp [noR]))
              refine wp_region_st3 (W := w) (S := []) (by kernel_rfl) (by kernel_rfl) (by kernel_rfl) (fun D uu => [blkR gs 5 #[.int .u8 (q2 : Int)], blkR gr 4 #[.bool false], blkR gh 65 #[.int .u8 (q0 : Int), .int .u8 8], devR d (t2), blkR gv 3 (atsOf [⟨40, 8, b⟩] ++ ex).toArray, rowR 25 (.slice RA RL RC) (uw rs), blkR gk 29 #[.int .i64 (k.L : Int), .int .i64 (k.R : Int), .int .i64 (k.S : Int)], blkR gb 39 #[.int .i64 0, .int .i64 9, .slice RA RL RC], blkR go 75 #[.int .i64 8, .int .i64 (b : Int), .int .i64 40], blkR gw 83 #[bif D 11 then uu 10 else .slice WA (namesTo t2 40 i).length WC], (bif D 10 then rowN 85 2 (uu 10) ((namesTo t2 40 i).length + 1) (pairsOf (namesTo t2 40 i) ++ [.int .i64 (i : Int), .int .i64 (y : Int)]) else rowN 85 2 (.slice WA (namesTo t2 40 i).length WC) (namesTo t2 40 i).length (pairsOf (namesTo t2 40 i))), (bif D 9 then sliceR (uu 9) 85 #[.int .i64 (i : Int), .int .i64 (y : Int)] else noR)])
                (fun j v => match j with
                  | 0 => v = .slice WA (namesTo t2 40 i).length WC
                  | 1 => v = .int .i64 (i : Int)
                  | 2 => v = .slice (some ⟨g, off, none⟩) xs1.length NC
                  | 3 => v = .int .i64 (i : Int)
                  | 4 => v = .pointer (some ⟨g, off + i, none⟩)
                  | 5 => v = .int .u16 (x : Int)
                  | 6 => v = .int .u16 (y : Int)
                  | 7 => v = .int .i64 (y : Int)
                  | 8 => v = .agg #[.int .i64 (i : Int), .int .i64 (y : Int)]
                  | 9 => ∃ h, v = .slice (some ⟨h, 0, none⟩) 1 1
                  | 10 => ∃ A c, v = .slice A ((namesTo t2 40 i).length + 1) c
                  | _ => True) ?start ?step ?fin
              case start => exact fun u => HS.out
              case step =>
                clear HS
                refine ⟨?_, ?_, ?_, ?_, ?_, ?_, ?_, ?_, ?_, ?_, ?_, ?_, trivial⟩
                · intro D uu w' K hD hF hl hS hK
                  simp only [puts, Act.put, List.setIfInBounds_toArray, List.set_cons_succ, List.set_cons_zero, Nat.zero_add, Nat.reduceAdd]
                  have h11 := hl 11 (by kernel_rfl)
                  have hS1 := hS
                  simp only [h11, cond_false] at hS1
                  have x0 := (hS1.blk 9 rfl).cell 0
                  simp at x0
                  clear hS1
                  go_simp
                  simp only [yUpon]
                  exact hK _ _ rfl hS
                · intro D uu w' K hD hF hl hS hK
                  simp only [puts, Act.put, List.setIfInBounds_toArray, List.set_cons_succ, List.set_cons_zero, Nat.zero_add, Nat.reduceAdd]
                  go_simp
                  simp only [yUpon]
                  exact hK _ _ rfl hS
                · intro D uu w' K hD hF hl hS hK
                  simp only [puts, Act.put, List.setIfInBounds_toArray, List.set_cons_succ, List.set_cons_zero, Nat.zero_add, Nat.reduceAdd]
                  go_simp
                  simp only [yUpon]
                  exact hK _ _ rfl hS
                · intro D uu w' K hD hF hl hS hK
                  simp only [puts, Act.put, List.setIfInBounds_toArray, List.set_cons_succ, List.set_cons_zero, Nat.zero_add, Nat.reduceAdd]
                  go_simp
                  simp only [yUpon]
                  exact hK _ _ rfl hS
                · intro D uu w' K hD hF hl hS hK
                  have f2 := (hF 2 (by kernel_rfl)).2
                  simp only at f2
                  have f3 := (hF 3 (by kernel_rfl)).2
                  simp only at f3
                  simp only [puts, Act.put, List.setIfInBounds_toArray, List.set_cons_succ, List.set_cons_zero, Nat.zero_add, Nat.reduceAdd]
                  simp only [f2, f3]
                  go_simp
                  simp only [yUpon]
                  exact hK _ _ rfl hS
                · intro D uu w' K hD hF hl hS hK
                  have f4 := (hF 4 (by kernel_rfl)).2
                  simp only at f4
                  simp only [puts, Act.put, List.setIfInBounds_toArray, List.set_cons_succ, List.set_cons_zero, Nat.zero_add, Nat.reduceAdd]
                  simp only [f4]
                  have x5 := (Ext.mk w' hS.keep : Ext w).cell HCX.out
                  simp only at x5
                  go_simp
                  simp only [yUpon]
                  exact hK _ _ rfl hS
                · intro D uu w' K hD hF hl hS hK
                  have f5 := (hF 5 (by kernel_rfl)).2
                  simp only at f5
                  simp only [puts, Act.put, List.setIfInBounds_toArray, List.set_cons_succ, List.set_cons_zero, Nat.zero_add, Nat.reduceAdd]
                  simp only [f5]
                  go_simp
                  simp only [yUpon]
                  exact hK _ _ rfl hS
                · intro D uu w' K hD hF hl hS hK
                  have f6 := (hF 6 (by kernel_rfl)).2
                  simp only at f6
                  simp only [puts, Act.put, List.setIfInBounds_toArray, List.set_cons_succ, List.set_cons_zero, Nat.zero_add, Nat.reduceAdd]
                  simp only [f6]
                  go_simp
                  simp only [yUpon]
                  exact hK _ _ rfl hS
                · intro D uu w' K hD hF hl hS hK
                  have f1 := (hF 1 (by kernel_rfl)).2
                  simp only at f1
                  have f7 := (hF 7 (by kernel_rfl)).2
                  simp only at f7
                  simp only [puts, Act.put, List.setIfInBounds_toArray, List.set_cons_succ, List.set_cons_zero, Nat.zero_add, Nat.reduceAdd]
                  simp only [f1, f7]
                  go_simp
                  simp only [yUpon]
                  exact hK _ _ rfl hS
                · intro D uu w' K hD hF hl hS hK
                  have f8 := (hF 8 (by kernel_rfl)).2
                  simp only at f8
                  simp only [puts, Act.put, List.setIfInBounds_toArray, List.set_cons_succ, List.set_cons_zero, Nat.zero_add, Nat.reduceAdd]
                  simp only [f8]
                  have h10 := hl 10 (by kernel_rfl)
                  simp only [hD, cond_false] at hS
                  have hs2 := hS.step (i := 11) (r := noR) rfl (w' := w'.alloc (.cells #[.int .i64 (i : Int), .int .i64 (y : Int)] 85)) ((Keep.refl _ _ _).alloc (Nat.le_refl _) _) (r' := blkR w'.heap.size 85 #[.int .i64 (i : Int), .int .i64 (y : Int)]) (Blk.new _ _ _) (by simp [blkR])
                  have e1 : (fset D 9 true) 9 = true := rfl
                  go_simp
                  simp only [yUpon]
                  refine hK _ _ ⟨_, rfl⟩ ?_
                  simp only [e1, cond_true]
                  exact hs2
                · intro D uu w' K hD hF hl hS hK
                  have f0 := (hF 0 (by kernel_rfl)).2
                  simp only at f0
                  simp only [puts, Act.put, List.setIfInBounds_toArray, List.set_cons_succ, List.set_cons_zero, Nat.zero_add, Nat.reduceAdd]
                  simp only [f0]
                  obtain ⟨d9, g9, hg9⟩ := hF 9 (by kernel_rfl)
                  have h11 := hl 11 (by kernel_rfl)
                  simp only [hD, d9, hg9, h11, sliceR, cond_false, cond_true] at hS
                  simp only [hg9]
                  have hb9 := hS.blk 11 rfl
                  rw [if_pos (by rfl)]
                  refine y_appendN hS 10 rfl rfl _ _ 83 rfl rfl (z := .agg #[.int .i64 0, .int .i64 0]) (bytes := 16) (by kernel_rfl) rfl (by decide) (by decide) rfl ⟨g9, 0, none⟩ 1 1 [.int .i64 (i : Int), .int .i64 (y : Int)] rfl rfl (by decide) (fun j u hu => by rw [addrN, hb9.cell]; simpa using hu) (fun u hu => by simp at hu; rcases hu with rfl | rfl <;> rfl) (by have := namesTo_len t2 40 i; omega) (fun v' w2 hv' hS2 => ?_)
                  have e1 : (fset D 10 true) 10 = true := rfl
                  have e2 : (fset D 10 true) 9 = true := d9
                  have e3 : (fset D 10 true) 11 = false := h11
                  have e4 : ∀ v, (fset uu 10 v) 9 = .slice (some ⟨g9, 0, none⟩) 1 1 := fun v => hg9
                  refine hK _ _ hv' ?_
                  simp only [e1, e2, e3, e4, sliceR, cond_true, cond_false]
                  exact hS2
                  skip
                · intro D uu w' K hD hF hl hS hK
                  simp only [puts, Act.put, List.setIfInBounds_toArray, List.set_cons_succ, List.set_cons_zero, Nat.zero_add, Nat.reduceAdd]
                  obtain ⟨d10, A, c, hA⟩ := hF 10 (by kernel_rfl)
                  simp only [hD, d10, hA, cond_false, cond_true] at hS
                  simp only [hA]
                  have x0 := (hS.blk 9 rfl).cell 0
                  simp at x0
                  have z0 := (hS.blk 9 rfl).frozen 0
                  have hput := hS.put (i := 9) rfl 0 (.slice A ((namesTo t2 40 i).length + 1) c)
                  have e1 : (fset D 11 true) 11 = true := rfl
                  have e2 : (fset D 11 true) 10 = true := d10
                  have e4 : ∀ v, (fset uu 11 v) 10 = .slice A ((namesTo t2 40 i).length + 1) c := fun v => hA
                  go_simp
                  simp only [yUpon]
                  refine hK _ _ trivial ?_
                  simp only [e1, e2, e4, cond_true]
                  exact hput
              case fin =>
                clear HS
                intro D uu wg hall hS
                have f9 := (hall 9 (by simp)).1
                have f10 := (hall 10 (by simp)).1
                have f11 := (hall 11 (by simp)).1
                obtain ⟨A, c, v10⟩ := (hall 10 (by simp)).2
                simp only [f10, f11, v10, cond_true] at hS
                have HS := Lib.hid (hS.take 11)
                clear hall hS f9 f10 f11
                have hnn : namesTo t2 40 (i + 1) = namesTo t2 40 i ++ [(i, (y : Int))] := by
                  simp only [namesTo]
                  rw [if_neg (by rw [HVAL.out]; omega), HVAL.out]
                have HNN := Lib.hid hnn
                clear hnn
                simp only [puts, Act.put, List.setIfInBounds_toArray, List.set_cons_succ, List.set_cons_zero, Nat.zero_add, Nat.reduceAdd]
                go_wp2
                refine ⟨⟨i + 1, t2, A, c, by omega, by first | rfl | go_num | simp, HN2.out, ?_⟩, by simp [intOf]; omega⟩
                rw [HNN.out, List.length_append, pairsOf_snoc]
                exact HS.out
        · have hilI : ¬ (i : Int) < (xs1.length : Int) := by omega
          have hnn := namesTo_zero (t := t) (at_ := 40) (i := i) (HN.out.zero i (Nat.le_refl _) hlt)
          have HNN := Lib.hid hnn
          have HN2 := Lib.hid HN.out.skip
          clear hnn
          go_wp2
          exact ⟨⟨i + 1, t, WA, WC, by omega, by first | rfl | go_num | simp, HN2.out, by rw [HNN.out]; exact HS.out⟩, by simp [intOf]; omega⟩
      · have hltI : ¬ (i : Int) < (b : Int) := by omega
        obtain rfl : i = b := by omega
        go_wp2
        obtain ⟨nt, hnt⟩ : ∃ nt, namesTo t 40 i = nt := ⟨_, rfl⟩
        have hsq := fun gb gd => (names_seq d t 8 i 40 gb gd hb8 (by decide) (by decide) (fun j hj => by have := HN.out.small j hj; omega)).toS
        have hntl : nt.length ≤ 8 := by have := namesTo_len t 40 i; rw [hnt] at this; omega
        rw [hnt] at HS hsq
        have HSQ := Lib.hid hsq
        clear hsq hnt hltI hlt hi HN
        refine wpFr_seq (wpFr_of_wp ?_)
        go_wp2
        replace HS := Lib.hid (HS.out.new 3 #[.int .i64 ((0 : Nat) : Int)])
        generalize wr.alloc _ = w7 at *
        generalize wr.heap.size = gn at *
        refine wpFr_seq (wpFr_seq (wpFr_of_wp ?_))
        have o0 := (HS.out.blk 8 rfl).cell 0
        simp at o0
        have o1 := (HS.out.blk 8 rfl).cell 1
        simp at o1
        have o2 := (HS.out.blk 8 rfl).cell 2
        simp at o2
        go_wp2_with fail
        refine (names_any 8 (i : Int) 40 _ _ ⟨_, rfl⟩).mono ?_
        rintro e1 w8 ⟨rfl, rfl⟩
        replace HS := Lib.hid ((HS.out.new 75 #[.int .i64 8, .int .i64 (i : Int), .int .i64 40]).new 31 #[.pointer (some ⟨d.b, 0, none⟩)])
        simp only [World.size_alloc] at HS
        generalize (w7.alloc _).alloc _ = w8 at *
        generalize w7.heap.size = g1 at *
        generalize g1 + 1 = g2 at *
        clear o0 o1 o2
        go_wp2
        replace HS : Hid (Sep w [] [blkR gs 5 #[.int .u8 (q2 : Int)], blkR gr 4 #[.bool false], blkR gh 65 #[.int .u8 (q0 : Int), .int .u8 8], devR d (t), blkR gv 3 (atsOf [⟨40, 8, i⟩] ++ ex).toArray, rowR 25 (.slice RA RL RC) (uw rs), blkR gk 29 #[.int .i64 (k.L : Int), .int .i64 (k.R : Int), .int .i64 (k.S : Int)], blkR gb 39 #[.int .i64 0, .int .i64 9, .slice RA RL RC], blkR go 75 #[.int .i64 8, .int .i64 (i : Int), .int .i64 40], blkR gw 83 #[.slice WA nt.length WC], rowN 85 2 (.slice WA nt.length WC) nt.length (pairsOf nt), blkR gn 3 #[.int .i64 (((0) : Nat) : Int)], blkR g1 75 #[.int .i64 8, .int .i64 (i : Int), .int .i64 40], blkR g2 31 #[.pointer (some ⟨d.b, 0, none⟩)]] w8) := HS
        refine wpFr_block ?_
        refine wpFr_rangeX HS.out rfl (enters_of Try.func61 (by kernel_rfl) rfl) (HSQ.out g1 g2) (fun _ => rfl)
          (fun m L => L = [blkR gs 5 #[.int .u8 (q2 : Int)], blkR gr 4 #[.bool false], blkR gh 65 #[.int .u8 (q0 : Int), .int .u8 8], devR d (t), blkR gv 3 (atsOf [⟨40, 8, i⟩] ++ ex).toArray, rowR 25 (.slice RA RL RC) (uw rs), blkR gk 29 #[.int .i64 (k.L : Int), .int .i64 (k.R : Int), .int .i64 (k.S : Int)], blkR gb 39 #[.int .i64 0, .int .i64 9, .slice RA RL RC], blkR go 75 #[.int .i64 8, .int .i64 (i : Int), .int .i64 40], blkR gw 83 #[.slice WA nt.length WC], rowN 85 2 (.slice WA nt.length WC) nt.length (pairsOf nt), blkR gn 3 #[.int .i64 (((m) : Nat) : Int)], blkR g1 75 #[.int .i64 8, .int .i64 (i : Int), .int .i64 40], blkR g2 31 #[.pointer (some ⟨d.b, 0, none⟩)]] ∧ m ≤ nt.length)
          (fun c L => c = .ret ∧ ∃ m, L = [blkR gs 5 #[.int .u8 (q2 : Int)], blkR gr 4 #[.bool true], blkR gh 65 #[.int .u8 (q0 : Int), .int .u8 8], devR d (t), blkR gv 3 (atsOf [⟨40, 8, i⟩] ++ ex).toArray, rowR 25 (.slice RA RL RC) (uw rs), blkR gk 29 #[.int .i64 (k.L : Int), .int .i64 (k.R : Int), .int .i64 (k.S : Int)], blkR gb 39 #[.int .i64 0, .int .i64 9, .slice RA RL RC], blkR go 75 #[.int .i64 8, .int .i64 (i : Int), .int .i64 40], blkR gw 83 #[.slice WA nt.length WC], rowN 85 2 (.slice WA nt.length WC) nt.length (pairsOf nt), blkR gn 3 #[.int .i64 (((m) : Nat) : Int)], blkR g1 75 #[.int .i64 8, .int .i64 (i : Int), .int .i64 40], blkR g2 31 #[.pointer (some ⟨d.b, 0, none⟩)]] ∧ m ≤ nt.length)
          (fun _ _ => False) ⟨rfl, by omega⟩ ?rr (fun fn hfn => .inr (fun ch L h => h)) ?round ?done ?stop (fun _ _ _ _ _ h _ => h.elim)
        case rr =>
          rintro m L X W' hm ⟨rfl, _⟩ hs
          exact ⟨hs.blk 12 rfl, hs.blk 13 rfl, hs.dev 3 rfl⟩
        case round =>
          rintro l9 m L X r1 r2 W' hm ⟨rfl, hmN⟩ hs
          obtain ⟨pr, hpr⟩ : ∃ pr, nt[m]? = some pr := ⟨_, List.getElem?_eq_getElem hm⟩
          have hgd : nt.getD m (0, 0) = pr := by rw [List.getD_eq_getElem?_getD, hpr]; rfl
          rw [hgd]
          obtain ⟨y1, y2⟩ := pairsOf_get nt m pr hpr
          have HY1 := Lib.hid y1
          have HY2 := Lib.hid y2
          clear hgd HS y1 y2 hpr HSQ
          obtain ⟨p1, p2⟩ := pr
          simp only at HY1 HY2
          gi_wp2
          refine ⟨_, hs, ?_⟩
          clear hs
          rintro q2' W2 hs2
          obtain ⟨gc, cc, hWA, hcs⟩ := rowN_cells (hs2.rowN 10 rfl) (by omega)
          injection hWA with e1 e2 e3
          subst e1
          have hc1 := hcs _ _ HY1.out
          have hc2 := hcs _ _ HY2.out
          have HS := Lib.hid hs2
          clear hs2 hcs e3
          have hge : decide ((m : Int) ≥ (nt.length : Int)) = false := by rw [decide_eq_false_iff_not]; omega
          have hge2 : decide (nt.length ≤ m) = false := by rw [decide_eq_false_iff_not]; omega
          obtain ⟨m1, hm1⟩ : ∃ m1, m + 1 = m1 := ⟨_, rfl⟩
          have hmw : IntKind.i64.wrap ((m : Int) + 1) = (m1 : Int) := by rw [IntWalk.i64_in _ (by omega)]; omega
          have z0 := (HS.out.blk 11 rfl).frozen 0
          have hs3 := HS.out.put (i := 11) rfl 0 (.int .i64 (m1 : Int))
          have HM1 := Lib.hid hm1
          have ngs := HS.out.ne 11 0 rfl rfl (by decide)
          have ngs2 := ngs.symm
          have n0 := (HS.out.blk 11 rfl).cell 0
          simp at n0
          have g0 := (HS.out.blk 9 rfl).cell 0
          simp at g0
          have s0 := (HS.out.blk 0 rfl).cell 0
          simp at s0
          have hm2 : 2 * m = m * 2 := by omega
          rw [hm2] at hc1 hc2
          clear hm2
          by_cases hzm : z < m1
          · have hzI : (z : Int) < (m1 : Int) := by omega
            have z2 := (hs3.blk 1 rfl).frozen 0
            have r0 := (hs3.blk 1 rfl).cell 0
            simp at r0
            have ngr := HS.out.ne 11 1 rfl rfl (by decide)
            have ngr2 := ngr.symm
            have r1' := (HS.out.blk 1 rfl).cell 0
            simp at r1'
            have hs4 := hs3.put (i := 1) rfl 0 (.bool true)
            have HS3 := Lib.hid hs4
            clear hs3 hs4 hm1
            gi_wp2
            exact ⟨_, ⟨m1, rfl, by have := HM1.out; omega⟩, HS3.out⟩
          · have hzI : ¬ (z : Int) < (m1 : Int) := by omega
            have HS3 := Lib.hid hs3
            clear hs3 hm1
            gi_wp2
            have hm1 := HM1.out
            subst hm1
            exact ⟨_, ⟨rfl, by omega⟩, HS3.out⟩
        case done =>
          rintro D L r2 W' ⟨rfl, _⟩ hs
          simp only [Exit.inBlock, Exit.then]
          refine wpFr_of_wp ?_
          have HS := Lib.hid hs
          clear hs HSQ
          have r0 := (HS.out.blk 1 rfl).cell 0
          simp at r0
          have n0 := (HS.out.blk 11 rfl).cell 0
          simp at n0
          have g0 := (HS.out.blk 9 rfl).cell 0
          simp at g0
          have z2 := (HS.out.blk 1 rfl).frozen 0
          have hs2 := HS.out.put (i := 1) rfl 0 (.bool true)
          have HS2 := Lib.hid hs2
          clear hs2
          go_wp2
          have hp := HS2.out.putObj (i := 14) rfl (.deferred none)
          have ld := loadVar_one (P := Try.prog) (ty := 4) (a := ⟨gr, 0, none⟩) (v := .bool true) (d := .bool) (by kernel_rfl) rfl (by rw [(hp.blk 1 rfl).cell 0]; rfl)
          exact leave_mark (HS2.out.all 14 _ rfl) (results_c (fn := Try.f12) (p := 6) (ty := 4) (a1 := ⟨gr, 0, none⟩) rfl _ _ _ rfl ld) ⟨rfl, hp.take 0⟩
        case stop =>
          rintro D c L r2 W' ⟨rfl, m, rfl, _⟩ hs
          simp only [Exit.inBlock, Exit.then]
          refine wpFr_of_wp ?_
          have HS2 := Lib.hid hs
          clear hs HSQ
          go_wp2
          have hp := HS2.out.putObj (i := 14) rfl (.deferred none)
          have ld := loadVar_one (P := Try.prog) (ty := 4) (a := ⟨gr, 0, none⟩) (v := .bool true) (d := .bool) (by kernel_rfl) rfl (by rw [(hp.blk 1 rfl).cell 0]; rfl)
          exact leave_mark (HS2.out.all 14 _ rfl) (results_c (fn := Try.f12) (p := 6) (ty := 4) (a1 := ⟨gr, 0, none⟩) rfl _ _ _ rfl ld) ⟨rfl, hp.take 0⟩

theorem ObjectNames.walk {v1 : Value} {w : World} (a0 : Int) (a00 : lowest .u8 ≤ a0) (a01 : a0 ≤ greatest .u8) (xs1 : List Int) (hr1 : Rd w v1 (xs1.map (Value.int .u16))) (hb1 : ∀ x ∈ xs1, lowest .u16 ≤ x ∧ x ≤ greatest .u16) (hn1 : xs1.length ≤ maxLen) (a2 : Int) (a20 : lowest .u8 ≤ a2) (a21 : a2 ≤ greatest .u8) :
    Calls Try.prog 12 #[.int .u8 a0, v1, .int .u8 a2] w fun e w' => e = .returned (.bool true) ∧ Below w.heap.size w w' := by
  have hb1' : ∀ x ∈ xs1, 0 ≤ x ∧ x ≤ 65535 := fun x hx => by have := hb1 x hx; simpa [lowest, greatest] using this
  simp [lowest, greatest] at a00 a01 a20 a21
  exact (ObjectNames.core a0 v1 xs1 a2 w a00 a01 hr1 hb1' hn1 a20 a21).mono fun e w' ⟨he, hk⟩ => ⟨he, hk.below⟩
end Go.Proofs.Ytaophnicdbmojaa
