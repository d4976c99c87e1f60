/-
  ReachAll: the walk.
-/
import Derived.Deep.CutRange
import Derived.Test.YthdiehcmjknhiaaAwk13
import Derived.Test.YthdiehcmjknhiaaRchL
import Derived.Test.YthdiehcmjknhiaaReachA
import Derived.Test.YthdiehcmjknhiaaRev
import Derived.Sort.CutIn
set_option linter.unusedSimpArgs false
set_option linter.unusedVariables false
set_option maxRecDepth 100000
namespace Go.Proofs.Ythdiehcmjknhiaa
open Go.RowKit Go.Shelf

attribute [local go_sem] Oper.semAt_some

theorem rd_of_rowA {w : World} {e : TypeId} {v : Value} {xs : List Value} (h : w.ownsRow 0 e 1 v xs.length xs) : Rd w v xs := by
  rcases h.2 with ⟨hv, h0⟩ | ⟨g, cap, cur, hv, _⟩
  · exact ⟨none, 0, by rw [hv, h0], fun hp => by omega⟩
  · subst hv
    refine ⟨some ⟨g, 0, none⟩, cap, rfl, fun hp => ⟨g, 0, rfl, fun j u hu => ?_⟩⟩
    have := h.cells (g := g) rfl j u hu
    rwa [addrZ, ← Nat.zero_add j] at this
/-- append, in a drawn region. -/
theorem y_appendR {W w : World} {S : List Nat} {L : List Res} {e : TypeId} {v : Value} {xs : List Value} {P : Program} {o : Oper} {a : Act} {K : Value → World → Prop} {Q : Exit → Act → World → Prop} (HS : Sep W S L w) (i : Nat) (hi : L[i]? = some (rowR e v xs)) (s x : Operand) (t : TypeId)
    (ho : o.op = .call { callee := .builtin .append, args := #[s, x], argTypes := #[t, t] }) {z : Value} {bytes : Nat} (ht : P.underlying t = some (.slice e)) (hinfo : (P.info? e).map (fun i => (i.zero, i.size, i.bytes)) = some (some z, 1, bytes)) (hzs : z.cells.size = 1) (hb8 : bytes ≤ 64)
    (hs : a.eval s = v) (ad : Addr) (m c : Nat) (news : List Value) (hx : a.eval x = .slice (some ad) m c) (hl : news.length = m) (hm : 0 < m) (hnews : ∀ j u, news[j]? = some u → w.cell? (ad.add j) = some u) (h1 : ∀ u ∈ news, u.oneCell' = true)
    (h63 : xs.length + m ≤ 1099511627776)
    (h : ∀ v' w', Sep W S (L.set i (rowR e v' (xs ++ news))) w' → K v' w') : yUpon P a K Q ((execOp a.eval o).run P w) := by
  obtain ⟨i0, hi0, hz0, hz1, hz2⟩ := info_parts hinfo
  obtain ⟨v', w', hr, h2, h3, h4⟩ := run_append_row (P := P) w (ty := o.type) ht hi0 hz0 hz1 hz2 hzs (HS.row i hi) ad m c news hl hm hnews h1 h63 hb8
  have hs2 := HS.step hi (r' := rowR e v' (xs ++ news)) h3 h2 h4
  unfold yUpon execOp
  simp only [ho, resolve, invoke, builtin, Sem.run_bind, Sem.run_pure, Result.andThen_ok, List.map_toArray, List.map_cons, List.map_nil, hs, hx, hr]
  exact h v' w' hs2
theorem wpFr_seqG {Fr : FuncId → Prop} {P : Program} {Q : Exit → Act → World → Prop} {a : Act} {w : World} {x y : Code}
    (h : ∀ K : Act → World → Prop, (∀ a w, wpFr Fr P y Q a w → K a w) → x.wp P (Exit.then K Q) a w) : wpFr Fr P (.seq x y) Q a w :=
  wpFr_seq (wpFr_of_wp (h _ fun _ _ h => h))
theorem oneU {x : Int} : ∀ u ∈ [Value.int .u64 x], u.oneCell' = true := by intro u hu; simp at hu; subst hu; rfl
theorem placesI_take {os : List Ob} {i : Nat} {o : Ob} (h : os[i]? = some o) : uw (placesI (os.take (i + 1))) = uw (placesI (os.take i)) ++ [.int .u64 (o.at_ : Int)] := by
  rw [List.take_add_one, h]
  simp [placesI, uw]
theorem sizeF_perm {t : St} {A B : List Int} (h : A.Perm B) : sizeF t A = sizeF t B := by
  induction h with
  | nil => rfl
  | cons x _ ih => simp only [sizeF, List.map_cons, List.sum_cons] at ih ⊢; omega
  | swap x y l => simp only [sizeF, List.map_cons, List.sum_cons]; omega
  | trans _ _ h1 h2 => exact h1.trans h2
set_option maxRecDepth 100000 in
set_option maxHeartbeats 8000000 in
theorem ReachAll.core (l r s : Int) (v1 : Value) (hl1 : List HV) (v2 : Value) (xs2 : List Int) (a3 : Bool) (w : World) (l0 : 0 ≤ l) (l1 : l ≤ 65535) (r0 : 0 ≤ r) (r1 : r ≤ 65535) (s0 : 0 ≤ s) (s1 : s ≤ 65535) (hm1 : RdH w v1 hl1) (ho1 : ∀ x ∈ hl1, x.Ok) (hn1 : hl1.length ≤ maxLen) (hr2 : Rd w v2 (xs2.map (Value.int .u16))) (hb2 : ∀ x ∈ xs2, 0 ≤ x ∧ x ≤ 65535) (hn2 : xs2.length ≤ maxLen) :
    Calls Try.prog 12 #[.agg #[.int .u16 l, .int .u16 r, .int .u16 s], v1, v2, .bool a3] w fun e w' => e = .returned (.bool true) ∧ Keep w.heap.size [] w w' := by
  simp only [maxLen] at hn1 hn2
  have HS := Lib.hid (((Sep.start w []).new 24 #[.int .u16 l, .int .u16 r, .int .u16 s]).new 4 #[.bool false])
  simp only [World.size_alloc] at HS
  obtain ⟨hk, hkL, hkR, hkS⟩ := kOf_ok (l := l) (r := r) (s := s) l0 r0 s0
  have hla := fun w hm hml hr hnl => linked_any l r s (0) v1 v2 hl1 xs2 w l0 l1 r0 r1 s0 s1 hm ho1 hml hr hb2 hnl (by decide) (by decide)
  have hpl := placed_length ((kOf l r s).from_ 0) (kOf l r s).S hl1 0
  generalize kOf l r s = k at *
  obtain ⟨os, hos⟩ : ∃ os, placed (k.from_ 0) k.S hl1 0 = os := ⟨_, rfl⟩
  obtain ⟨u, hu⟩ : ∃ u, usedOf k.S hl1 0 = u := ⟨_, rfl⟩
  simp only [hos, hu] at hla hpl
  have HLA := Lib.hid hla
  have HK := Lib.hid hk
  have HM := Lib.hid hm1
  have HRD := Lib.hid hr2
  have hS8 : 8 ≤ k.S := hk.s0
  have hw2 : k.words ≤ 10000 := (Kfg.words_le hk).2
  have hw1 : k.act + 2 + k.R ≤ k.words := (Kfg.words_le hk).1
  obtain ⟨HA, HC, hv1, hvv⟩ := hm1
  subst hv1
  obtain ⟨NA, NC, hv2, hvv2⟩ := hr2.cells
  subst hv2
  clear hla hk hos hu hvv hvv2 hr2
  refine Calls.mono (R := fun e w' => e = .returned (.bool true) ∧ Sep w [] [] w') ?_ fun e w' h => ⟨h.1, h.2.keep⟩
  refine calls_of_wpFr Try.func12 rfl ?_
  simp only [Try.ntmps12, List.size_toArray, List.length_cons, List.length_nil, Nat.reduceAdd, Nat.reduceSub, Array.replicate_succ,
     Array.replicate_zero, List.push_toArray, List.append_toArray, List.nil_append, List.cons_append]
  refine wpFr_seq (wpFr_of_wp ?_)
  go_wp2
  generalize (w.alloc _).alloc _ = w2 at *
  generalize w.heap.size = gx at *
  generalize gx + 1 = gr at *
  refine wpFr_seq (wpFr_of_wp ?_)
  go_wp2_with fail
  refine (awake13_any _).mono ?_
  rintro e w1 ⟨rfl, hk⟩
  replace HS := Lib.hid (HS.out.grow hk)
  clear hk
  go_wp2
  refine wpFr_seq (wpFr_of_wp ?_)
  by_cases hb1 : 25 < hl1.length
  · have hbI : (25 : Int) < hl1.length := by omega
    have r0 := (HS.out.blk 1 rfl).cell 0
    simp at r0
    have z2 := (HS.out.blk 1 rfl).frozen 0
    have hs2 := HS.out.put (i := 1) rfl 0 (.bool true)
    have HS2 := Lib.hid hs2
    clear hs2
    go_wp2
    have ld := loadVar_one (P := Try.prog) (ty := 4) (a := ⟨gr, 0, none⟩) (v := .bool true) (d := .bool) (by kernel_rfl) rfl (by rw [(HS2.out.blk 1 rfl).cell 0]; rfl)
    exact leave_none (results_c (fn := Try.f12) (p := 8) (ty := 4) (a1 := ⟨gr, 0, none⟩) rfl _ _ _ rfl ld) ⟨rfl, HS2.out.take 0⟩
  have hx2 : ((25 : Int) < hl1.length) = False := by rw [eq_iff_iff, iff_false]; omega
  have hx3 : (25 < hl1.length) = False := by rw [eq_iff_iff, iff_false]; omega
  by_cases hb4 : 60 < xs2.length
  · have hbI : (60 : Int) < xs2.length := by omega
    have r0 := (HS.out.blk 1 rfl).cell 0
    simp at r0
    have z2 := (HS.out.blk 1 rfl).frozen 0
    have hs2 := HS.out.put (i := 1) rfl 0 (.bool true)
    have HS2 := Lib.hid hs2
    clear hs2
    go_wp2
    have ld := loadVar_one (P := Try.prog) (ty := 4) (a := ⟨gr, 0, none⟩) (v := .bool true) (d := .bool) (by kernel_rfl) rfl (by rw [(HS2.out.blk 1 rfl).cell 0]; rfl)
    exact leave_none (results_c (fn := Try.f12) (p := 8) (ty := 4) (a1 := ⟨gr, 0, none⟩) rfl _ _ _ rfl ld) ⟨rfl, HS2.out.take 0⟩
  have hx4 : ((60 : Int) < xs2.length) = False := by rw [eq_iff_iff, iff_false]; omega
  have hx5 : (60 < xs2.length) = False := by rw [eq_iff_iff, iff_false]; omega
  go_wp2
  clear hx2 hx3 hx4 hx5
  refine wpFr_seq (wpFr_of_wp ?_)
  have c0 := (HS.out.blk 0 rfl).cell 0
  simp at c0
  have c1 := (HS.out.blk 0 rfl).cell 1
  simp at c1
  have c2 := (HS.out.blk 0 rfl).cell 2
  simp at c2
  go_wp2_with fail
  refine (HLA.out _ (HM.out.keep HS.out.keep) (by omega) (HRD.out.keep HS.out.keep) (by omega)).mono ?_
  rintro e w3 ⟨d, t, rv, ov, rfl, hf, hS⟩
  obtain ⟨OA, OC, hov⟩ := rowR_val (hS.row 1 rfl)
  obtain ⟨RA, RC, hrv⟩ := rowR_val (hS.row 2 rfl)
  rw [atsOf_length] at hov
  obtain ⟨rs, hrs⟩ : ∃ rs, rootsOf t k k.R = rs := ⟨_, rfl⟩
  rw [hrs] at hrv hS
  obtain ⟨RL, hRL⟩ : ∃ RL, (uw rs).length = RL := ⟨_, rfl⟩
  rw [hRL] at hrv
  subst hov hrv
  have hadds := HS.out.adds hS
  replace HS := Lib.hid hadds
  have HL := Lib.hid hf
  simp only [Kfg.cells, rbC]
  clear hS hadds hf hrs hRL c0 c1 c2 HLA HM HRD
  go_wp2
  replace HS := Lib.hid ((HS.out.new 30 #[.int .i64 (k.L : Int), .int .i64 (k.R : Int), .int .i64 (k.S : Int)]).new 33 #[.int .i64 0, .int .i64 (u : Int), .slice RA RL RC])
  simp only [World.size_alloc] at HS
  generalize (w3.alloc _).alloc _ = w4 at *
  generalize w3.heap.size = gk at *
  generalize gk + 1 = gb at *
  refine wpFr_seq (wpFr_of_wp ?_)
  go_wp2
  have hosl : os.length ≤ 25 := by omega
  have hat : ∀ o ∈ os, o.at_ ≤ 20000 := fun o ho => by have := HL.out.fill.in_ HK.out (by decide) ho; omega
  have HAT := Lib.hid hat
  clear hat
  refine wpFr_seq (wpFr_of_wp ?_)
  go_wp2
  replace HS := Lib.hid ((HS.out.new 31 #[.slice none 0 0]).nilRow 26)
  generalize w4.alloc _ = w5 at *
  generalize w4.heap.size = gw at *
  replace HS : Hid (Sep w [] [blkR gx 24 #[.int .u16 l, .int .u16 r, .int .u16 s], blkR gr 4 #[.bool false], devR d t, rowR 3 (.slice OA os.length OC) (atsOf os), rowR 26 (.slice RA RL RC) (uw rs), blkR gk 30 #[.int .i64 (k.L : Int), .int .i64 (k.R : Int), .int .i64 (k.S : Int)], blkR gb 33 #[.int .i64 0, .int .i64 (u : Int), .slice RA RL RC], blkR gw 31 #[.slice none (0) 0], rowR 26 (.slice none (0) 0) (uw (placesI (os.take 0)))] w5) := HS
  refine wpFr_seqG fun K hK => ?_
  refine (show Code.wp _ _ (Exit.then K _) _ _ from ?_)
  go_wp2_with fail
  go_loopw [15, 42] (fun _ v42 wr => ∃ (i : Nat) (VA : Option Addr) (VC : Nat), i ≤ os.length ∧ v42 = .int .i64 (i : Int) ∧ (i = 0 → VA = none ∧ VC = 0) ∧ Sep w [] [blkR gx 24 #[.int .u16 l, .int .u16 r, .int .u16 s], blkR gr 4 #[.bool false], devR d t, rowR 3 (.slice OA os.length OC) (atsOf os), rowR 26 (.slice RA RL RC) (uw rs), blkR gk 30 #[.int .i64 (k.L : Int), .int .i64 (k.R : Int), .int .i64 (k.S : Int)], blkR gb 33 #[.int .i64 0, .int .i64 (u : Int), .slice RA RL RC], blkR gw 31 #[.slice VA (i) VC], rowR 26 (.slice VA (i) VC) (uw (placesI (os.take i)))] wr) (fun _ v42 _ => os.length - (intOf v42).toNat)
  case atStart => exact ⟨0, none, 0, by omega, rfl, fun _ => ⟨rfl, rfl⟩, HS.out⟩
  case round =>
    clear HS
    obtain ⟨i, VA, VC, hi, rfl, hv0, hs⟩ := hrel
    have HS := Lib.hid hs
    have HV0 := Lib.hid hv0
    clear hs hv0
    by_cases hlt : i < os.length
    · have hltI : (i : Int) < (os.length : Int) := by omega
      obtain ⟨ob, hob⟩ : ∃ ob, os[i]? = some ob := ⟨_, List.getElem?_eq_getElem hlt⟩
      obtain ⟨A', C', hA, hpc⟩ := RdP.of_row (HS.out.row 3 rfl)
      injection hA with e1 e2 e3
      subst e1
      obtain ⟨g, off, hOA, k0⟩ := hpc i ob hob
      subst hOA
      have hpt := placesI_take hob
      have hab := HAT.out ob (List.mem_of_getElem? hob)
      obtain ⟨q, hq⟩ : ∃ q, ob.at_ = q := ⟨_, rfl⟩
      rw [hq] at k0 hpt hab
      have hwq : IntKind.u64.wrap (q : Int) = (q : Int) := by rw [IntKind.wrap_u64]; omega
      have HPT := Lib.hid hpt
      clear hpc e2 e3 hob hpt hq
      have v0 := (HS.out.blk 7 rfl).cell 0
      simp at v0
      go_wp2_with (at_builtin; refine of_stop ?_)
      unfold Stop
      clear v0 k0
      replace HS := Lib.hid (HS.out.new 26 #[.int .u64 (q : Int)])
      generalize wr.alloc _ = wa at *
      generalize wr.heap.size = gn at *
      have hc := (HS.out.blk 9 rfl).cell
      refine wpList_append HS.out 8 rfl rfl _ _ 31 rfl rfl rfl rfl (by decide) rfl ⟨gn, 0, none⟩ 1 1 [.int .u64 (q : Int)] rfl rfl (by decide) (fun j v hv => by rw [addrZ, hc]; simpa using hv) oneU (by simp [uw, placesI]; omega) ?_
      intro v' wb hS
      obtain ⟨VA2, VC2, hv'⟩ := rowR_val (hS.row 8 rfl)
      rw [show (uw (placesI (os.take i)) ++ [Value.int .u64 (q : Int)]).length = i + 1 by simp [uw, placesI]; omega] at hv'
      subst hv'
      rw [← HPT.out] at hS
      replace HS := Lib.hid hS
      clear hS hc
      have v0 := (HS.out.blk 7 rfl).cell 0
      simp at v0
      have z0 := (HS.out.blk 7 rfl).frozen 0
      have hs2 := HS.out.put (i := 7) rfl 0 (.slice VA2 (i + 1) VC2)
      have HS2 := Lib.hid hs2
      clear hs2
      go_wp2
      refine ⟨?_, by simp [intOf]; omega⟩
      (repeat apply Exists.intro)
      exact ⟨⟨i + 1, VA2, VC2, by omega, rfl, fun h => by omega, HS2.out.take 9⟩, rfl⟩
    · have hltI : ¬ (i : Int) < (os.length : Int) := by omega
      obtain rfl : i = os.length := by omega
      rw [List.take_length] at HS
      clear hlt hltI hi
      go_wp2
      refine wpFr_seqG fun K2 hK2 => ?_
      go_upto_if 52 with fail
      refine (show Code.wp _ _ (Exit.then K2 _) _ _ from ?_)
      go_cut [] from 52 to 54 (fun wx => True ∧ ∃ ws : List Int, ws.Perm (placesI os) ∧ Sep w [] [blkR gx 24 #[.int .u16 l, .int .u16 r, .int .u16 s], blkR gr 4 #[.bool false], devR d t, rowR 3 (.slice OA os.length OC) (atsOf os), rowR 26 (.slice RA RL RC) (uw rs), blkR gk 30 #[.int .i64 (k.L : Int), .int .i64 (k.R : Int), .int .i64 (k.S : Int)], blkR gb 33 #[.int .i64 0, .int .i64 (u : Int), .slice RA RL RC], blkR gw 31 #[.slice VA (os.length) VC], rowR 26 (.slice VA (os.length) VC) (uw (ws))] wx)
      case first =>
        cases a3
        · go_wp2
          go_meet
          exact ⟨trivial, placesI os, List.Perm.refl _, HS.out⟩
        · have v0 := (HS.out.blk 7 rfl).cell 0
          simp at v0
          go_wp2_with fail
          refine (reverse_row HS.out (i := 8) rfl (by simp [placesI]; omega)).mono ?_
          rintro e wx ⟨⟨r, rfl⟩, hs'⟩
          replace HS := Lib.hid hs'
          clear hs' v0
          go_wp2
          go_meet
          exact ⟨trivial, (placesI os).reverse, List.reverse_perm _, HS.out⟩
      obtain ⟨_, ws, hperm, hs⟩ := hcut
      refine hK2 _ _ ?_
      clear hK2 HS
      have HS := Lib.hid hs
      have hwl : ws.length = os.length := by rw [hperm.length_eq]; simp [placesI]
      clear hs
      have ho1w : ∀ z ∈ uw ws, z.oneCell' = true := by intro z hz; obtain ⟨x, _, rfl⟩ := List.mem_map.1 hz; rfl
      have HO1 := Lib.hid ho1w
      have HWL := Lib.hid hwl
      have HPM := Lib.hid hperm
      clear ho1w hwl hperm
      refine wpFr_seqG fun K3 hK3 => ?_
      refine (show Code.wp _ _ (Exit.then K3 _) _ _ from ?_)
      go_cut [16] from 55 to 58 (fun v16 wx => True ∧ ∃ TA TC, v16 = .slice TA (2 * os.length) TC ∧ Sep w [] ([blkR gx 24 #[.int .u16 l, .int .u16 r, .int .u16 s], blkR gr 4 #[.bool false], devR d t, rowR 3 (.slice OA os.length OC) (atsOf os), rowR 26 (.slice RA RL RC) (uw rs), blkR gk 30 #[.int .i64 (k.L : Int), .int .i64 (k.R : Int), .int .i64 (k.S : Int)], blkR gb 33 #[.int .i64 0, .int .i64 (u : Int), .slice RA RL RC], blkR gw 31 #[.slice VA (os.length) VC], rowR 26 (.slice VA (os.length) VC) (uw (ws))] ++ [rowR 26 (.slice TA (2 * os.length) TC) (uw ws ++ uw ws)]) wx)
      case first =>
        by_cases h0 : os.length = 0
        · obtain ⟨rfl, rfl⟩ := HV0.out h0
          have hws : ws = [] := List.eq_nil_of_length_eq_zero (by rw [HWL.out, h0])
          have H0 := Lib.hid h0
          have HWS := Lib.hid hws
          rw [h0] at HS
          clear h0 hws HV0 HWL
          refine wp_region_st3 (W := w) (S := []) (by kernel_rfl) (by kernel_rfl) (by kernel_rfl) (fun D uu => [blkR gx 24 #[.int .u16 l, .int .u16 r, .int .u16 s], blkR gr 4 #[.bool false], devR d t, rowR 3 (.slice OA 0 OC) (atsOf os), rowR 26 (.slice RA RL RC) (uw rs), blkR gk 30 #[.int .i64 (k.L : Int), .int .i64 (k.R : Int), .int .i64 (k.S : Int)], blkR gb 33 #[.int .i64 0, .int .i64 (u : Int), .slice RA RL RC], blkR gw 31 #[.slice none (0) 0], rowR 26 (.slice none (0) 0) (uw (ws))])
            (fun j v => match j with
              | 0 => v = .slice none 0 0
              | 1 => v = .slice none 0 0
              | 2 => v = .slice none 0 0
              | 3 => v = .slice none 0 0
              | 4 => v = .slice none 0 0
              | _ => True) ?start ?step ?fin
          case start => exact fun u => HS.out
          case step =>
            clear HS
            refine ⟨?_, ?_, ?_, ?_, ?_, trivial⟩
            · intro D uu w' K hD hF hl hS hK
              simp only [puts, Act.put, List.setIfInBounds_toArray, List.set_cons_succ, List.set_cons_zero, Nat.zero_add, Nat.reduceAdd]
              have x0 := (hS.blk 7 rfl).cell 0
              simp at x0
              go_simp
              simp only [yUpon]
              exact hK _ _ rfl hS
            · intro D uu w' K hD hF hl hS hK
              have f0 := (hF 0 (by kernel_rfl)).2
              simp only at f0
              simp only [puts, Act.put, List.setIfInBounds_toArray, List.set_cons_succ, List.set_cons_zero, Nat.zero_add, Nat.reduceAdd]
              simp only [f0]
              go_simp
              simp only [yUpon]
              refine (clone_nil _).mono ?_
              rintro e w1 ⟨rfl, rfl⟩
              exact hK _ _ rfl hS
            · intro D uu w' K hD hF hl hS hK
              simp only [puts, Act.put, List.setIfInBounds_toArray, List.set_cons_succ, List.set_cons_zero, Nat.zero_add, Nat.reduceAdd]
              have x0 := (hS.blk 7 rfl).cell 0
              simp at x0
              go_simp
              simp only [yUpon]
              exact hK _ _ rfl hS
            · intro D uu w' K hD hF hl hS hK
              have f1 := (hF 1 (by kernel_rfl)).2
              simp only at f1
              have f2 := (hF 2 (by kernel_rfl)).2
              simp only at f2
              simp only [puts, Act.put, List.setIfInBounds_toArray, List.set_cons_succ, List.set_cons_zero, Nat.zero_add, Nat.reduceAdd]
              simp only [f1, f2]
              go_simp
              simp only [yUpon]
              exact hK _ _ rfl hS
            · intro D uu w' K hD hF hl hS hK
              have f3 := (hF 3 (by kernel_rfl)).2
              simp only at f3
              simp only [puts, Act.put, List.setIfInBounds_toArray, List.set_cons_succ, List.set_cons_zero, Nat.zero_add, Nat.reduceAdd]
              simp only [f3]
              go_simp
              simp only [yUpon]
              exact hK _ _ rfl hS
          case fin =>
            clear HS
            intro D uu wf hall hS
            have v4 := (hall 4 (by simp)).2
            simp only at v4
            clear hall
            simp only [puts, Act.put, List.setIfInBounds_toArray, List.set_cons_succ, List.set_cons_zero, Nat.zero_add, Nat.reduceAdd]
            simp only [v4]
            have HS := Lib.hid hS
            clear hS v4
            go_wp2
            go_meet
            have hs9 := HS.out.nilRow 26
            rw [HWS.out] at hs9
            refine ⟨trivial, none, 0, by rw [H0.out], ?_⟩
            rw [H0.out, HWS.out]
            exact hs9
        · have hpos : 0 < os.length := by omega
          clear h0
          refine wp_region_st3 (W := w) (S := []) (by kernel_rfl) (by kernel_rfl) (by kernel_rfl) (fun D uu => ([blkR gx 24 #[.int .u16 l, .int .u16 r, .int .u16 s], blkR gr 4 #[.bool false], devR d t, rowR 3 (.slice OA os.length OC) (atsOf os), rowR 26 (.slice RA RL RC) (uw rs), blkR gk 30 #[.int .i64 (k.L : Int), .int .i64 (k.R : Int), .int .i64 (k.S : Int)], blkR gb 33 #[.int .i64 0, .int .i64 (u : Int), .slice RA RL RC], blkR gw 31 #[.slice VA (os.length) VC], rowR 26 (.slice VA (os.length) VC) (uw (ws)), bif D 4 then rowR 26 (uu 4) (uw ws ++ uw ws) else bif D 3 then rowR 26 (uu 3) (uw ws ++ uw ws) else bif D 1 then rowR 26 (uu 1) (uw ws) else noR]))
            (fun j v => match j with
              | 0 => v = .slice VA os.length VC
              | 2 => v = .slice VA os.length VC
              | _ => True) ?start ?step ?fin
          case start => exact fun _ => HS.out.add (Keep.refl _ _ _) (r := noR) trivial (by simp [noR])
          case step =>
            clear HS
            refine ⟨?_, ?_, ?_, ?_, ?_, trivial⟩
            · intro D uu w' K hD hF hl hS hK
              simp only [puts, Act.put, List.setIfInBounds_toArray, List.set_cons_succ, List.set_cons_zero, Nat.zero_add, Nat.reduceAdd]
              have x0 := (hS.blk 7 rfl).cell 0
              simp at x0
              go_simp
              simp only [yUpon]
              exact hK _ _ rfl hS
            · intro D uu w' K hD hF hl hS hK
              have f0 := (hF 0 (by kernel_rfl)).2
              simp only at f0
              simp only [puts, Act.put, List.setIfInBounds_toArray, List.set_cons_succ, List.set_cons_zero, Nat.zero_add, Nat.reduceAdd]
              simp only [f0]
              have h3 := hl 3 (by kernel_rfl)
              have h4 := hl 4 (by kernel_rfl)
              simp only [hD, h3, h4, cond_false] at hS
              have e1 : (fset D 1 true) 1 = true := rfl
              have e3 : (fset D 1 true) 3 = false := h3
              have e4 : (fset D 1 true) 4 = false := h4
              go_simp
              simp only [yUpon]
              refine (clone_row (hS.take 9) (i := 8) rfl (by rw [HWL.out]; omega) (by rw [HWL.out]; omega)).mono ?_
              rintro e w1 ⟨v', rfl, hS2⟩
              refine hK _ _ trivial ?_
              simp only [e1, e3, e4, cond_true, cond_false]
              exact hS2
            · intro D uu w' K hD hF hl hS hK
              simp only [puts, Act.put, List.setIfInBounds_toArray, List.set_cons_succ, List.set_cons_zero, Nat.zero_add, Nat.reduceAdd]
              have x0 := (hS.blk 7 rfl).cell 0
              simp at x0
              go_simp
              simp only [yUpon]
              exact hK _ _ rfl hS
            · intro D uu w' K hD hF hl hS hK
              have f2 := (hF 2 (by kernel_rfl)).2
              simp only at f2
              simp only [puts, Act.put, List.setIfInBounds_toArray, List.set_cons_succ, List.set_cons_zero, Nat.zero_add, Nat.reduceAdd]
              simp only [f2]
              obtain ⟨d1, _⟩ := hF 1 (by kernel_rfl)
              have h4 := hl 4 (by kernel_rfl)
              simp only [hD, d1, h4, cond_false, cond_true] at hS
              have e3 : (fset D 3 true) 3 = true := rfl
              have e4 : (fset D 3 true) 4 = false := h4
              obtain ⟨A, C, hA, hc⟩ := rd_of_rowA (hS.row 8 rfl)
              injection hA with q1 q2 q3
              obtain ⟨g, off, hg, hcell⟩ := hc (by simp [uw, HWL.out]; omega)
              rw [hg] at q1
              subst q1
              refine y_appendR hS 9 rfl _ _ 31 rfl rfl (z := .int .u64 0) (bytes := 8) (by kernel_rfl) rfl (by decide) rfl ⟨g, off, none⟩ os.length VC (uw ws) rfl (by simp [uw, HWL.out]) hpos (fun j z hz => by rw [show (⟨g, off, none⟩ : Addr).add j = ⟨g, off + j, none⟩ by unfold Addr.add; split <;> simp_all]; exact hcell j z hz) HO1.out (by simp [uw, HWL.out]; omega) (fun v' w2 hS2 => ?_)
              refine hK _ _ trivial ?_
              simp only [e3, e4, cond_true, cond_false]
              exact hS2
              skip
            · intro D uu w' K hD hF hl hS hK
              simp only [puts, Act.put, List.setIfInBounds_toArray, List.set_cons_succ, List.set_cons_zero, Nat.zero_add, Nat.reduceAdd]
              obtain ⟨d3, _⟩ := hF 3 (by kernel_rfl)
              simp only [hD, d3, cond_false, cond_true] at hS
              have e4 : (fset D 4 true) 4 = true := rfl
              go_simp
              simp only [yUpon]
              refine hK _ _ trivial ?_
              simp only [e4, cond_true]
              exact hS
          case fin =>
            clear HS
            intro D uu wf hall hS
            have f4 := (hall 4 (by simp)).1
            simp only [f4, cond_true] at hS
            obtain ⟨TA, TC, hvv⟩ := rowR_val (hS.row 9 rfl)
            rw [show (uw ws ++ uw ws).length = 2 * os.length by simp [uw, HWL.out]; omega] at hvv
            clear hall f4
            simp only [puts, Act.put, List.setIfInBounds_toArray, List.set_cons_succ, List.set_cons_zero, Nat.zero_add, Nat.reduceAdd]
            simp only [hvv]
            rw [hvv] at hS
            have HS := Lib.hid hS
            clear hS hvv
            go_wp2
            go_meet
            exact ⟨trivial, TA, TC, rfl, HS.out⟩
      obtain ⟨_, TA, TC, rfl, hs⟩ := hcut
      refine hK3 _ _ ?_
      clear hK3 HS
      have HS := Lib.hid hs
      clear hs
      rw [show uw ws ++ uw ws = uw (ws ++ ws) by simp [uw]] at HS
      have hus : u ≤ k.S := HL.out.fill.le
      have hus97 : u ≤ 97 := by omega
      have hpb : ∀ x ∈ ws, 0 ≤ x ∧ x ≤ 20000 := fun x hx => by
        obtain ⟨o, ho, rfl⟩ := List.mem_map.1 (HPM.out.mem_iff.1 hx)
        have := HAT.out o ho
        omega
      have hpb1 : ∀ x ∈ ws, 0 ≤ x ∧ x ≤ 18446744073709551615 := fun x hx => by have := hpb x hx; omega
      have hpb2 : ∀ x ∈ ws ++ ws, 0 ≤ x ∧ x ≤ 18446744073709551615 := fun x hx => hpb1 x (by simpa using hx)
      have hwl := HWL.out
      have hr1 := HL.out.reachAll HPM.out (vs := ws) (fun x hx => hx) u
      have hr2 := HL.out.reachAll HPM.out (vs := []) (fun x hx => by simp at hx) u
      rw [List.append_nil] at hr2
      have hsu : sizeF t ws = u := (sizeF_perm HPM.out).trans HL.out.sizeAll
      have hsi := fun w wv hd hr => size_any d t k 0 u RA RL RC wv ws w hd HK.out (by decide) hus HL.out.rng hpb1 (by omega) hr (HL.out.small HK.out)
      have hfs := fun gb gk gd gw wv => from_seq d t k 0 u gb gk gd gw RA RL RC wv (ws ++ ws) HK.out (by decide) hus HL.out.rng hpb2 (by rw [List.length_append]; omega) (HL.out.small HK.out)
      simp only [hr2, hsu] at hsi
      simp only [hr1] at hfs
      simp only [Kfg.cells, rbC] at hsi
      have HSI := Lib.hid hsi
      have HFS := Lib.hid hfs
      have HPB := Lib.hid hpb
      clear hpb hpb1 hpb2 hr1 hr2 hsu hsi hfs hwl HL HK HV0 HPM HAT
      refine wpFr_seq (wpFr_of_wp ?_)
      go_wp2
      replace HS := Lib.hid (HS.out.new 3 #[.int .i64 ((0 : Nat) : Int)])
      generalize wc.alloc _ = w8 at *
      generalize wc.heap.size = gn at *
      refine wpFr_seq (wpFr_seq (wpFr_of_wp ?_))
      have c0 := (HS.out.blk 5 rfl).cell 0
      simp at c0
      have c1 := (HS.out.blk 5 rfl).cell 1
      simp at c1
      have c2 := (HS.out.blk 5 rfl).cell 2
      simp at c2
      have b0 := (HS.out.blk 6 rfl).cell 0
      simp at b0
      have b1 := (HS.out.blk 6 rfl).cell 1
      simp at b1
      have b2 := (HS.out.blk 6 rfl).cell 2
      simp at b2
      go_wp2_with fail
      refine (rfrom_any _ _ _ _ _ _ _ _ _ ⟨_, rfl⟩ ⟨_, _, _, rfl, rfl, rfl⟩ ⟨_, _, _, _, _, rfl, rfl, rfl⟩ ⟨_, _, _, rfl⟩).mono ?_
      rintro e1 w9 ⟨rfl, rfl⟩
      replace HS := Lib.hid ((((HS.out.new 28 #[.pointer (some ⟨d.b, 0, none⟩)]).new 30 #[.int .i64 (k.L : Int), .int .i64 (k.R : Int), .int .i64 (k.S : Int)]).new 33 #[.int .i64 0, .int .i64 (u : Int), .slice RA RL RC]).new 31 #[.slice TA (2 * os.length) TC])
      simp only [World.size_alloc] at HS
      generalize (((w8.alloc _).alloc _).alloc _).alloc _ = w9 at *
      generalize w8.heap.size = g1 at *
      generalize g1 + 1 = g2 at *
      generalize g2 + 1 = g3 at *
      generalize g3 + 1 = g4 at *
      clear c0 c1 c2 b0 b1 b2
      go_wp2
      replace HS : Hid (Sep w [] [blkR gx 24 #[.int .u16 l, .int .u16 r, .int .u16 s], blkR gr 4 #[.bool false], devR d t, rowR 3 (.slice OA os.length OC) (atsOf os), rowR 26 (.slice RA RL RC) (uw rs), blkR gk 30 #[.int .i64 (k.L : Int), .int .i64 (k.R : Int), .int .i64 (k.S : Int)], blkR gb 33 #[.int .i64 0, .int .i64 (u : Int), .slice RA RL RC], blkR gw 31 #[.slice VA (os.length) VC], rowR 26 (.slice VA (os.length) VC) (uw (ws)), rowR 26 (.slice TA (2 * os.length) TC) (uw (ws ++ ws)), blkR gn 3 #[.int .i64 (((0) : Nat) : Int)], blkR g1 28 #[.pointer (some ⟨d.b, 0, none⟩)], blkR g2 30 #[.int .i64 (k.L : Int), .int .i64 (k.R : Int), .int .i64 (k.S : Int)], blkR g3 33 #[.int .i64 0, .int .i64 (u : Int), .slice RA RL RC], blkR g4 31 #[.slice TA (2 * os.length) TC]] w9) := HS
      refine wpFr_block ?_
      refine wpFr_rangeX HS.out rfl (enters_of Try.func67 (by kernel_rfl) rfl) (HFS.out g3 g2 g1 g4 (.slice TA (2 * os.length) TC)) (fun _ => rfl)
        (fun m L => L = [blkR gx 24 #[.int .u16 l, .int .u16 r, .int .u16 s], blkR gr 4 #[.bool false], devR d t, rowR 3 (.slice OA os.length OC) (atsOf os), rowR 26 (.slice RA RL RC) (uw rs), blkR gk 30 #[.int .i64 (k.L : Int), .int .i64 (k.R : Int), .int .i64 (k.S : Int)], blkR gb 33 #[.int .i64 0, .int .i64 (u : Int), .slice RA RL RC], blkR gw 31 #[.slice VA (os.length) VC], rowR 26 (.slice VA (os.length) VC) (uw (ws)), rowR 26 (.slice TA (2 * os.length) TC) (uw (ws ++ ws)), blkR gn 3 #[.int .i64 (((m) : Nat) : Int)], blkR g1 28 #[.pointer (some ⟨d.b, 0, none⟩)], blkR g2 30 #[.int .i64 (k.L : Int), .int .i64 (k.R : Int), .int .i64 (k.S : Int)], blkR g3 33 #[.int .i64 0, .int .i64 (u : Int), .slice RA RL RC], blkR g4 31 #[.slice TA (2 * os.length) TC]] ∧ m ≤ ws.length) (fun _ _ => False) (fun _ _ => False) ⟨rfl, by omega⟩ ?rr (fun fn hfn => .inr (fun ch L h => h)) ?round ?done (fun _ _ _ _ _ h _ => h.elim) (fun _ _ _ _ _ h _ => h.elim)
      case rr =>
        rintro m L X W' hm ⟨rfl, _⟩ hs
        exact ⟨hs.blk 13 rfl, hs.blk 12 rfl, hs.blk 11 rfl, hs.blk 14 rfl, rd_of_rowA (hs.row 9 rfl), hs.dev 2 rfl⟩
      case round =>
        rintro l9 m L X r1 r2 W' hm ⟨rfl, hmN⟩ hs
        obtain ⟨x, hx⟩ : ∃ x, ws[m]? = some x := ⟨_, List.getElem?_eq_getElem hm⟩
        have hgd : ws.getD m 0 = x := by rw [List.getD_eq_getElem?_getD, hx]; rfl
        rw [hgd]
        have hxb := HPB.out x (List.mem_of_getElem? hx)
        obtain ⟨q, hq⟩ : ∃ q, (headOf (t.nw x.toNat)).1 = q := ⟨_, rfl⟩
        obtain ⟨b, hb⟩ : ∃ b, (headOf (t.nw x.toNat)).2.1 = b := ⟨_, rfl⟩
        have hob : obOf t x = [.int .i64 q, .int .i64 b, .int .i64 x] := by unfold obOf; rw [hq, hb]
        rw [hob]
        have hwx : IntKind.u64.wrap x = x := by rw [IntKind.wrap_u64]; omega
        have hwl := HWL.out
        have hmO : m < os.length := by omega
        have hmI : (m : Int) < (os.length : Int) := by omega
        have HX := Lib.hid hx
        have HXB := Lib.hid hxb
        clear hgd HS hx hq hb hob hxb hwl HFS HSI
        gi_wp2
        refine ⟨[blkR gx 24 #[.int .u16 l, .int .u16 r, .int .u16 s], blkR gr 4 #[.bool false], devR d t, rowR 3 (.slice OA os.length OC) (atsOf os), rowR 26 (.slice RA RL RC) (uw rs), blkR gk 30 #[.int .i64 (k.L : Int), .int .i64 (k.R : Int), .int .i64 (k.S : Int)], blkR gb 33 #[.int .i64 0, .int .i64 (u : Int), .slice RA RL RC], blkR gw 31 #[.slice VA (os.length) VC], rowR 26 (.slice VA (os.length) VC) (uw (ws)), rowR 26 (.slice TA (2 * os.length) TC) (uw (ws ++ ws)), blkR gn 3 #[.int .i64 (((m) : Nat) : Int)], blkR g1 28 #[.pointer (some ⟨d.b, 0, none⟩)], blkR g2 30 #[.int .i64 (k.L : Int), .int .i64 (k.R : Int), .int .i64 (k.S : Int)], blkR g3 33 #[.int .i64 0, .int .i64 (u : Int), .slice RA RL RC], blkR g4 31 #[.slice TA (2 * os.length) TC]] ++ [blkR W'.heap.size 44 #[.int .i64 q, .int .i64 b, .int .i64 x]], Sep.bring _ _ (hs.new 44 #[.int .i64 q, .int .i64 b, .int .i64 x]), ?_⟩
        clear hs
        generalize W'.heap.size = go at *
        rintro q2 W2 hs
        have HS := Lib.hid hs
        clear hs
        obtain ⟨A, C, hA, hc⟩ := rd_of_rowA (HS.out.row 8 rfl)
        injection hA with y1 y2 y3
        obtain ⟨g, off, hg, hcell⟩ := hc (by simp [uw, HWL.out]; omega)
        rw [hg] at y1
        subst y1
        clear hg y2 y3 hc hcell
        have hge : decide ((m : Int) ≥ (os.length : Int)) = false := by rw [decide_eq_false_iff_not]; omega
        have hge2 : decide (os.length ≤ m) = false := by rw [decide_eq_false_iff_not]; omega
        gi_upto_region 20 with fail
        refine wpIn_region_st3 (W := w) (S := []) (by kernel_rfl) (by kernel_rfl) (by kernel_rfl) (by kernel_rfl) (fun D uu => ([blkR gx 24 #[.int .u16 l, .int .u16 r, .int .u16 s], blkR gr 4 #[.bool false], devR d t, rowR 3 (.slice OA os.length OC) (atsOf os), rowR 26 (.slice RA RL RC) (uw rs), blkR gk 30 #[.int .i64 (k.L : Int), .int .i64 (k.R : Int), .int .i64 (k.S : Int)], blkR gb 33 #[.int .i64 0, .int .i64 (u : Int), .slice RA RL RC], blkR gw 31 #[.slice (some ⟨g, off, none⟩) (os.length) VC], rowR 26 (.slice (some ⟨g, off, none⟩) (os.length) VC) (uw (ws)), rowR 26 (.slice TA (2 * os.length) TC) (uw (ws ++ ws)), blkR gn 3 #[.int .i64 (((m) : Nat) : Int)], blkR g1 28 #[.pointer (some ⟨d.b, 0, none⟩)], blkR g2 30 #[.int .i64 (k.L : Int), .int .i64 (k.R : Int), .int .i64 (k.S : Int)], blkR g3 33 #[.int .i64 0, .int .i64 (u : Int), .slice RA RL RC], blkR g4 31 #[.slice TA (2 * os.length) TC]] ++ [blkR go 44 #[.int .i64 q, .int .i64 b, .int .i64 x]] ++ r1 :: q2 :: X))
          (fun j v => match j with
            | 0 => v = .int .i64 (m : Int)
            | 1 => v = .slice (some ⟨g, off, none⟩) os.length VC
            | 2 => v = .int .i64 (os.length : Int)
            | 3 => v = .bool false
            | 4 => v = .bool false
            | 5 => v = .pointer (some ⟨go, 2, none⟩)
            | 6 => v = .int .i64 x
            | 7 => v = .int .u64 x
            | 8 => v = .slice (some ⟨g, off, none⟩) os.length VC
            | 9 => v = .int .i64 (m : Int)
            | 10 => v = .pointer (some ⟨g, off + m, none⟩)
            | 11 => v = .int .u64 x
            | 12 => v = .bool false
            | 13 => v = .bool false
            | _ => True) ?start ?step ?fin
        case start => exact fun u => HS.out
        case step =>
          clear HS
          refine ⟨?_, ?_, ?_, ?_, ?_, ?_, ?_, ?_, ?_, ?_, ?_, ?_, ?_, ?_, trivial⟩
          · intro D uu w' K hD hF hl hS hK
            simp only [puts, Act.put, List.setIfInBounds_toArray, List.set_cons_succ, List.set_cons_zero, Nat.zero_add, Nat.reduceAdd]
            have x0 := (hS.blk 10 rfl).cell 0
            simp at x0
            go_simp
            simp only [yUpon]
            exact hK _ _ rfl hS
          · intro D uu w' K hD hF hl hS hK
            simp only [puts, Act.put, List.setIfInBounds_toArray, List.set_cons_succ, List.set_cons_zero, Nat.zero_add, Nat.reduceAdd]
            have x0 := (hS.blk 7 rfl).cell 0
            simp at x0
            go_simp
            simp only [yUpon]
            exact hK _ _ rfl hS
          · intro D uu w' K hD hF hl hS hK
            have f1 := (hF 1 (by kernel_rfl)).2
            simp only at f1
            simp only [puts, Act.put, List.setIfInBounds_toArray, List.set_cons_succ, List.set_cons_zero, Nat.zero_add, Nat.reduceAdd]
            simp only [f1]
            go_simp
            simp only [yUpon]
            exact hK _ _ rfl hS
          · intro D uu w' K hD hF hl hS hK
            have f0 := (hF 0 (by kernel_rfl)).2
            simp only at f0
            have f2 := (hF 2 (by kernel_rfl)).2
            simp only at f2
            simp only [puts, Act.put, List.setIfInBounds_toArray, List.set_cons_succ, List.set_cons_zero, Nat.zero_add, Nat.reduceAdd]
            simp only [f0, f2]
            go_simp
            simp only [yUpon]
            exact hK _ _ rfl hS
          · intro D uu w' K hD hF hl hS hK
            have f3 := (hF 3 (by kernel_rfl)).2
            simp only at f3
            simp only [puts, Act.put, List.setIfInBounds_toArray, List.set_cons_succ, List.set_cons_zero, Nat.zero_add, Nat.reduceAdd]
            simp only [f3]
            go_simp
            simp only [yUpon]
            exact hK _ _ rfl hS
          · intro D uu w' K hD hF hl hS hK
            have f4 := (hF 4 (by kernel_rfl)).2
            simp only at f4
            simp only [puts, Act.put, List.setIfInBounds_toArray, List.set_cons_succ, List.set_cons_zero, Nat.zero_add, Nat.reduceAdd]
            simp only [f4]
            go_simp
            simp only [yUpon]
            exact hK _ _ rfl hS
          · intro D uu w' K hD hF hl hS hK
            have f4 := (hF 4 (by kernel_rfl)).2
            simp only at f4
            have f5 := (hF 5 (by kernel_rfl)).2
            simp only at f5
            simp only [puts, Act.put, List.setIfInBounds_toArray, List.set_cons_succ, List.set_cons_zero, Nat.zero_add, Nat.reduceAdd]
            simp only [f4, f5]
            have x2 := (hS.blk 15 rfl).cell 2
            simp at x2
            go_simp
            simp only [yUpon]
            exact hK _ _ rfl hS
          · intro D uu w' K hD hF hl hS hK
            have f4 := (hF 4 (by kernel_rfl)).2
            simp only at f4
            have f6 := (hF 6 (by kernel_rfl)).2
            simp only at f6
            simp only [puts, Act.put, List.setIfInBounds_toArray, List.set_cons_succ, List.set_cons_zero, Nat.zero_add, Nat.reduceAdd]
            simp only [f4, f6]
            go_simp
            simp only [yUpon]
            exact hK _ _ rfl hS
          · intro D uu w' K hD hF hl hS hK
            have f4 := (hF 4 (by kernel_rfl)).2
            simp only at f4
            simp only [puts, Act.put, List.setIfInBounds_toArray, List.set_cons_succ, List.set_cons_zero, Nat.zero_add, Nat.reduceAdd]
            simp only [f4]
            have x0 := (hS.blk 7 rfl).cell 0
            simp at x0
            go_simp
            simp only [yUpon]
            exact hK _ _ rfl hS
          · intro D uu w' K hD hF hl hS hK
            have f4 := (hF 4 (by kernel_rfl)).2
            simp only at f4
            simp only [puts, Act.put, List.setIfInBounds_toArray, List.set_cons_succ, List.set_cons_zero, Nat.zero_add, Nat.reduceAdd]
            simp only [f4]
            have x0 := (hS.blk 10 rfl).cell 0
            simp at x0
            go_simp
            simp only [yUpon]
            exact hK _ _ rfl hS
          · intro D uu w' K hD hF hl hS hK
            have f4 := (hF 4 (by kernel_rfl)).2
            simp only at f4
            have f8 := (hF 8 (by kernel_rfl)).2
            simp only at f8
            have f9 := (hF 9 (by kernel_rfl)).2
            simp only at f9
            simp only [puts, Act.put, List.setIfInBounds_toArray, List.set_cons_succ, List.set_cons_zero, Nat.zero_add, Nat.reduceAdd]
            simp only [f4, f8, f9]
            go_simp
            simp only [yUpon]
            exact hK _ _ rfl hS
          · intro D uu w' K hD hF hl hS hK
            have f4 := (hF 4 (by kernel_rfl)).2
            simp only at f4
            have f10 := (hF 10 (by kernel_rfl)).2
            simp only at f10
            simp only [puts, Act.put, List.setIfInBounds_toArray, List.set_cons_succ, List.set_cons_zero, Nat.zero_add, Nat.reduceAdd]
            simp only [f4, f10]
            obtain ⟨A, C, hA, hc⟩ := rd_of_rowA (hS.row 8 rfl)
            injection hA with y1 y2 y3
            obtain ⟨g', off', hg, hcell⟩ := hc (by simp [uw, HWL.out]; omega)
            rw [hg] at y1
            cases y1
            have xc := hcell m (.int .u64 x) (by simp [uw, HX.out])
            go_simp
            simp only [yUpon]
            exact hK _ _ rfl hS
          · intro D uu w' K hD hF hl hS hK
            have f4 := (hF 4 (by kernel_rfl)).2
            simp only at f4
            have f7 := (hF 7 (by kernel_rfl)).2
            simp only at f7
            have f11 := (hF 11 (by kernel_rfl)).2
            simp only at f11
            simp only [puts, Act.put, List.setIfInBounds_toArray, List.set_cons_succ, List.set_cons_zero, Nat.zero_add, Nat.reduceAdd]
            simp only [f4, f7, f11]
            go_simp
            simp only [yUpon]
            exact hK _ _ rfl hS
          · intro D uu w' K hD hF hl hS hK
            have f4 := (hF 4 (by kernel_rfl)).2
            simp only at f4
            have f12 := (hF 12 (by kernel_rfl)).2
            simp only at f12
            simp only [puts, Act.put, List.setIfInBounds_toArray, List.set_cons_succ, List.set_cons_zero, Nat.zero_add, Nat.reduceAdd]
            simp only [f4, f12]
            go_simp
            simp only [yUpon]
            exact hK _ _ rfl hS
        case fin =>
          clear HS
          intro D uu wf hall hS
          have v13 := (hall 13 (by simp)).2
          simp only at v13
          have HS := Lib.hid hS
          clear hall hS
          simp only [puts, Act.put, List.setIfInBounds_toArray, List.set_cons_succ, List.set_cons_zero, Nat.zero_add, Nat.reduceAdd]
          simp only [v13]
          clear v13 hge hge2
          have hmw : IntKind.i64.wrap ((m : Int) + 1) = ((m + 1 : Nat) : Int) := by rw [IntWalk.i64_in _ (by omega)]; omega
          have n0 := (HS.out.blk 10 rfl).cell 0
          simp at n0
          have z0 := (HS.out.blk 10 rfl).frozen 0
          have hs2 := HS.out.put (i := 10) rfl 0 (.int .i64 ((m + 1 : Nat) : Int))
          have HS2 := Lib.hid hs2
          clear hs2
          gi_wp2
          exact ⟨_, ⟨rfl, by omega⟩, Sep.dropMid (r := blkR go 44 #[.int .i64 q, .int .i64 b, .int .i64 x]) _ _ HS2.out⟩
      case done =>
        rintro D0 L r2 W' ⟨rfl, _⟩ hs
        simp only [Exit.inBlock, Exit.then]
        refine wpFr_of_wp ?_
        rw [HWL.out] at hs
        have HS := Lib.hid hs
        clear hs HFS
        go_upto_region 23 with fail
        refine wp_region_st3 (W := w) (S := []) (by kernel_rfl) (by kernel_rfl) (by kernel_rfl) (fun D uu => ([blkR gx 24 #[.int .u16 l, .int .u16 r, .int .u16 s], blkR gr 4 #[bif D 14 then .bool true else .bool false], devR d t, rowR 3 (.slice OA os.length OC) (atsOf os), rowR 26 (.slice RA RL RC) (uw rs), blkR gk 30 #[.int .i64 (k.L : Int), .int .i64 (k.R : Int), .int .i64 (k.S : Int)], blkR gb 33 #[.int .i64 0, .int .i64 (u : Int), .slice RA RL RC], blkR gw 31 #[.slice VA (os.length) VC], rowR 26 (.slice VA (os.length) VC) (uw (ws)), rowR 26 (.slice TA (2 * os.length) TC) (uw (ws ++ ws)), blkR gn 3 #[.int .i64 (((os.length) : Nat) : Int)], blkR g1 28 #[.pointer (some ⟨d.b, 0, none⟩)], blkR g2 30 #[.int .i64 (k.L : Int), .int .i64 (k.R : Int), .int .i64 (k.S : Int)], blkR g3 33 #[.int .i64 0, .int .i64 (u : Int), .slice RA RL RC], blkR g4 31 #[.slice TA (2 * os.length) TC]] ++ [objR D0 (.deferred (some [])), r2]))
          (fun j v => match j with
            | 0 => v = .int .i64 (os.length : Int)
            | 1 => v = .slice VA os.length VC
            | 2 => v = .int .i64 (os.length : Int)
            | 3 => v = .bool true
            | 4 => v = .bool true
            | 5 => v = .pointer (some ⟨d.b, 0, none⟩)
            | 6 => v = .agg #[.int .i64 (k.L : Int), .int .i64 (k.R : Int), .int .i64 (k.S : Int)]
            | 7 => v = .agg #[.int .i64 0, .int .i64 (u : Int), .slice RA RL RC]
            | 8 => v = .slice VA os.length VC
            | 9 => v = .int .i64 (u : Int)
            | 10 => v = .pointer (some ⟨gb, 1, none⟩)
            | 11 => v = .int .i64 (u : Int)
            | 12 => v = .bool true
            | 13 => v = .bool true
            | _ => True) ?start ?step ?fin
        case start => exact fun u => HS.out
        case step =>
          clear HS
          refine ⟨?_, ?_, ?_, ?_, ?_, ?_, ?_, ?_, ?_, ?_, ?_, ?_, ?_, ?_, ?_, trivial⟩
          · intro D uu w' K hD hF hl hS hK
            simp only [puts, Act.put, List.setIfInBounds_toArray, List.set_cons_succ, List.set_cons_zero, Nat.zero_add, Nat.reduceAdd]
            have x0 := (hS.blk 10 rfl).cell 0
            simp at x0
            go_simp
            simp only [yUpon]
            exact hK _ _ rfl hS
          · intro D uu w' K hD hF hl hS hK
            simp only [puts, Act.put, List.setIfInBounds_toArray, List.set_cons_succ, List.set_cons_zero, Nat.zero_add, Nat.reduceAdd]
            have x0 := (hS.blk 7 rfl).cell 0
            simp at x0
            go_simp
            simp only [yUpon]
            exact hK _ _ rfl hS
          · intro D uu w' K hD hF hl hS hK
            have f1 := (hF 1 (by kernel_rfl)).2
            simp only at f1
            simp only [puts, Act.put, List.setIfInBounds_toArray, List.set_cons_succ, List.set_cons_zero, Nat.zero_add, Nat.reduceAdd]
            simp only [f1]
            go_simp
            simp only [yUpon]
            exact hK _ _ rfl hS
          · intro D uu w' K hD hF hl hS hK
            have f0 := (hF 0 (by kernel_rfl)).2
            simp only at f0
            have f2 := (hF 2 (by kernel_rfl)).2
            simp only at f2
            simp only [puts, Act.put, List.setIfInBounds_toArray, List.set_cons_succ, List.set_cons_zero, Nat.zero_add, Nat.reduceAdd]
            simp only [f0, f2]
            go_simp
            simp only [yUpon]
            exact hK _ _ rfl hS
          · intro D uu w' K hD hF hl hS hK
            have f3 := (hF 3 (by kernel_rfl)).2
            simp only at f3
            simp only [puts, Act.put, List.setIfInBounds_toArray, List.set_cons_succ, List.set_cons_zero, Nat.zero_add, Nat.reduceAdd]
            simp only [f3]
            go_simp
            simp only [yUpon]
            exact hK _ _ rfl hS
          · intro D uu w' K hD hF hl hS hK
            have f4 := (hF 4 (by kernel_rfl)).2
            simp only at f4
            simp only [puts, Act.put, List.setIfInBounds_toArray, List.set_cons_succ, List.set_cons_zero, Nat.zero_add, Nat.reduceAdd]
            simp only [f4]
            go_simp
            simp only [yUpon]
            exact hK _ _ rfl hS
          · intro D uu w' K hD hF hl hS hK
            have f4 := (hF 4 (by kernel_rfl)).2
            simp only at f4
            simp only [puts, Act.put, List.setIfInBounds_toArray, List.set_cons_succ, List.set_cons_zero, Nat.zero_add, Nat.reduceAdd]
            simp only [f4]
            have x0 := (hS.blk 5 rfl).cell 0
            have x1 := (hS.blk 5 rfl).cell 1
            have x2 := (hS.blk 5 rfl).cell 2
            simp at x0 x1 x2
            go_simp
            simp only [yUpon]
            exact hK _ _ rfl hS
          · intro D uu w' K hD hF hl hS hK
            have f4 := (hF 4 (by kernel_rfl)).2
            simp only at f4
            simp only [puts, Act.put, List.setIfInBounds_toArray, List.set_cons_succ, List.set_cons_zero, Nat.zero_add, Nat.reduceAdd]
            simp only [f4]
            have x0 := (hS.blk 6 rfl).cell 0
            have x1 := (hS.blk 6 rfl).cell 1
            have x2 := (hS.blk 6 rfl).cell 2
            simp at x0 x1 x2
            go_simp
            simp only [yUpon]
            exact hK _ _ rfl hS
          · intro D uu w' K hD hF hl hS hK
            have f4 := (hF 4 (by kernel_rfl)).2
            simp only at f4
            simp only [puts, Act.put, List.setIfInBounds_toArray, List.set_cons_succ, List.set_cons_zero, Nat.zero_add, Nat.reduceAdd]
            simp only [f4]
            have x0 := (hS.blk 7 rfl).cell 0
            simp at x0
            go_simp
            simp only [yUpon]
            exact hK _ _ rfl hS
          · intro D uu w' K hD hF hl hS hK
            have f4 := (hF 4 (by kernel_rfl)).2
            simp only at f4
            have f5 := (hF 5 (by kernel_rfl)).2
            simp only at f5
            have f6 := (hF 6 (by kernel_rfl)).2
            simp only at f6
            have f7 := (hF 7 (by kernel_rfl)).2
            simp only at f7
            have f8 := (hF 8 (by kernel_rfl)).2
            simp only at f8
            simp only [puts, Act.put, List.setIfInBounds_toArray, List.set_cons_succ, List.set_cons_zero, Nat.zero_add, Nat.reduceAdd]
            simp only [f4, f5, f6, f7, f8]
            go_simp
            simp only [yUpon]
            refine (HSI.out _ _ (hS.dev 2 rfl) (rd_of_rowA (hS.row 8 rfl))).mono ?_
            rintro e w1 ⟨rfl, hkk⟩
            exact hK _ _ rfl (hS.grow hkk)
          · intro D uu w' K hD hF hl hS hK
            have f4 := (hF 4 (by kernel_rfl)).2
            simp only at f4
            simp only [puts, Act.put, List.setIfInBounds_toArray, List.set_cons_succ, List.set_cons_zero, Nat.zero_add, Nat.reduceAdd]
            simp only [f4]
            go_simp
            simp only [yUpon]
            exact hK _ _ rfl hS
          · intro D uu w' K hD hF hl hS hK
            have f4 := (hF 4 (by kernel_rfl)).2
            simp only at f4
            have f10 := (hF 10 (by kernel_rfl)).2
            simp only at f10
            simp only [puts, Act.put, List.setIfInBounds_toArray, List.set_cons_succ, List.set_cons_zero, Nat.zero_add, Nat.reduceAdd]
            simp only [f4, f10]
            have x1 := (hS.blk 6 rfl).cell 1
            simp at x1
            go_simp
            simp only [yUpon]
            exact hK _ _ rfl hS
          · intro D uu w' K hD hF hl hS hK
            have f4 := (hF 4 (by kernel_rfl)).2
            simp only at f4
            have f9 := (hF 9 (by kernel_rfl)).2
            simp only at f9
            have f11 := (hF 11 (by kernel_rfl)).2
            simp only at f11
            simp only [puts, Act.put, List.setIfInBounds_toArray, List.set_cons_succ, List.set_cons_zero, Nat.zero_add, Nat.reduceAdd]
            simp only [f4, f9, f11]
            go_simp
            simp only [yUpon]
            exact hK _ _ rfl hS
          · intro D uu w' K hD hF hl hS hK
            have f4 := (hF 4 (by kernel_rfl)).2
            simp only at f4
            have f12 := (hF 12 (by kernel_rfl)).2
            simp only at f12
            simp only [puts, Act.put, List.setIfInBounds_toArray, List.set_cons_succ, List.set_cons_zero, Nat.zero_add, Nat.reduceAdd]
            simp only [f4, f12]
            go_simp
            simp only [yUpon]
            exact hK _ _ rfl hS
          · intro D uu w' K hD hF hl hS hK
            have f13 := (hF 13 (by kernel_rfl)).2
            simp only at f13
            simp only [puts, Act.put, List.setIfInBounds_toArray, List.set_cons_succ, List.set_cons_zero, Nat.zero_add, Nat.reduceAdd]
            simp only [f13]
            simp only [hD, cond_false] at hS
            have x0 := (hS.blk 1 rfl).cell 0
            simp at x0
            have z0 := (hS.blk 1 rfl).frozen 0
            have hput := hS.put (i := 1) rfl 0 (.bool true)
            have e1 : (fset D 14 true) 14 = true := rfl
            go_simp
            simp only [yUpon]
            refine hK _ _ trivial ?_
            simp only [e1, cond_true]
            exact hput
        case fin =>
          clear HS
          intro D uu wf hall hS
          have f14 := (hall 14 (by simp)).1
          simp only [f14, cond_true] at hS
          have HS := Lib.hid hS
          clear hall hS f14
          simp only [puts, Act.put, List.setIfInBounds_toArray, List.set_cons_succ, List.set_cons_zero, Nat.zero_add, Nat.reduceAdd]
          go_wp2
          have hp := HS.out.putObj (i := 15) rfl (.deferred none)
          have ld := loadVar_one (P := Try.prog) (ty := 4) (a := ⟨gr, 0, none⟩) (v := .bool true) (d := .bool) (by kernel_rfl) rfl (by rw [(hp.blk 1 rfl).cell 0]; rfl)
          exact leave_mark (HS.out.all 15 _ rfl) (results_c (fn := Try.f12) (p := 8) (ty := 4) (a1 := ⟨gr, 0, none⟩) rfl _ _ _ rfl ld) ⟨rfl, hp.take 0⟩

theorem ReachAll.walk {v1 v2 : Value} {w : World} (l r s : Int) (h : (lowest .u16 ≤ l ∧ l ≤ greatest .u16) ∧ (lowest .u16 ≤ r ∧ r ≤ greatest .u16) ∧ (lowest .u16 ≤ s ∧ s ≤ greatest .u16)) (hl1 : List HV) (hm1 : RdH w v1 hl1) (ho1 : ∀ x ∈ hl1, x.Ok) (hn1 : hl1.length ≤ maxLen) (xs2 : List Int) (hr2 : Rd w v2 (xs2.map (Value.int .u16))) (hb2 : ∀ x ∈ xs2, lowest .u16 ≤ x ∧ x ≤ greatest .u16) (hn2 : xs2.length ≤ maxLen) (a3 : Bool) :
    Calls Try.prog 12 #[.agg #[.int .u16 l, .int .u16 r, .int .u16 s], v1, v2, .bool a3] w fun e w' => e = .returned (.bool true) ∧ Below w.heap.size w w' := by
  obtain ⟨⟨l0, l1⟩, ⟨r0, r1⟩, s0, s1⟩ := h
  have hb2' : ∀ x ∈ xs2, 0 ≤ x ∧ x ≤ 65535 := fun x hx => by have := hb2 x hx; simpa [lowest, greatest] using this
  simp [lowest, greatest] at l0 l1 r0 r1 s0 s1
  exact (ReachAll.core l r s v1 hl1 v2 xs2 a3 w l0 l1 r0 r1 s0 s1 hm1 ho1 hn1 hr2 hb2' hn2).mono fun e w' ⟨he, hk⟩ => ⟨he, hk.below⟩
end Go.Proofs.Ythdiehcmjknhiaa
