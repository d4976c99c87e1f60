/-
  CheneyAll: the walk.
-/
import Derived.Deep.CutRange
import Derived.Test.YtbdomdmnjclpdaaC14
import Derived.Sort.CutIn
set_option linter.unusedSimpArgs false
set_option linter.unusedVariables false
set_option maxRecDepth 100000
namespace Go.Proofs.Ytbdomdmnjclpdaa
open Go.RowKit Go.Shelf

theorem Sep.blkM {W w : World} {S : List Nat} {L : List Res} {g : Nat} {t : TypeId} {cs : Array Value} (h : Sep W S L w) (hm : blkR g t cs ∈ L) : Blk w g t cs := by
  obtain ⟨i, hi⟩ := List.getElem?_of_mem hm
  exact h.blk i hi
theorem Sep.rowM {W w : World} {S : List Nat} {L : List Res} {e : TypeId} {v : Value} {xs : List Value} (h : Sep W S L w) (hm : rowR e v xs ∈ L) : w.ownsRow 0 e 1 v xs.length xs := by
  obtain ⟨i, hi⟩ := List.getElem?_of_mem hm
  exact h.row i hi
abbrev cyR (d : DevI) (t0 : St) (k : Kfg) (u gx mr : Nat) (RA : Option Addr) (RL RC : Nat) (c : Cst) (tv : Value) : List Res := (cyT d t0 t0 k 0 u gx mr RA RL RC c tv).tail
theorem chy_newM {W : World} {S : List Nat} {X : List Res} (d : DevI) (t : St) (k : Kfg) (u : Nat) (RA : Option Addr) (RL RC : Nat) (rv : Value) (ws : List Int) (w : World) (hk : k.Ok)
    (hm : rowR 38 rv (uw ws) ∈ X) (hl : ws.length ≤ 100000) (hs : Sep W S (devR d t :: X) w) :
    Calls Try.prog 10 #[.pointer (some ⟨d.b, 0, none⟩), .agg k.cells, .agg (rbC 0 u (.slice RA RL RC)), rv] w fun e w' =>
      ∃ gx mr tv, e = .returned (.pointer (some ⟨gx, 0, none⟩)) ∧ Sep W S (devR d t :: (cyR d t k u gx mr RA RL RC ⟨[], ws, 0, false⟩ tv ++ X)) w' := by
  obtain ⟨i, hi⟩ := List.getElem?_of_mem hm
  exact chy_new d t k 0 u RA RL RC rv ws i w hk (by decide) hi hl hs
theorem Sep.turn {W w : World} {S : List Nat} {r : Res} {A B X : List Res} (h : Sep W S (r :: (A ++ B ++ X)) w) : Sep W S (r :: (B ++ A ++ X)) w := h.perm (List.Perm.cons _ (List.Perm.append_right X List.perm_append_comm))
theorem placesI_take {os : List Ob} {i : Nat} {o : Ob} (h : os[i]? = some o) : uw (placesI (os.take (i + 1))) = uw (placesI (os.take i)) ++ [.int .u64 (o.at_ : Int)] := by
  rw [List.take_add_one, h]
  simp [placesI, uw]
theorem sizeF_perm {t : St} {A B : List Int} (h : A.Perm B) : sizeF t A = sizeF t B := by
  induction h with
  | nil => rfl
  | cons x _ ih => simp only [sizeF, List.map_cons, List.sum_cons] at ih ⊢; omega
  | swap x y l => simp only [sizeF, List.map_cons, List.sum_cons]; omega
  | trans _ _ h1 h2 => exact h1.trans h2
set_option maxRecDepth 100000 in
set_option maxHeartbeats 8000000 in
theorem CheneyAll.core (l r s : Int) (v1 : Value) (hl1 : List HV) (v2 : Value) (xs2 : List Int) (a3 : Bool) (w : World) (l0 : 0 ≤ l) (l1 : l ≤ 65535) (r0 : 0 ≤ r) (r1 : r ≤ 65535) (s0 : 0 ≤ s) (s1 : s ≤ 65535) (hm1 : RdH w v1 hl1) (ho1 : ∀ x ∈ hl1, x.Ok) (hn1 : hl1.length ≤ maxLen) (hr2 : Rd w v2 (xs2.map (Value.int .u16))) (hb2 : ∀ x ∈ xs2, 0 ≤ x ∧ x ≤ 65535) (hn2 : xs2.length ≤ maxLen) :
    Calls Try.prog 4 #[.agg #[.int .u16 l, .int .u16 r, .int .u16 s], v1, v2, .bool a3] w fun e w' => e = .returned (.bool true) ∧ Keep w.heap.size [] w w' := by
  simp only [maxLen] at hn1 hn2
  have HS := Lib.hid ((Sep.start w []).new 24 #[.int .u16 l, .int .u16 r, .int .u16 s])
  obtain ⟨hk, hkL, hkR, hkS⟩ := kOf_ok (l := l) (r := r) (s := s) l0 r0 s0
  have hla := fun w hm hml hr hnl => linked_any l r s (0) v1 v2 hl1 xs2 w l0 l1 r0 r1 s0 s1 hm ho1 hml hr hb2 hnl (by decide) (by decide)
  have hpl := placed_length ((kOf l r s).from_ 0) (kOf l r s).S hl1 0
  generalize kOf l r s = k at *
  obtain ⟨os, hos⟩ : ∃ os, placed (k.from_ 0) k.S hl1 0 = os := ⟨_, rfl⟩
  obtain ⟨u, hu⟩ : ∃ u, usedOf k.S hl1 0 = u := ⟨_, rfl⟩
  simp only [hos, hu] at hla hpl
  have HLA := Lib.hid hla
  have HK := Lib.hid hk
  have HM := Lib.hid hm1
  have HRD := Lib.hid hr2
  have hS8 : 8 ≤ k.S := hk.s0
  have hw2 : k.words ≤ 10000 := (Kfg.words_le hk).2
  have hw1 : k.act + 2 + k.R ≤ k.words := (Kfg.words_le hk).1
  obtain ⟨HA, HC, hv1, hvv⟩ := hm1
  subst hv1
  obtain ⟨NA, NC, hv2, hvv2⟩ := hr2.cells
  subst hv2
  clear hla hk hos hu hvv hvv2 hr2
  by_cases hb1 : 25 < hl1.length
  · have hbI : (25 : Int) < hl1.length := by omega
    go_enter Try.func4, Try.ntmps4
    go_wp2_with fail
    generalize w.alloc _ = w2 at *
    refine (awake14_any _).mono ?_
    rintro e w1 ⟨rfl, hk⟩
    replace HS := Lib.hid (HS.out.grow hk)
    clear hk
    go_wp2
    go_ret
    exact ⟨rfl, HS.out.keep⟩
  have hx1a : ((25 : Int) < hl1.length) = False := by rw [eq_iff_iff, iff_false]; omega
  have hx1b : (25 < hl1.length) = False := by rw [eq_iff_iff, iff_false]; omega
  by_cases hb2 : 60 < xs2.length
  · have hbI : (60 : Int) < xs2.length := by omega
    go_enter Try.func4, Try.ntmps4
    go_wp2_with fail
    generalize w.alloc _ = w2 at *
    refine (awake14_any _).mono ?_
    rintro e w1 ⟨rfl, hk⟩
    replace HS := Lib.hid (HS.out.grow hk)
    clear hk
    go_wp2
    go_ret
    exact ⟨rfl, HS.out.keep⟩
  have hx2a : ((60 : Int) < xs2.length) = False := by rw [eq_iff_iff, iff_false]; omega
  have hx2b : (60 < xs2.length) = False := by rw [eq_iff_iff, iff_false]; omega
  go_enter Try.func4, Try.ntmps4
  go_wp2_with fail
  generalize w.alloc _ = w2 at *
  generalize w.heap.size = gx at *
  refine (awake14_any _).mono ?_
  rintro e w1 ⟨rfl, hk⟩
  replace HS := Lib.hid (HS.out.grow hk)
  clear hk
  have c0 := (HS.out.blk 0 rfl).cell 0
  simp at c0
  have c1 := (HS.out.blk 0 rfl).cell 1
  simp at c1
  have c2 := (HS.out.blk 0 rfl).cell 2
  simp at c2
  go_wp2_with fail
  refine (HLA.out _ (HM.out.keep HS.out.keep) (by omega) (HRD.out.keep HS.out.keep) (by omega)).mono ?_
  rintro e w3 ⟨d, t, rv, ov, rfl, hf, hS⟩
  obtain ⟨OA, OC, hov⟩ := rowR_val (hS.row 1 rfl)
  obtain ⟨RA, RC, hrv⟩ := rowR_val (hS.row 2 rfl)
  rw [atsOf_length] at hov
  obtain ⟨rs, hrs⟩ : ∃ rs, rootsOf t k k.R = rs := ⟨_, rfl⟩
  rw [hrs] at hrv hS
  obtain ⟨RL, hRL⟩ : ∃ RL, (uw rs).length = RL := ⟨_, rfl⟩
  rw [hRL] at hrv
  subst hov hrv
  have hadds := HS.out.adds hS
  replace HS := Lib.hid hadds
  have HL := Lib.hid hf
  simp only [Kfg.cells, rbC]
  have hrsl : rs.length ≤ 1000 := by rw [← hrs]; simp [rootsOf]; omega
  clear hS hadds hf hrs hRL c0 c1 c2 HLA HM HRD
  clear hx1a hx1b hx2a hx2b
  have hosl : os.length ≤ 25 := by omega
  have hat : ∀ o ∈ os, o.at_ ≤ 20000 := fun o ho => by have := HL.out.fill.in_ HK.out (by decide) ho; omega
  have HAT := Lib.hid hat
  clear hat
  go_wp2_with fail
  replace HS := Lib.hid (((HS.out.new 30 #[.int .i64 (k.L : Int), .int .i64 (k.R : Int), .int .i64 (k.S : Int)]).new 33 #[.int .i64 0, .int .i64 (u : Int), .slice RA RL RC]).nilRow 38)
  simp only [World.size_alloc] at HS
  generalize (w3.alloc _).alloc _ = w4 at *
  generalize w3.heap.size = gk at *
  generalize gk + 1 = gb at *
  replace HS : Hid (Sep w [] [blkR gx 24 #[.int .u16 l, .int .u16 r, .int .u16 s], devR d t, rowR 3 (.slice OA os.length OC) (atsOf os), rowR 38 (.slice RA RL RC) (uw rs), blkR gk 30 #[.int .i64 (k.L : Int), .int .i64 (k.R : Int), .int .i64 (k.S : Int)], blkR gb 33 #[.int .i64 0, .int .i64 (u : Int), .slice RA RL RC], rowR 38 (.slice none (0) 0) (uw (placesI (os.take 0)))] w4) := HS
  go_loopw [13, 15, 46] (fun v13 _ v46 wr => ∃ (i : Nat) (VA : Option Addr) (VC : Nat), i ≤ os.length ∧ v46 = .int .i64 (i : Int) ∧ v13 = .slice VA i VC ∧ Sep w [] [blkR gx 24 #[.int .u16 l, .int .u16 r, .int .u16 s], devR d t, rowR 3 (.slice OA os.length OC) (atsOf os), rowR 38 (.slice RA RL RC) (uw rs), blkR gk 30 #[.int .i64 (k.L : Int), .int .i64 (k.R : Int), .int .i64 (k.S : Int)], blkR gb 33 #[.int .i64 0, .int .i64 (u : Int), .slice RA RL RC], rowR 38 (.slice VA (i) VC) (uw (placesI (os.take i)))] wr) (fun _ _ v46 _ => os.length - (intOf v46).toNat)
  case atStart => exact ⟨0, none, 0, by omega, rfl, rfl, HS.out⟩
  case round =>
    clear HS
    obtain ⟨i, VA, VC, hi, rfl, rfl, hs⟩ := hrel
    have HS := Lib.hid hs
    clear hs
    by_cases hlt : i < os.length
    · have hltI : (i : Int) < (os.length : Int) := by omega
      obtain ⟨ob, hob⟩ : ∃ ob, os[i]? = some ob := ⟨_, List.getElem?_eq_getElem hlt⟩
      obtain ⟨A', C', hA, hpc⟩ := RdP.of_row (HS.out.row 2 rfl)
      injection hA with e1 e2 e3
      subst e1
      obtain ⟨g, off, hOA, k0⟩ := hpc i ob hob
      subst hOA
      have hpt := placesI_take hob
      have hab := HAT.out ob (List.mem_of_getElem? hob)
      obtain ⟨q, hq⟩ : ∃ q, ob.at_ = q := ⟨_, rfl⟩
      rw [hq] at k0 hpt hab
      have hwq : IntKind.u64.wrap (q : Int) = (q : Int) := by rw [IntKind.wrap_u64]; omega
      have hwi : IntKind.i64.wrap ((i : Int) + 1) = (i : Int) + 1 := IntWalk.i64_in _ (by omega)
      have HPT := Lib.hid hpt
      clear hpc e2 e3 hob hpt hq
      go_wp2_with (at_builtin; refine of_stop ?_)
      unfold Stop
      clear k0
      replace HS := Lib.hid (HS.out.new 38 #[.int .u64 (q : Int)])
      generalize wr.alloc _ = wa at *
      generalize wr.heap.size = gn at *
      have hrd : Rd wa (.slice (some ⟨gn, 0, none⟩) 1 1) [.int .u64 (q : Int)] := Rd.of_uw (n := 1) (xs := [(q : Int)]) (ex := []) (by simpa [uw] using HS.out.blk 7 rfl)
      refine wpList_appendE HS.out 6 rfl rfl _ _ 31 rfl rfl (z := .int .u64 0) (bytes := 8) (by kernel_rfl) rfl (by decide) rfl rfl hrd (by intro u hu; simp at hu; subst hu; rfl) (by simp [uw, placesI]; omega) ?_
      intro v' wb hS _
      obtain ⟨VA2, VC2, hv'⟩ := rowR_val (hS.row 6 rfl)
      rw [show (uw (placesI (os.take i)) ++ [Value.int .u64 (q : Int)]).length = i + 1 by simp [uw, placesI]; omega] at hv'
      subst hv'
      rw [← HPT.out] at hS
      replace HS := Lib.hid hS
      clear hS hrd
      go_wp2
      refine ⟨?_, by simp [intOf]; omega⟩
      (repeat apply Exists.intro)
      exact ⟨⟨i + 1, VA2, VC2, by omega, by first | rfl | go_num | simp, rfl, HS.out.take 7⟩, rfl⟩
    · have hltI : ¬ (i : Int) < (os.length : Int) := by omega
      obtain rfl : i = os.length := by omega
      rw [List.take_length] at HS
      clear hlt hltI hi
      go_upto_if 56 with fail
      go_cut [] from 56 to 58 (fun wx => True ∧ ∃ ws : List Int, ws.Perm (placesI os) ∧ Sep w [] [blkR gx 24 #[.int .u16 l, .int .u16 r, .int .u16 s], devR d t, rowR 3 (.slice OA os.length OC) (atsOf os), rowR 38 (.slice RA RL RC) (uw rs), blkR gk 30 #[.int .i64 (k.L : Int), .int .i64 (k.R : Int), .int .i64 (k.S : Int)], blkR gb 33 #[.int .i64 0, .int .i64 (u : Int), .slice RA RL RC], rowR 38 (.slice VA (os.length) VC) (uw (ws))] wx)
      case first =>
        cases a3
        · go_wp2
          go_meet
          exact ⟨trivial, placesI os, List.Perm.refl _, HS.out⟩
        · go_wp2_with fail
          refine (reverse_row HS.out (i := 6) rfl (by simp [placesI]; omega)).mono ?_
          rintro e wx ⟨⟨r, rfl⟩, hs'⟩
          replace HS := Lib.hid hs'
          clear hs'
          go_wp2
          go_meet
          exact ⟨trivial, (placesI os).reverse, List.reverse_perm _, HS.out⟩
      case rest =>
        obtain ⟨_, ws, hperm, hs⟩ := hcut
        clear HS
        have hwl : ws.length = os.length := by rw [hperm.length_eq]; simp [placesI]
        have hs2 := (hs.nilRow 38).perm (List.Perm.swap _ _ _)
        have HS := Lib.hid hs2
        have HPM := Lib.hid hperm
        have HWL := Lib.hid hwl
        have HC := Lib.hid (HL.out.chyOk HK.out)
        have hwd : ∀ x ∈ ws, 0 ≤ x ∧ x ≤ 18446744073709551615 := fun x hx => by
          obtain ⟨o, ho, rfl⟩ := List.mem_map.1 (hperm.mem_iff.1 hx)
          have := HAT.out o ho
          omega
        have HWD := Lib.hid hwd
        clear hs hs2 hperm hwl hwd HAT
        obtain ⟨X, hX⟩ : ∃ X, X = [blkR gx 24 #[.int .u16 l, .int .u16 r, .int .u16 s], rowR 3 (.slice OA os.length OC) (atsOf os), rowR 38 (.slice RA RL RC) (uw rs), blkR gk 30 #[.int .i64 (k.L : Int), .int .i64 (k.R : Int), .int .i64 (k.S : Int)], blkR gb 33 #[.int .i64 0, .int .i64 (u : Int), .slice RA RL RC], rowR 38 (.slice VA os.length VC) (uw ws), rowR 38 (.slice none 0 0) (uw [])] := ⟨_, rfl⟩
        replace HS : Hid (Sep w [] (devR d t :: X) _) := Lib.hid (by rw [hX]; exact HS.out)
        have hmc : blkR gk 30 #[.int .i64 (k.L : Int), .int .i64 (k.R : Int), .int .i64 (k.S : Int)] ∈ X := by rw [hX]; simp
        have hmb : blkR gb 33 #[.int .i64 0, .int .i64 (u : Int), .slice RA RL RC] ∈ X := by rw [hX]; simp
        have hmw : rowR 38 (.slice VA os.length VC) (uw ws) ∈ X := by rw [hX]; simp
        have hmn : rowR 38 (.slice none 0 0) (uw []) ∈ X := by rw [hX]; simp
        have hmr : rowR 38 (.slice RA RL RC) (uw rs) ∈ X := by rw [hX]; simp
        have HMC := Lib.hid hmc
        have HMB := Lib.hid hmb
        have HMW := Lib.hid hmw
        have HMN := Lib.hid hmn
        have HMR := Lib.hid hmr
        clear hX hmc hmb hmw hmn hmr
        have hnw := fun X w1 rv ws hm hl hs => chy_newM (W := w) (S := []) (X := X) d t k u RA RL RC rv ws w1 HK.out hm hl hs
        simp only [Kfg.cells, rbC] at hnw
        have HNW := Lib.hid hnw
        clear hnw
        go_upto_region 16 with fail
        refine wp_region_c3 (by kernel_rfl) (by kernel_rfl) (by kernel_rfl) (fun D uu wz => ∃ (g1 m1 g2 m2 : Nat) (t1 t2 : Value), (D 4 = true → uu 4 = .pointer (some ⟨g1, 0, none⟩)) ∧ (D 8 = true → uu 8 = .pointer (some ⟨g2, 0, none⟩)) ∧ (D 9 = true → uu 9 = .pointer (some ⟨g1, 0, none⟩)) ∧ (D 10 = true → uu 10 = .pointer (some ⟨g2, 0, none⟩)) ∧ Sep w [] (devR d t :: ((bif D 4 then cyR d t k u g1 m1 RA RL RC ⟨[], ws, 0, false⟩ t1 else []) ++ (bif D 8 then cyR d t k u g2 m2 RA RL RC ⟨[], [], 0, false⟩ t2 else []) ++ X)) wz)
          (fun j v => match j with
            | 0 => v = .pointer (some ⟨d.b, 0, none⟩)
            | 1 => v = .agg #[.int .i64 (k.L : Int), .int .i64 (k.R : Int), .int .i64 (k.S : Int)]
            | 2 => v = .agg #[.int .i64 0, .int .i64 (u : Int), .slice RA RL RC]
            | 3 => v = .slice VA os.length VC
            | 4 => ∃ h, v = .pointer (some ⟨h, 0, none⟩)
            | 5 => v = .pointer (some ⟨d.b, 0, none⟩)
            | 6 => v = .agg #[.int .i64 (k.L : Int), .int .i64 (k.R : Int), .int .i64 (k.S : Int)]
            | 7 => v = .agg #[.int .i64 0, .int .i64 (u : Int), .slice RA RL RC]
            | 8 => ∃ h, v = .pointer (some ⟨h, 0, none⟩)
            | 9 => ∃ h, v = .pointer (some ⟨h, 0, none⟩)
            | 10 => ∃ h, v = .pointer (some ⟨h, 0, none⟩)
            | _ => True) ?start ?step ?fin
        case start => exact fun u => ⟨0, 0, 0, 0, .bool true, .bool true, (fun h => by cases h), (fun h => by cases h), (fun h => by cases h), (fun h => by cases h), HS.out.drew⟩
        case step =>
          clear HS
          refine ⟨?_, ?_, ?_, ?_, ?_, ?_, ?_, ?_, ?_, ?_, ?_, trivial⟩
          · intro D uu w' K hD hF hl hS hK
            simp only [puts, Act.put, List.setIfInBounds_toArray, List.set_cons_succ, List.set_cons_zero, Nat.zero_add, Nat.reduceAdd]
            go_simp
            simp only [yUpon]
            exact hK _ _ rfl hS
          · intro D uu w' K hD hF hl hS hK
            simp only [puts, Act.put, List.setIfInBounds_toArray, List.set_cons_succ, List.set_cons_zero, Nat.zero_add, Nat.reduceAdd]
            have hS0 := hS
            obtain ⟨g1, m1, g2, m2, t1, t2, h4, h8, h9, h10, hS2⟩ := hS0
            have x0 := (hS2.blkM (List.mem_cons_of_mem _ (List.mem_append_right _ HMC.out))).cell 0
            have x1 := (hS2.blkM (List.mem_cons_of_mem _ (List.mem_append_right _ HMC.out))).cell 1
            have x2 := (hS2.blkM (List.mem_cons_of_mem _ (List.mem_append_right _ HMC.out))).cell 2
            simp at x0 x1 x2
            go_simp
            simp only [yUpon]
            exact hK _ _ rfl hS
          · intro D uu w' K hD hF hl hS hK
            simp only [puts, Act.put, List.setIfInBounds_toArray, List.set_cons_succ, List.set_cons_zero, Nat.zero_add, Nat.reduceAdd]
            have hS0 := hS
            obtain ⟨g1, m1, g2, m2, t1, t2, h4, h8, h9, h10, hS2⟩ := hS0
            have x0 := (hS2.blkM (List.mem_cons_of_mem _ (List.mem_append_right _ HMB.out))).cell 0
            have x1 := (hS2.blkM (List.mem_cons_of_mem _ (List.mem_append_right _ HMB.out))).cell 1
            have x2 := (hS2.blkM (List.mem_cons_of_mem _ (List.mem_append_right _ HMB.out))).cell 2
            simp at x0 x1 x2
            go_simp
            simp only [yUpon]
            exact hK _ _ rfl hS
          · intro D uu w' K hD hF hl hS hK
            simp only [puts, Act.put, List.setIfInBounds_toArray, List.set_cons_succ, List.set_cons_zero, Nat.zero_add, Nat.reduceAdd]
            go_simp
            simp only [yUpon]
            exact hK _ _ rfl hS
          · intro D uu w' K hD hF hl hS hK
            have f0 := (hF 0 (by kernel_rfl)).2
            simp only at f0
            have f1 := (hF 1 (by kernel_rfl)).2
            simp only at f1
            have f2 := (hF 2 (by kernel_rfl)).2
            simp only at f2
            have f3 := (hF 3 (by kernel_rfl)).2
            simp only at f3
            simp only [puts, Act.put, List.setIfInBounds_toArray, List.set_cons_succ, List.set_cons_zero, Nat.zero_add, Nat.reduceAdd]
            simp only [f0, f1, f2, f3]
            obtain ⟨g1, m1, g2, m2, t1, t2, h4, h8, h9, h10, hS2⟩ := hS
            simp only [hD, cond_false, List.nil_append] at hS2
            go_simp
            simp only [yUpon]
            refine (HNW.out _ _ _ ws (List.mem_append_right _ HMW.out) (by have := HWL.out; omega) hS2).mono ?_
            rintro e w9 ⟨gx', mr, tv, rfl, h⟩
            refine hK _ _ ⟨_, rfl⟩ ⟨gx', mr, g2, m2, tv, t2, fun _ => rfl, h8, fun h => absurd (h.symm.trans (hl 9 (by kernel_rfl))) (by simp), h10, ?_⟩
            have e1 : (fset D 4 true) 4 = true := rfl
            have e2 : (fset D 4 true) 8 = D 8 := rfl
            simp only [e1, e2, cond_true]
            rw [List.append_assoc]
            exact h
          · intro D uu w' K hD hF hl hS hK
            simp only [puts, Act.put, List.setIfInBounds_toArray, List.set_cons_succ, List.set_cons_zero, Nat.zero_add, Nat.reduceAdd]
            go_simp
            simp only [yUpon]
            exact hK _ _ rfl hS
          · intro D uu w' K hD hF hl hS hK
            simp only [puts, Act.put, List.setIfInBounds_toArray, List.set_cons_succ, List.set_cons_zero, Nat.zero_add, Nat.reduceAdd]
            have hS0 := hS
            obtain ⟨g1, m1, g2, m2, t1, t2, h4, h8, h9, h10, hS2⟩ := hS0
            have x0 := (hS2.blkM (List.mem_cons_of_mem _ (List.mem_append_right _ HMC.out))).cell 0
            have x1 := (hS2.blkM (List.mem_cons_of_mem _ (List.mem_append_right _ HMC.out))).cell 1
            have x2 := (hS2.blkM (List.mem_cons_of_mem _ (List.mem_append_right _ HMC.out))).cell 2
            simp at x0 x1 x2
            go_simp
            simp only [yUpon]
            exact hK _ _ rfl hS
          · intro D uu w' K hD hF hl hS hK
            simp only [puts, Act.put, List.setIfInBounds_toArray, List.set_cons_succ, List.set_cons_zero, Nat.zero_add, Nat.reduceAdd]
            have hS0 := hS
            obtain ⟨g1, m1, g2, m2, t1, t2, h4, h8, h9, h10, hS2⟩ := hS0
            have x0 := (hS2.blkM (List.mem_cons_of_mem _ (List.mem_append_right _ HMB.out))).cell 0
            have x1 := (hS2.blkM (List.mem_cons_of_mem _ (List.mem_append_right _ HMB.out))).cell 1
            have x2 := (hS2.blkM (List.mem_cons_of_mem _ (List.mem_append_right _ HMB.out))).cell 2
            simp at x0 x1 x2
            go_simp
            simp only [yUpon]
            exact hK _ _ rfl hS
          · intro D uu w' K hD hF hl hS hK
            have f5 := (hF 5 (by kernel_rfl)).2
            simp only at f5
            have f6 := (hF 6 (by kernel_rfl)).2
            simp only at f6
            have f7 := (hF 7 (by kernel_rfl)).2
            simp only at f7
            simp only [puts, Act.put, List.setIfInBounds_toArray, List.set_cons_succ, List.set_cons_zero, Nat.zero_add, Nat.reduceAdd]
            simp only [f5, f6, f7]
            obtain ⟨g1, m1, g2, m2, t1, t2, h4, h8, h9, h10, hS2⟩ := hS
            simp only [hD, cond_false, List.append_nil] at hS2
            go_simp
            simp only [yUpon]
            refine (HNW.out _ _ _ [] (List.mem_append_right _ HMN.out) (by decide) hS2).mono ?_
            rintro e w9 ⟨gx', mr, tv, rfl, h⟩
            refine hK _ _ ⟨_, rfl⟩ ⟨g1, m1, gx', mr, t1, tv, h4, fun _ => rfl, h9, fun h => absurd (h.symm.trans (hl 10 (by kernel_rfl))) (by simp), ?_⟩
            have e1 : (fset D 8 true) 8 = true := rfl
            have e2 : (fset D 8 true) 4 = D 4 := rfl
            simp only [e1, e2, cond_true]
            rw [← List.append_assoc] at h
            exact h.turn
          · intro D uu w' K hD hF hl hS hK
            simp only [puts, Act.put, List.setIfInBounds_toArray, List.set_cons_succ, List.set_cons_zero, Nat.zero_add, Nat.reduceAdd]
            obtain ⟨g1, m1, g2, m2, t1, t2, h4, h8, h9, h10, hS2⟩ := hS
            have f4 := h4 (hF 4 (by kernel_rfl)).1
            simp only [f4]
            go_simp
            simp only [yUpon]
            exact hK _ _ ⟨_, rfl⟩ ⟨g1, m1, g2, m2, t1, t2, h4, h8, fun _ => rfl, h10, hS2⟩
          · intro D uu w' K hD hF hl hS hK
            simp only [puts, Act.put, List.setIfInBounds_toArray, List.set_cons_succ, List.set_cons_zero, Nat.zero_add, Nat.reduceAdd]
            obtain ⟨g1, m1, g2, m2, t1, t2, h4, h8, h9, h10, hS2⟩ := hS
            have f8 := h8 (hF 8 (by kernel_rfl)).1
            simp only [f8]
            go_simp
            simp only [yUpon]
            exact hK _ _ ⟨_, rfl⟩ ⟨g1, m1, g2, m2, t1, t2, h4, h8, h9, fun _ => rfl, hS2⟩
        case fin =>
          clear HS HNW
          intro D uu w5 hall hC
          obtain ⟨g1, m1, g2, m2, t1, t2, h4, h8, h9, h10, hS⟩ := hC
          have v9 := h9 (hall 9 (by simp)).1
          have v10 := h10 (hall 10 (by simp)).1
          simp only [(hall 4 (by simp)).1, (hall 8 (by simp)).1, cond_true] at hS
          have HS := Lib.hid hS.turn
          clear hall hS h4 h8 h9 h10
          simp only [puts, Act.put, List.setIfInBounds_toArray, List.set_cons_succ, List.set_cons_zero, Nat.zero_add, Nat.reduceAdd]
          simp only [v9, v10]
          clear v9 v10
          go_wp2_with fail
          have hr0 : reachF (isOb t k 0 u) (nmsOf t) [] u = [] := reach_nil _ _ u
          have hra : reachF (isOb t k 0 u) (nmsOf t) ws u = ws := by
            have := HL.out.reachAll HPM.out (vs := []) (by simp) u
            rwa [List.append_nil] at this
          have hrun := run_cy (X := cyR d t k u g1 m1 RA RL RC ⟨[], ws, 0, false⟩ t1 ++ X) d t t k 0 u g2 m2 [] ⟨[], [], 0, false⟩ t2 RA RL RC w5 HC.out (chyRel_id _ _ _ _) (cyInv_start (by simp)) (WayC.start HC.out) HS.out
          rw [hr0] at hrun
          refine hrun.mono ?_
          clear hrun
          rintro e w6 (⟨rfl, s1, tz, hm1, hi1, hs1⟩ | ⟨rfl, hl0, _⟩)
          rotate_left
          · exact absurd hl0 (by have := HL.out.fill.use.lim; omega)
          have hs2 : Sep w [] (devR d s1 :: (cyR d t k u g2 m2 RA RL RC ⟨[], [], 0, true⟩ tz ++ cyR d t k u g1 m1 RA RL RC ⟨[], ws, 0, false⟩ t1 ++ X)) w6 := hs1
          have hrun2 := run_cy (X := cyR d t k u g2 m2 RA RL RC ⟨[], [], 0, true⟩ tz ++ X) d t s1 k 0 u g1 m1 ws ⟨[], ws, 0, false⟩ t1 RA RL RC w6 HC.out (chyRel_id _ _ _ _) ⟨hi1.moved, hi1.inv, fun h => (by cases h), fun x hx => ⟨HWD.out x hx, rfl⟩⟩ (WayC.start HC.out) hs2.turn
          rw [hra] at hrun2
          have hl1 : s1.l < 0 := by rw [hm1.lim]; exact HL.out.fill.use.lim
          have HRUN := Lib.hid hrun2
          have HS1 := Lib.hid hl1
          clear hrun2 hs1 hs2 hm1 hi1 hr0 hra hl1 HS
          go_wp2_with fail
          refine HRUN.out.mono ?_
          rintro e w7 (⟨rfl, s2, ty, hm2, hi2, hs3⟩ | ⟨rfl, hl0, _⟩)
          rotate_left
          · exact absurd hl0 (by have := HS1.out; omega)
          have HS := Lib.hid hs3
          have HMV := Lib.hid hi2.moved
          clear hm2 hi2 hs3 HRUN HS1
          have hmem : ∀ r, r ∈ X → r ∈ cyT d s2 t k 0 u g1 m1 RA RL RC ⟨ws, [], ws.length, true⟩ ty ++ (cyR d t k u g2 m2 RA RL RC ⟨[], [], 0, true⟩ tz ++ X) := fun r hr => List.mem_append_right _ (List.mem_append_right _ hr)
          have HMEM := Lib.hid hmem
          clear hmem
          have c0 := (HS.out.blkM (HMEM.out _ HMC.out)).cell 0
          have c1 := (HS.out.blkM (HMEM.out _ HMC.out)).cell 1
          have c2 := (HS.out.blkM (HMEM.out _ HMC.out)).cell 2
          simp at c0 c1 c2
          obtain ⟨tb, htb⟩ : ∃ tb, toA k 0 = tb := ⟨_, rfl⟩
          have hfr := kfrom k w7 HK.out 1 (by decide)
          rw [show k.from_ 1 = tb from htb] at hfr
          simp only [Kfg.cells] at hfr
          have HFR := Lib.hid hfr
          have HTB := Lib.hid htb
          clear hfr htb
          go_wp2_with fail
          refine HFR.out.mono ?_
          rintro e w8 ⟨rfl, hkk⟩
          replace HS := Lib.hid (HS.out.grow hkk)
          clear hkk HFR c0 c1 c2
          go_wp2_with fail
          go_loopw [18, 20, 21, 22, 78] (fun v18 _ _ _ v78 wr => ∃ i : Nat, i ≤ ws.length ∧ v78 = .int .i64 (i : Int) ∧ v18 = .int .i64 ((tb + sizeF t (ws.take i) : Nat) : Int) ∧ Sep w [] (cyT d s2 t k 0 u g1 m1 RA RL RC ⟨ws, [], ws.length, true⟩ ty ++ (cyR d t k u g2 m2 RA RL RC ⟨[], [], 0, true⟩ tz ++ X)) wr) (fun _ _ _ _ v78 _ => ws.length - (intOf v78).toNat)
          case atStart => exact ⟨0, by omega, rfl, by first | rfl | simp [sizeF], HS.out⟩
          case round =>
            clear HS
            obtain ⟨i, hi, rfl, rfl, hs⟩ := hrel
            have HS := Lib.hid hs
            clear hs
            by_cases hlt : i < ws.length
            · as_aux_lemma =>
              have hltI : (i : Int) < (os.length : Int) := by have := HWL.out; omega
              obtain ⟨y, hy⟩ : ∃ y, ws[i]? = some y := ⟨_, List.getElem?_eq_getElem hlt⟩
              obtain ⟨ob, hob, rfl⟩ := List.mem_map.1 (HPM.out.mem_iff.1 (List.mem_of_getElem? hy))
              obtain ⟨A', C', hA, hpc⟩ := (rd_rowE (HS.out.rowM (HMEM.out _ HMW.out))).cells
              injection hA with e1 e2 e3
              subst e1 e3
              obtain ⟨g, off, hOA, k0⟩ := hpc i hlt
              subst hOA
              rw [List.getD_eq_getElem?_getD, hy] at k0
              simp only [Option.getD_some] at k0
              have hnd : ws.Nodup := HPM.out.nodup_iff.2 (placesI_nodup HL.out.fill.chain)
              have hpa := placeF_at (t := t) (p := tb) hnd hy
              have htk := sizeF_take (t := t) hy
              have hch := HL.out.fill.chain.mem hob
              have hhd := HL.out.head hob
              have hrg := HL.out.rng.nw ob.at_
              have hsm := HL.out.fill.small ob hob
              have hZW := toZ_words (k := k) (a := 0) (by decide) HK.out
              have hus : u ≤ k.S := HL.out.fill.le
              have hfw := Kfg.from_words HK.out (a := 0) (by decide)
              have hnw : s2.nw ob.at_ = t.nw ob.at_ := HMV.out.nw HL.out.fill.use.is hZW.1 (toA_apart (by decide) hus hch.1 (by omega))
              have hwo : wordsOf t (ob.at_ : Int) = ob.n := by
                unfold wordsOf
                rw [Int.toNat_natCast, hhd, Int.toNat_natCast]
              have hsl := sizeF_lt (t := t) hy
              have hszw := HC.out.size ws ⟨hnd, fun x hx => by
                obtain ⟨o, ho, rfl⟩ := List.mem_map.1 (HPM.out.mem_iff.1 hx)
                exact HL.out.isOb_at ho⟩
              rw [hwo] at htk hsl
              have hof := fun w (hd : Dev w d s2) => of_yes d s2 k 0 u ob.at_ (k.from_ 0 + u) _ (ob.n : Int) (ob.b : Int) (.slice RA RL RC) w hd HK.out (by decide) hus ⟨hch.1, by omega⟩ rfl hnw hrg.1 hrg.2 hhd (by omega)
              have hwe := fun wv hs => went_cy (W := w) (S := []) (X := cyR d t k u g2 m2 RA RL RC ⟨[], [], 0, true⟩ tz ++ X) d t s2 k 0 u g1 m1 ⟨ws, [], ws.length, true⟩ ty RA RL RC (ob.at_ : Int) wv hs
              have hz : toZ k 0 = toA k 0 + up8 k.S := rfl
              simp only [HTB.out] at hwe hZW hz
              rw [hpa] at hwe
              simp only [Option.getD_some] at hwe
              simp only [Kfg.cells, rbC] at hof
              have htbl : tb ≤ 10000 := by omega
              obtain ⟨p, hp⟩ : ∃ p, ob.at_ = p := ⟨_, rfl⟩
              obtain ⟨n, hn⟩ : ∃ n, ob.n = n := ⟨_, rfl⟩
              obtain ⟨b, hb⟩ : ∃ b, ob.b = b := ⟨_, rfl⟩
              rw [hp, hn, hb] at hof
              rw [hp] at k0 hwe hch
              rw [hn] at htk hsl hsm
              obtain ⟨sz, hsz⟩ : ∃ sz, tb + sizeF t (ws.take i) = sz := ⟨_, rfl⟩
              simp only [hsz] at hwe ⊢
              have hszl : sz ≤ 20000 := by omega
              have hn64 : n ≤ 64 := by omega
              have hp2 : p ≤ 20000 := by omega
              have hsum : IntKind.i64.wrap ((sz : Int) + ((n : Int) + 1)) = ((tb + sizeF t (ws.take (i + 1)) : Nat) : Int) := by rw [IntWalk.i64_in _ (by omega), htk]; omega
              have hwi : IntKind.i64.wrap ((i : Int) + 1) = (i : Int) + 1 := IntWalk.i64_in _ (by omega)
              have hwp : IntKind.i64.wrap (p : Int) = (p : Int) := IntWalk.i64_in _ (by omega)
              have hne : decide ((sz : Int) ≠ (sz : Int)) = false := by simp
              have HOF := Lib.hid hof
              have HWE := Lib.hid hwe
              have HSUM := Lib.hid hsum
              clear hz e2 hpc hy hob hnd hpa htk hch hhd hrg hsm hZW hus hfw hnw hwo hsl hszw hof hwe hp hn hb hsz hsum
              go_wp2_with fail
              clear k0
              refine (HWE.out _ HS.out).mono ?_
              rintro e w9 ⟨rfl, rfl⟩
              have c0 := (HS.out.blkM (HMEM.out _ HMC.out)).cell 0
              have c1 := (HS.out.blkM (HMEM.out _ HMC.out)).cell 1
              have c2 := (HS.out.blkM (HMEM.out _ HMC.out)).cell 2
              have b0 := (HS.out.blkM (HMEM.out _ HMB.out)).cell 0
              have b1 := (HS.out.blkM (HMEM.out _ HMB.out)).cell 1
              have b2 := (HS.out.blkM (HMEM.out _ HMB.out)).cell 2
              simp at c0 c1 c2 b0 b1 b2
              go_wp2_with fail
              refine (HOF.out _ (HS.out.dev 0 rfl)).mono ?_
              rintro e1 w12 ⟨rfl, hkk⟩
              replace HS := Lib.hid (HS.out.grow hkk)
              clear hkk c0 c1 c2 b0 b1 b2 HOF HWE
              go_wp2_with fail
              refine (hsize_any (n : Int) (b : Int) _ (by omega) (by omega)).mono ?_
              rintro e2 w13 ⟨rfl, hkk⟩
              replace HS := Lib.hid ((HS.out.alloc (.cells #[.int .i64 (n : Int), .int .i64 (b : Int), .int .i64 (p : Int)] 53)).grow hkk)
              have hsum := HSUM.out
              clear hkk
              go_wp2
              exact ⟨⟨i + 1, by omega, by first | rfl | go_num | simp, by first | rfl | simp, HS.out⟩, by simp [intOf]; omega⟩
            · as_aux_lemma =>
              have hltI : ¬ (ws.length : Int) < (os.length : Int) := by have := HWL.out; omega
              obtain rfl : i = ws.length := by omega
              clear hlt hi
              have hus : u ≤ k.S := HL.out.fill.le
              have hnd : ws.Nodup := HPM.out.nodup_iff.2 (placesI_nodup HL.out.fill.chain)
              have hszu : sizeF t ws = u := by rw [sizeF_perm HPM.out, HL.out.sizeAll]
              have hby : ∀ w', Sep w [] (cyT d s2 t k 0 u g1 m1 RA RL RC ⟨ws, [], ws.length, true⟩ ty ++ (cyR d t k u g2 m2 RA RL RC ⟨[], [], 0, true⟩ tz ++ X)) w' → Calls Try.prog 12 #[.pointer (some ⟨g1, 0, none⟩)] w' fun e w'' => ∃ z, e = .returned (.agg #[.int .i64 1, .int .i64 (u : Int), z]) ∧ Keep w'.heap.size [] w' w'' := by
                intro w' h8
                refine (block_cy (X := cyR d t k u g2 m2 RA RL RC ⟨[], [], 0, true⟩ tz ++ X) d t s2 k 0 u g1 m1 ⟨ws, [], ws.length, true⟩ ty RA RL RC rs w' (by decide) HK.out hus (Nat.le_of_eq hszu) hnd (rd_rowE (h8.rowM (HMEM.out _ HMR.out))) hrsl h8).mono ?_
                rintro e w'' ⟨v, rfl, h⟩
                refine ⟨v, ?_, h.keep⟩
                simp only [hszu]
                try rfl
              have hbz : ∀ w', Sep w [] (cyT d s2 t k 0 u g1 m1 RA RL RC ⟨ws, [], ws.length, true⟩ ty ++ (cyR d t k u g2 m2 RA RL RC ⟨[], [], 0, true⟩ tz ++ X)) w' → Calls Try.prog 12 #[.pointer (some ⟨g2, 0, none⟩)] w' fun e w'' => ∃ z, e = .returned (.agg #[.int .i64 1, .int .i64 0, z]) ∧ Keep w'.heap.size [] w' w'' := by
                intro w' h8
                have h9 : Sep w [] (devR d s2 :: (cyR d t k u g1 m1 RA RL RC ⟨ws, [], ws.length, true⟩ ty ++ cyR d t k u g2 m2 RA RL RC ⟨[], [], 0, true⟩ tz ++ X)) w' := h8
                refine (block_cy (X := cyR d t k u g1 m1 RA RL RC ⟨ws, [], ws.length, true⟩ ty ++ X) d t s2 k 0 u g2 m2 ⟨[], [], 0, true⟩ tz RA RL RC rs w' (by decide) HK.out hus (Nat.zero_le _) List.nodup_nil (rd_rowE (h8.rowM (HMEM.out _ HMR.out))) hrsl h9.turn).mono ?_
                rintro e w'' ⟨v, rfl, h⟩
                exact ⟨v, rfl, h.keep⟩
              have hfd : ∀ (x y : Int) (z : Value) (w : World), (Instr.field 33 (.agg #[.int .i64 x, .int .i64 y, z]) 1).run Try.prog w = .ok (.int .i64 y) w := fun x y z w => rfl
              have HBY := Lib.hid hby
              have HBZ := Lib.hid hbz
              have HFD := Lib.hid hfd
              clear hby hbz hfd hszu hnd hus
              go_upto_region 30 with fail
              refine wp_region_st3 (W := w) (S := []) (by kernel_rfl) (by kernel_rfl) (by kernel_rfl) (fun D uu => cyT d s2 t k 0 u g1 m1 RA RL RC ⟨ws, [], ws.length, true⟩ ty ++ (cyR d t k u g2 m2 RA RL RC ⟨[], [], 0, true⟩ tz ++ X))
                (fun j v => match j with
                  | 0 => v = .pointer (some ⟨g1, 0, none⟩)
                  | 1 => ∃ z, v = .agg #[.int .i64 1, .int .i64 (u : Int), z]
                  | 2 => v = .int .i64 (u : Int)
                  | 3 => v = .pointer (some ⟨gb, 1, none⟩)
                  | 4 => v = .int .i64 (u : Int)
                  | 5 => v = .bool true
                  | 6 => v = .bool true
                  | 7 => v = .pointer (some ⟨g2, 0, none⟩)
                  | 8 => ∃ z, v = .agg #[.int .i64 1, .int .i64 0, z]
                  | 9 => v = .int .i64 0
                  | 10 => v = .bool true
                  | 11 => v = .bool true
                  | 12 => v = .bool true
                  | _ => True) ?start ?step ?fin
              case start => exact fun u => HS.out
              case step =>
                clear HS
                refine ⟨?_, ?_, ?_, ?_, ?_, ?_, ?_, ?_, ?_, ?_, ?_, ?_, ?_, trivial⟩
                · intro D uu w' K hD hF hl hS hK
                  simp only [puts, Act.put, List.setIfInBounds_toArray, List.set_cons_succ, List.set_cons_zero, Nat.zero_add, Nat.reduceAdd]
                  go_simp
                  simp only [yUpon]
                  exact hK _ _ rfl hS
                · intro D uu w' K hD hF hl hS hK
                  have f0 := (hF 0 (by kernel_rfl)).2
                  simp only at f0
                  simp only [puts, Act.put, List.setIfInBounds_toArray, List.set_cons_succ, List.set_cons_zero, Nat.zero_add, Nat.reduceAdd]
                  simp only [f0]
                  go_simp
                  simp only [yUpon]
                  refine (HBY.out _ hS).mono ?_
                  rintro e w1 ⟨z, rfl, hkk⟩
                  exact hK _ _ ⟨z, rfl⟩ (hS.grow hkk)
                · intro D uu w' K hD hF hl hS hK
                  simp only [puts, Act.put, List.setIfInBounds_toArray, List.set_cons_succ, List.set_cons_zero, Nat.zero_add, Nat.reduceAdd]
                  obtain ⟨_, z, hz⟩ := hF 1 (by kernel_rfl)
                  have hfd := HFD.out 1 (u : Int) z w'
                  simp only [hz]
                  go_simp
                  simp only [yUpon]
                  exact hK _ _ rfl hS
                · intro D uu w' K hD hF hl hS hK
                  simp only [puts, Act.put, List.setIfInBounds_toArray, List.set_cons_succ, List.set_cons_zero, Nat.zero_add, Nat.reduceAdd]
                  go_simp
                  simp only [yUpon]
                  exact hK _ _ rfl hS
                · intro D uu w' K hD hF hl hS hK
                  have f3 := (hF 3 (by kernel_rfl)).2
                  simp only at f3
                  simp only [puts, Act.put, List.setIfInBounds_toArray, List.set_cons_succ, List.set_cons_zero, Nat.zero_add, Nat.reduceAdd]
                  simp only [f3]
                  have x1 := (hS.blkM (HMEM.out _ HMB.out)).cell 1
                  simp at x1
                  go_simp
                  simp only [yUpon]
                  exact hK _ _ rfl hS
                · intro D uu w' K hD hF hl hS hK
                  have f2 := (hF 2 (by kernel_rfl)).2
                  simp only at f2
                  have f4 := (hF 4 (by kernel_rfl)).2
                  simp only at f4
                  simp only [puts, Act.put, List.setIfInBounds_toArray, List.set_cons_succ, List.set_cons_zero, Nat.zero_add, Nat.reduceAdd]
                  simp only [f2, f4]
                  go_simp
                  simp only [yUpon]
                  exact hK _ _ rfl hS
                · intro D uu w' K hD hF hl hS hK
                  have f5 := (hF 5 (by kernel_rfl)).2
                  simp only at f5
                  simp only [puts, Act.put, List.setIfInBounds_toArray, List.set_cons_succ, List.set_cons_zero, Nat.zero_add, Nat.reduceAdd]
                  simp only [f5]
                  go_simp
                  simp only [yUpon]
                  exact hK _ _ rfl hS
                · intro D uu w' K hD hF hl hS hK
                  have f6 := (hF 6 (by kernel_rfl)).2
                  simp only at f6
                  simp only [puts, Act.put, List.setIfInBounds_toArray, List.set_cons_succ, List.set_cons_zero, Nat.zero_add, Nat.reduceAdd]
                  simp only [f6]
                  go_simp
                  simp only [yUpon]
                  exact hK _ _ rfl hS
                · intro D uu w' K hD hF hl hS hK
                  have f6 := (hF 6 (by kernel_rfl)).2
                  simp only at f6
                  have f7 := (hF 7 (by kernel_rfl)).2
                  simp only at f7
                  simp only [puts, Act.put, List.setIfInBounds_toArray, List.set_cons_succ, List.set_cons_zero, Nat.zero_add, Nat.reduceAdd]
                  simp only [f6, f7]
                  go_simp
                  simp only [yUpon]
                  refine (HBZ.out _ hS).mono ?_
                  rintro e w1 ⟨z, rfl, hkk⟩
                  exact hK _ _ ⟨z, rfl⟩ (hS.grow hkk)
                · intro D uu w' K hD hF hl hS hK
                  have f6 := (hF 6 (by kernel_rfl)).2
                  simp only at f6
                  simp only [puts, Act.put, List.setIfInBounds_toArray, List.set_cons_succ, List.set_cons_zero, Nat.zero_add, Nat.reduceAdd]
                  simp only [f6]
                  obtain ⟨_, z, hz⟩ := hF 8 (by kernel_rfl)
                  have hfd := HFD.out 1 0 z w'
                  simp only [hz]
                  go_simp
                  simp only [yUpon]
                  exact hK _ _ rfl hS
                · intro D uu w' K hD hF hl hS hK
                  have f6 := (hF 6 (by kernel_rfl)).2
                  simp only at f6
                  have f9 := (hF 9 (by kernel_rfl)).2
                  simp only at f9
                  simp only [puts, Act.put, List.setIfInBounds_toArray, List.set_cons_succ, List.set_cons_zero, Nat.zero_add, Nat.reduceAdd]
                  simp only [f6, f9]
                  go_simp
                  simp only [yUpon]
                  exact hK _ _ rfl hS
                · intro D uu w' K hD hF hl hS hK
                  have f6 := (hF 6 (by kernel_rfl)).2
                  simp only at f6
                  have f10 := (hF 10 (by kernel_rfl)).2
                  simp only at f10
                  simp only [puts, Act.put, List.setIfInBounds_toArray, List.set_cons_succ, List.set_cons_zero, Nat.zero_add, Nat.reduceAdd]
                  simp only [f6, f10]
                  go_simp
                  simp only [yUpon]
                  exact hK _ _ rfl hS
                · intro D uu w' K hD hF hl hS hK
                  have f11 := (hF 11 (by kernel_rfl)).2
                  simp only at f11
                  simp only [puts, Act.put, List.setIfInBounds_toArray, List.set_cons_succ, List.set_cons_zero, Nat.zero_add, Nat.reduceAdd]
                  simp only [f11]
                  go_simp
                  simp only [yUpon]
                  exact hK _ _ rfl hS
              case fin =>
                intro D uu wf hall hS
                have v12 := (hall 12 (by simp)).2
                simp only at v12
                have HS := Lib.hid hS
                clear hall hS
                simp only [puts, Act.put, List.setIfInBounds_toArray, List.set_cons_succ, List.set_cons_zero, Nat.zero_add, Nat.reduceAdd]
                simp only [v12]
                clear v12
                go_wp2
                go_ret
                exact ⟨rfl, HS.out.keep⟩

theorem CheneyAll.walk {v1 v2 : Value} {w : World} (l r s : Int) (h : (lowest .u16 ≤ l ∧ l ≤ greatest .u16) ∧ (lowest .u16 ≤ r ∧ r ≤ greatest .u16) ∧ (lowest .u16 ≤ s ∧ s ≤ greatest .u16)) (hl1 : List HV) (hm1 : RdH w v1 hl1) (ho1 : ∀ x ∈ hl1, x.Ok) (hn1 : hl1.length ≤ maxLen) (xs2 : List Int) (hr2 : Rd w v2 (xs2.map (Value.int .u16))) (hb2 : ∀ x ∈ xs2, lowest .u16 ≤ x ∧ x ≤ greatest .u16) (hn2 : xs2.length ≤ maxLen) (a3 : Bool) :
    Calls Try.prog 4 #[.agg #[.int .u16 l, .int .u16 r, .int .u16 s], v1, v2, .bool a3] w fun e w' => e = .returned (.bool true) ∧ Below w.heap.size w w' := by
  obtain ⟨⟨l0, l1⟩, ⟨r0, r1⟩, s0, s1⟩ := h
  have hb2' : ∀ x ∈ xs2, 0 ≤ x ∧ x ≤ 65535 := fun x hx => by have := hb2 x hx; simpa [lowest, greatest] using this
  simp [lowest, greatest] at l0 l1 r0 r1 s0 s1
  exact (CheneyAll.core l r s v1 hl1 v2 xs2 a3 w l0 l1 r0 r1 s0 s1 hm1 ho1 hn1 hr2 hb2' hn2).mono fun e w' ⟨he, hk⟩ => ⟨he, hk.below⟩
end Go.Proofs.Ytbdomdmnjclpdaa
