/-
  Package reach: the closure that sees a word.
  Package reach: From, as an iterator.
  Package reach: From, Size.
-/
import Derived.Test.YtbdomdmnjclpdaaReachP
import Derived.Test.YtbdomdmnjclpdaaRowN
import Derived.Test.YtbdomdmnjclpdaaWalk
import Derived.WalkMore
import Derived.Laws.EntriesVeiled
import Derived.Test.YtbdomdmnjclpdaaLoopF
import Derived.Sort.CutIn
import Derived.Test.YtbdomdmnjclpdaaRelIn
set_option linter.unusedSimpArgs false
set_option linter.unusedVariables false
set_option maxRecDepth 100000
namespace Go.Proofs.Ytbdomdmnjclpdaa
open Go.RowKit Go.Shelf

attribute [local go_sem] Oper.semAt_some

/-- A map whose keys are words. -/
def mapU (g : Nat) (m : Int → Option Value) : Res := ⟨[g], fun w => IMap w g .u64 m, fun w h k hk => by simp at hk; subst hk; exact h.lt, fun w w' h e => h.same (e g (by simp))⟩
def seenM (L : List Int) : Int → Option Value := fun j => if j ∈ L then some (.agg #[]) else none
theorem seenM_snoc (L : List Int) (x : Int) : mset (seenM L) x (.agg #[]) = seenM (L ++ [x]) := by
  funext j
  unfold mset seenM
  by_cases h : j = x
  · subst h; simp
  · simp [h]
def obOf (t : St) (x : Int) : List Value := [.int .i64 (headOf (t.nw x.toNat)).1, .int .i64 (headOf (t.nw x.toNat)).2.1, .int .i64 x]
def obsOf (t : St) (L : List Int) : List Value := L.flatMap (obOf t)
theorem obsOf_snoc (t : St) (L : List Int) (x : Int) : obsOf t (L ++ [x]) = obsOf t L ++ obOf t x := by simp [obsOf]
theorem obsOf_cons (t : St) (L : List Int) (x : Int) : obsOf t (x :: L) = obOf t x ++ obsOf t L := by simp [obsOf]
theorem obsOf_length (t : St) : ∀ L, (obsOf t L).length = L.length * 3
  | [] => rfl
  | x :: L => by rw [obsOf_cons, List.length_append, obsOf_length t L]; simp [obOf]; omega
theorem u_seenU : Try.prog.underlying 109 = some (.map 38 111) := by kernel_rfl
theorem u_u64 : Try.prog.underlying 38 = some (.int .u64) := by kernel_rfl
theorem zero_es (w : World) : (zeroValue 111).run Try.prog w = .ok (.agg #[]) w := by kernel_rfl
theorem addrS (g i : Nat) : (⟨g, 0, none⟩ : Addr).add i = ⟨g, i, none⟩ := by unfold Addr.add; split <;> simp_all
/-- The seen words, the row. -/
abbrev seeT (t : St) (g6 mr g7 : Nat) (v : Value) (fd : List Int) (n : Nat) : List Res := [blkR g6 109 #[.map (some mr)], mapU mr (seenM fd), blkR g7 110 #[v], queueR 53 3 v (fd.length - n) (obsOf t (fd.drop n))]

set_option maxRecDepth 100000 in
set_option maxHeartbeats 8000000 in
theorem see_any {W : World} {S : List Nat} {A : List Res} (d : DevI) (t : St) (k : Kfg) (a u g6 mr g7 gb gk gd n : Nat) (x : Int) (v : Value) (fd : List Int) (RA : Option Addr) (RL RC : Nat) (w : World) (hk : k.Ok) (ha : a ≤ 1) (hu : u ≤ k.S) (hrg : t.rng) (hx : 0 ≤ x ∧ x ≤ 18446744073709551615)
    (hs : Sep W S (seeT t g6 mr g7 v fd n ++ A) w) (hn : n ≤ fd.length) (hfl : fd.length ≤ 100000)
    (h5 : Blk w gb 33 #[.int .i64 (a : Int), .int .i64 (u : Int), .slice RA RL RC]) (h3 : Blk w gk 30 #[.int .i64 (k.L : Int), .int .i64 (k.R : Int), .int .i64 (k.S : Int)]) (h4 : Blk w gd 28 #[.pointer (some ⟨d.b, 0, none⟩)]) (hd : Dev w d t) :
    Calls Try.prog 58 #[.int .u64 x, .pointer (some ⟨g6, 0, none⟩), .pointer (some ⟨gb, 0, none⟩), .pointer (some ⟨gk, 0, none⟩), .pointer (some ⟨gd, 0, none⟩), .pointer (some ⟨g7, 0, none⟩)] w fun e w' => (∃ r, e = .returned r) ∧ ∃ v', Sep W S (seeT t g6 mr g7 v' (seeF (isOb t k a u) fd x) n ++ A) w' := by
  have HS := Lib.hid hs
  have HK := Lib.hid hk
  have H5 := Lib.hid h5
  have H3 := Lib.hid h3
  have H4 := Lib.hid h4
  have HD := Lib.hid hd
  have HX := Lib.hid hx
  have HRG := Lib.hid hrg
  have hus : u ≤ 1000000000 := by have := hk.s1; omega
  have hfw := Kfg.from_words hk (show a ≤ 2 by omega)
  have hwl := Kfg.words_le hk
  have hkS : k.S ≤ 4096 := hk.s1
  clear hs hk h5 h3 h4 hd hx hrg
  have m0 := (HS.out.blk 0 rfl).cell 0
  simp at m0
  have hl := lookup_ok (P := Try.prog) (w := w) (T := 109) (HS.out.all 1 _ rfl : IMap w mr .u64 (seenM fd)) u_seenU u_u64 x (zero_es w)
  by_cases hin : x ∈ fd
  · have e1 : seenM fd x = some (.agg #[]) := by unfold seenM; rw [if_pos hin]
    rw [e1] at hl
    simp only [Option.getD_some, Option.isSome_some] at hl
    have hsf := seeF_old (G := isOb t k a u) hin
    rw [hsf]
    clear e1 hin hsf
    go_enter Try.func58, Try.ntmps58
    go_wp2
    exact bodyPost_ret (results_none rfl _ _ _) rfl ⟨⟨_, rfl⟩, v, (HS.out.new 111 #[]).init⟩
  · have e1 : seenM fd x = none := by unfold seenM; rw [if_neg hin]
    rw [e1] at hl
    simp only [Option.getD_none, Option.isSome_none] at hl
    obtain ⟨B, hB⟩ : ∃ B, hasB k a u x = B := ⟨_, rfl⟩
    have hh := fun w => has_is k a u x (.slice RA RL RC) w HK.out (by omega) hus HX.out
    rw [hB] at hh
    simp only [rbC, Kfg.cells] at hh
    have HH := Lib.hid hh
    have HIN := Lib.hid hin
    have HB := Lib.hid hB
    clear e1 hin hh hB
    go_enter Try.func58, Try.ntmps58
    go_upto_region 1 with fail
    have hk1 : Keep w.heap.size [] w (w.alloc (.cells #[] 111)) := (Keep.refl _ _ _).alloc (Nat.le_refl _) _
    replace H5 := Lib.hid (H5.out.keep hk1 H5.out.lt (by simp))
    replace H3 := Lib.hid (H3.out.keep hk1 H3.out.lt (by simp))
    replace H4 := Lib.hid (H4.out.keep hk1 H4.out.lt (by simp))
    replace HD := Lib.hid (HD.out.of_new hk1)
    replace HS := Lib.hid (HS.out.new 111 #[]).init
    clear hk1 hl m0
    generalize w.alloc _ = w1 at *
    have b0 := H5.out.cell 0
    have b1 := H5.out.cell 1
    have b2 := H5.out.cell 2
    have c0 := H3.out.cell 0
    have c1 := H3.out.cell 1
    have c2 := H3.out.cell 2
    have d0 := H4.out.cell 0
    simp at b0 b1 b2 c0 c1 c2 d0
    go_wp2_with fail
    refine (HH.out _).mono ?_
    rintro e w2 ⟨rfl, hkk⟩
    replace H5 := Lib.hid (H5.out.keep hkk H5.out.lt (by simp))
    replace H3 := Lib.hid (H3.out.keep hkk H3.out.lt (by simp))
    replace H4 := Lib.hid (H4.out.keep hkk H4.out.lt (by simp))
    replace HD := Lib.hid (HD.out.of_new hkk)
    replace HS := Lib.hid (HS.out.grow hkk)
    clear b0 b1 b2 c0 c1 c2 d0
    clear hkk HH
    cases B with
    | false =>
      have hsf := seeF_no (L := fd) (G := isOb t k a u) (x := x) (by unfold isOb; rw [HB.out]; rfl)
      have HSF := Lib.hid hsf
      clear hsf
      go_wp2
      exact bodyPost_ret (results_none rfl _ _ _) rfl ⟨⟨_, rfl⟩, v, by rw [HSF.out]; exact HS.out⟩
    | true =>
      obtain ⟨p, rfl⟩ : ∃ p : Nat, x = (p : Int) := ⟨x.toNat, by have := HX.out; omega⟩
      have hpi := (hasB_iff k a u p).1 HB.out
      have hob := isOb_iff (t := t) hpi.1 hpi.2
      have hpw : IntKind.i64.wrap (p : Int) = (p : Int) := IntWalk.i64_in _ (by omega)
      have hxr := HRG.out.nw p
      have hd0 := headOf_ok (x := t.nw p) hxr.1
      have HPI := Lib.hid hpi
      have HXR := Lib.hid hxr
      clear HB HX hpi hxr
      by_cases hg : goodAt t (k.from_ a + u) p
      · rw [decide_eq_true hg] at hob
        have hsf := seeF_new (G := isOb t k a u) HIN.out hob
        have hon : obOf t (p : Int) = [.int .i64 (headOf (t.nw p)).1, .int .i64 (headOf (t.nw p)).2.1, .int .i64 (p : Int)] := by simp [obOf]
        obtain ⟨m, hm⟩ : ∃ m, (headOf (t.nw p)).1 = m := ⟨_, rfl⟩
        obtain ⟨b, hb⟩ : ∃ b, (headOf (t.nw p)).2.1 = b := ⟨_, rfl⟩
        have hof := fun w (hd : Dev w d t) => of_yes d t k a u p (k.from_ a + u) _ m b (.slice RA RL RC) w hd HK.out ha hu HPI.out rfl rfl HXR.out.1 HXR.out.2 (by rw [← hm, ← hb, ← hg.1]) (by rw [← hm]; exact hg.2)
        simp only [Kfg.cells, rbC] at hof
        rw [hm, hb] at hon
        have HOF := Lib.hid hof
        have HON := Lib.hid hon
        have HSF := Lib.hid hsf
        clear hof hon hsf hm hb hg hob hd0
        have b0 := H5.out.cell 0
        have b1 := H5.out.cell 1
        have b2 := H5.out.cell 2
        have c0 := H3.out.cell 0
        have c1 := H3.out.cell 1
        have c2 := H3.out.cell 2
        have d0 := H4.out.cell 0
        simp at b0 b1 b2 c0 c1 c2 d0
        go_wp2_with fail
        refine (HOF.out _ HD.out).mono ?_
        rintro e w3 ⟨rfl, hkk⟩
        replace HS := Lib.hid (HS.out.grow hkk)
        clear b0 b1 b2 c0 c1 c2 d0
        clear hkk HOF
        go_upto_region 3 with fail
        replace HS := Lib.hid ((HS.out.new 53 #[.int .i64 m, .int .i64 b, .int .i64 (p : Int)]).perm List.perm_append_comm)
        generalize w3.alloc _ = w4 at *
        generalize w3.heap.size = go at *
        replace HS : Hid (Sep W S ([blkR go 53 #[.int .i64 m, .int .i64 b, .int .i64 (p : Int)]] ++ (seeT t g6 mr g7 v fd n ++ A)) w4) := HS
        obtain ⟨w5, hup, hm5, hk5, hsz5⟩ := update_keep (P := Try.prog) (w := w4) (HS.out.all 2 _ rfl : IMap w4 mr .u64 (seenM fd)) u_seenU u_u64 (p : Int) (.agg #[])
        have hs5 := HS.out.step (i := 2) rfl hk5 (r' := mapU mr (seenM (fd ++ [(p : Int)]))) (by rw [← seenM_snoc]; exact hm5) (fun _ h => .inl h)
        have m0 := (HS.out.blk 1 rfl).cell 0
        simp at m0
        obtain ⟨VA, VC, hvv⟩ := QOk.val (hs5.all 4 _ rfl : QOk w5 53 3 v (fd.length - n) (obsOf t (fd.drop n)))
        subst hvv
        replace HS := Lib.hid hs5
        clear hm5 hk5 hsz5 hs5
        have o0 := (HS.out.blk 0 rfl).cell 0
        simp at o0
        have o1 := (HS.out.blk 0 rfl).cell 1
        simp at o1
        have o2 := (HS.out.blk 0 rfl).cell 2
        simp at o2
        have r0 := (HS.out.blk 3 rfl).cell 0
        simp at r0
        go_wp2_with (at_builtin; refine of_stop ?_)
        unfold Stop
        clear o0 o1 o2 r0 m0 hup
        replace HS := Lib.hid (HS.out.new 53 #[.int .i64 m, .int .i64 b, .int .i64 (p : Int)])
        generalize w5.alloc _ = w6 at *
        obtain ⟨gn, hgn⟩ : ∃ gn, w5.heap.size = gn := ⟨_, rfl⟩
        rw [hgn] at HS
        simp only [hgn]
        clear hgn
        have hc := HS.out.last.cell
        refine wpList_appendQ HS.out 4 rfl rfl _ _ 110 rfl rfl (z := .agg #[.int .i64 0, .int .i64 0, .int .i64 0]) (bytes := 24) (by kernel_rfl) rfl (by decide) (by decide) rfl ⟨gn, 0, none⟩ 1 1 [.int .i64 m, .int .i64 b, .int .i64 (p : Int)] rfl rfl (by decide) (fun i u hu => by rw [addrS, hc]; simpa using hu) (fun u hu => by simp at hu; rcases hu with rfl | rfl | rfl <;> rfl) (by omega) ?_
        intro v' w7 hS
        obtain ⟨VA2, VC2, hvv⟩ := QOk.val (hS.all 4 _ rfl : QOk w7 53 3 v' (fd.length - n + 1) _)
        subst hvv
        have hl1 : (fd ++ [(p : Int)]).length - n = fd.length - n + 1 := by rw [List.length_append]; simp; omega
        have hl2 : obsOf t ((fd ++ [(p : Int)]).drop n) = obsOf t (fd.drop n) ++ [.int .i64 m, .int .i64 b, .int .i64 (p : Int)] := by
          rw [List.drop_append_of_le_length hn, obsOf_snoc, HON.out]
        rw [← hl2, ← hl1] at hS
        have HL1 := Lib.hid hl1
        replace HS := Lib.hid hS
        clear hS hc hl1 hl2
        have r0 := (HS.out.blk 3 rfl).cell 0
        simp at r0
        have z0 := (HS.out.blk 3 rfl).frozen 0
        have hs2 := HS.out.put (i := 3) rfl 0 (.slice VA2 (fd.length - n + 1) VC2)
        have HS2 := Lib.hid hs2
        clear hs2
        go_wp2
        go_end0
        refine ⟨⟨_, rfl⟩, .slice VA2 (fd.length - n + 1) VC2, ?_⟩
        rw [HSF.out]
        rw [HL1.out] at HS2
        have h8 := HS2.out.tail
        exact Sep.init (A := seeT t g6 mr g7 (.slice VA2 (fd.length - n + 1) VC2) (fd ++ [(p : Int)]) n ++ A) (by simp only [seeT, HL1.out]; exact h8)
      · rw [decide_eq_false hg] at hob
        have hsf := seeF_no (L := fd) (G := isOb t k a u) (x := (p : Int)) hob
        have HSF := Lib.hid hsf
        have hbad : (headOf (t.nw p)).2.2 = false ∨ ((k.from_ a + u : Nat) : Int) - (p : Int) < (headOf (t.nw p)).1 + 1 := by
          unfold goodAt at hg
          cases h : (headOf (t.nw p)).2.2 with
          | false => exact .inl rfl
          | true => exact .inr (by rw [h] at hg; simp only [true_and] at hg; omega)
        have hof := fun w (hd : Dev w d t) => of_bad d t k a u p (k.from_ a + u) _ _ _ _ (.slice RA RL RC) w hd HK.out ha hu HPI.out rfl rfl HXR.out.1 HXR.out.2 rfl hbad
        simp only [Kfg.cells, rbC] at hof
        have HOF := Lib.hid hof
        clear hof hbad hsf hob hg hd0
        have b0 := H5.out.cell 0
        have b1 := H5.out.cell 1
        have b2 := H5.out.cell 2
        have c0 := H3.out.cell 0
        have c1 := H3.out.cell 1
        have c2 := H3.out.cell 2
        have d0 := H4.out.cell 0
        simp at b0 b1 b2 c0 c1 c2 d0
        go_wp2_with fail
        refine (HOF.out _ HD.out).mono ?_
        rintro e w3 ⟨rfl, hkk⟩
        replace HS := Lib.hid (HS.out.grow hkk)
        clear b0 b1 b2 c0 c1 c2 d0
        clear hkk HOF
        go_wp2
        go_end0
        exact ⟨⟨_, rfl⟩, v, by rw [HSF.out]; exact (HS.out.new 53 #[.int .i64 0, .int .i64 0, .int .i64 0]).init⟩
end Go.Proofs.Ytbdomdmnjclpdaa
set_option linter.unusedSimpArgs false
set_option linter.unusedVariables false
set_option maxRecDepth 100000
namespace Go.Proofs.Ytbdomdmnjclpdaa
open Go.RowKit Go.Shelf

attribute [local go_sem] Oper.semAt_some

section
variable {Fr : FuncId → Prop} {P : Program} {Q : Exit → Act → World → Prop} {a : Act} {w : World} {c : Code}
theorem loopN_mono : ∀ {n m : Nat}, n ≤ m → ∀ {a : Act} {w : World}, loopN Fr P c Q n a w → loopN Fr P c Q m a w
  | 0, _, _, _, _, h => h.elim
  | n + 1, 0, h, _, _, _ => by omega
  | n + 1, m + 1, h, a, w, hl => wpFr_mono (Q := Exit.then (loopN Fr P c Q n) Q) hl fun e a w hq => by
    cases e with
    | normal => exact loopN_mono (by omega) hq
    | _ => exact hq
/-- A loop by its measure. -/
theorem wpFr_loopI (R : Nat → Act → World → Prop) (h : ∀ n a w, R n a w → wpFr Fr P c (Exit.then (fun a' w' => ∃ m, m < n ∧ R m a' w') Q) a w) {n : Nat} (hR : R n a w) : wpFr Fr P (.loop c) Q a w := by
  refine wpFr_loopN (n + 1) ?_
  have key : ∀ n a w, R n a w → loopN Fr P c Q (n + 1) a w := by
    intro n
    induction n using Nat.strongRecOn with
    | ind n ih =>
      intro a w hr
      refine wpFr_mono (h n a w hr) fun e a w hq => ?_
      cases e with
      | normal =>
        obtain ⟨m, hm, hr2⟩ := hq
        exact loopN_mono (show m + 1 ≤ n by omega) (ih m hm a w hr2)
      | _ => exact hq
  exact key n a w hR
end
theorem wpFr_seqF {Fr : FuncId → Prop} {P : Program} {Q : Exit → Act → World → Prop} {a : Act} {w : World} {x y : Code}
    (h : ∀ K : Act → World → Prop, (∀ a w, wpFr Fr P y Q a w → K a w) → x.wp P (Exit.then K Q) a w) : wpFr Fr P (.seq x y) Q a w :=
  wpFr_seq (wpFr_of_wp (h _ fun _ _ h => h))
abbrev dR (D : Nat) : Res := objR D (.deferred (some []))
theorem Sep.left {W w : World} {S : List Nat} {A B : List Res} (h : Sep W S (A ++ B) w) : Sep W S A w := by
  have := h.take A.length
  rwa [List.take_left] at this
theorem perm_mid (A L X : List Res) : ((A ++ L) ++ X).Perm (L ++ (A ++ X)) := by
  have h := (List.perm_append_comm (l₁ := A) (l₂ := L)).append_right X
  simpa [List.append_assoc] using h
theorem perm_done (A g Y : List Res) (d r : Res) : (A ++ (g ++ Y) ++ [d, r]).Perm ((A ++ (d :: Y)) ++ (g ++ [r])) := by
  simp only [List.append_assoc]
  refine List.Perm.append_left A ?_
  refine (List.perm_append_comm (l₁ := g) (l₂ := Y ++ [d, r])).trans ?_
  rw [List.append_assoc]
  refine (List.Perm.append_left Y (t₂ := d :: (g ++ [r])) ?_).trans ?_
  · exact List.Perm.cons d (List.perm_append_comm (l₁ := [r]) (l₂ := g))
  · exact List.perm_middle
/-- Leaving behind many ranges over functions. -/
theorem leave_marks {W0 : World} {S : List Nat} {L : List Res} {P : Program} {fn : Func} {tmps : Array Value} {R : Ending → World → Prop} {u : FrameMode} (hu : u ≠ .run) : ∀ (Ds : List Nat) (w : World), Sep W0 S (Ds.map dR ++ L) w → (∀ w', Sep W0 S L w' → LeavesInM Fence.wide 0 P fn tmps R [] u w') → LeavesInM Fence.wide 0 P fn tmps R (Ds.map markOf) u w
  | [], w, hs, h => h w hs
  | D :: Ds, w, hs, h => by
    have h1 : w.heap[D]? = some (.deferred (some [])) := hs.all 0 _ rfl
    have h2 := (hs.putObj (i := 0) rfl (.deferred none)).tail
    exact ⟨hu, .inl ⟨D, _, rfl, run_takeDeferred h1, leave_marks hu Ds _ h2 h⟩⟩
theorem seenM_nil : seenM [] = fun _ => none := by funext j; simp [seenM]
theorem addrF (g off i : Nat) : (⟨g, off, none⟩ : Addr).add i = ⟨g, off + i, none⟩ := by unfold Addr.add; split <;> simp_all
/-- What reads are asked for. -/
def FromR (d : DevI) (t : St) (k : Kfg) (a u gb gk gd gw : Nat) (RA : Option Addr) (RL RC : Nat) (wv : Value) (ws : List Int) (W : World) : Prop :=
  Blk W gb 33 #[.int .i64 (a : Int), .int .i64 (u : Int), .slice RA RL RC] ∧ Blk W gk 30 #[.int .i64 (k.L : Int), .int .i64 (k.R : Int), .int .i64 (k.S : Int)] ∧ Blk W gd 28 #[.pointer (some ⟨d.b, 0, none⟩)] ∧ Blk W gw 31 #[wv] ∧ Rd W wv (uw ws) ∧ Dev W d t

/-- Ahead of a round of From's second loop. -/
def FromL (t : St) (G : Int → Bool) (ws : List Int) (N : Nat) (W0 : World) (S : List Nat) (B : Nat → List Res → Prop) (l gb gk gd gw g6 mr g7 g8 n : Nat) (a : Act) (w : World) : Prop :=
  ∃ (j : Nat) (v : Value) (L : List Res) (Ds : List Nat) (z5 z9 z10 z11 z12 z13 z14 z15 z16 z17 z18 z19 z20 z21 z22 z23 z24 z25 z26 z27 z28 z29 z30 z31 z32 z33 z34 z35 z36 z37 z38 z39 z40 z41 z42 z43 z44 z45 z46 : Value), a = { tmps := #[.func (.yield l) #[] #[], .pointer (some ⟨gb, 0, none⟩), .pointer (some ⟨gk, 0, none⟩), .pointer (some ⟨gd, 0, none⟩), .pointer (some ⟨gw, 0, none⟩), z5, .pointer (some ⟨g6, 0, none⟩), .pointer (some ⟨g7, 0, none⟩), .pointer (some ⟨g8, 0, none⟩), z9, z10, z11, z12, z13, z14, z15, z16, z17, z18, z19, z20, z21, z22, z23, z24, z25, z26, z27, z28, z29, z30, z31, z32, z33, z34, z35, z36, z37, z38, z39, z40, z41, z42, z43, z44, z45, z46], defers := Ds.map markOf } ∧ j ≤ N ∧ n = N - j ∧ B j L ∧ Sep W0 S (seeT t g6 mr g7 v (foF G (nmsOf t) ws j) j ++ (blkR g8 113 #[.func (.func 58) #[] #[.pointer (some ⟨g6, 0, none⟩), .pointer (some ⟨gb, 0, none⟩), .pointer (some ⟨gk, 0, none⟩), .pointer (some ⟨gd, 0, none⟩), .pointer (some ⟨g7, 0, none⟩)]] :: (Ds.map dR ++ L))) w
set_option maxRecDepth 100000 in
set_option maxHeartbeats 8000000 in
theorem from_seq (d : DevI) (t : St) (k : Kfg) (a u gb gk gd gw : Nat) (RA : Option Addr) (RL RC : Nat) (wv : Value) (ws : List Int) (hk : k.Ok) (ha : a ≤ 1) (hu : u ≤ k.S) (hrg : t.rng) (hws : ∀ x ∈ ws, 0 ≤ x ∧ x ≤ 18446744073709551615) (hwl : ws.length ≤ 1000000)
    (hnm : ∀ p, k.from_ a ≤ p → goodAt t (k.from_ a + u) p → ∀ i, i < (headOf (t.nw p)).2.1.toNat → 0 ≤ t.nw (p + 1 + i) ∧ t.nw (p + 1 + i) ≤ 9223372036854775807) :
    SeqS 57 #[.pointer (some ⟨gb, 0, none⟩), .pointer (some ⟨gk, 0, none⟩), .pointer (some ⟨gd, 0, none⟩), .pointer (some ⟨gw, 0, none⟩)] (fun j => #[.agg (obOf t ((reachF (isOb t k a u) (nmsOf t) ws u).getD j 0)).toArray]) (reachF (isOb t k a u) (nmsOf t) ws u).length
      (fun _ W => FromR d t k a u gb gk gd gw RA RL RC wv ws W) := by
  intro l W0 S B Bx Bp w hRR hY h0
  obtain ⟨L0, hb0, hs0⟩ := h0
  have HRR := Lib.hid hRR
  have HY := Lib.hid hY
  have HB0 := Lib.hid hb0
  have HS := Lib.hid hs0
  have HK := Lib.hid hk
  have HRG := Lib.hid hrg
  have HNM := Lib.hid hnm
  have HWS := Lib.hid hws
  have hkS : k.S ≤ 4096 := hk.s1
  have hfw := Kfg.from_words hk (a := a) (by omega)
  have hB := fun L h => Fine.le (t := t) (k := k) (a := a) (u := u) L h
  obtain ⟨G, hG⟩ : ∃ G, isOb t k a u = G := ⟨_, rfl⟩
  rw [hG] at hB HY HRR
  rw [hG]
  obtain ⟨Rch, hRc⟩ : ∃ Rch, reachF G (nmsOf t) ws u = Rch := ⟨_, rfl⟩
  rw [hRc] at HY HRR
  rw [hRc]
  have HB := Lib.hid hB
  have HG := Lib.hid hG
  have HRC := Lib.hid hRc
  clear hRR hY hb0 hs0 hk hrg hnm hws hB hG hRc
  refine calls_of_wpFr Try.func57 rfl ?_
  simp only [Try.ntmps57, List.size_toArray, List.length_cons, List.length_nil, Nat.reduceAdd, Nat.reduceSub, Array.replicate_succ,
   Array.replicate_zero, List.push_toArray, List.append_toArray, List.nil_append, List.cons_append]
  refine wpFr_seq (wpFr_of_wp ?_)
  have hmm := @run_makeMap Try.prog
  go_wp2
  clear hmm
  replace HS := Lib.hid ((HS.out.add ((Keep.refl _ _ _).alloc (Nat.le_refl _) _) (r := mapU w.heap.size (seenM [])) (by rw [seenM_nil]; exact IMap.new w .u64) (by simp [mapU])).new 109 #[.map (some w.heap.size)])
  simp only [World.size_alloc] at HS
  generalize (w.alloc _).alloc _ = w1 at *
  generalize w.heap.size = mr at *
  generalize mr + 1 = g6 at *
  refine wpFr_seq (wpFr_of_wp ?_)
  go_wp2
  replace HS := Lib.hid ((HS.out.new 110 #[.slice none 0 0]).nilQ 53 3)
  generalize w1.alloc _ = w2 at *
  generalize w1.heap.size = g7 at *
  refine wpFr_seq (wpFr_of_wp ?_)
  go_wp2
  replace HS := Lib.hid (HS.out.new 113 #[.func (.func 58) #[] #[.pointer (some ⟨g6, 0, none⟩), .pointer (some ⟨gb, 0, none⟩), .pointer (some ⟨gk, 0, none⟩), .pointer (some ⟨gd, 0, none⟩), .pointer (some ⟨g7, 0, none⟩)]])
  generalize w2.alloc _ = w3 at *
  generalize w2.heap.size = g8 at *
  have hp : Sep W0 S (seeT t g6 mr g7 (.slice none 0 0) [] 0 ++ (blkR g8 113 #[.func (.func 58) #[] #[.pointer (some ⟨g6, 0, none⟩), .pointer (some ⟨gb, 0, none⟩), .pointer (some ⟨gk, 0, none⟩), .pointer (some ⟨gd, 0, none⟩), .pointer (some ⟨g7, 0, none⟩)]] :: L0)) w3 := HS.out.perm (by
    have h1 : (seeT t g6 mr g7 (.slice none 0 0) [] 0 ++ (blkR g8 113 #[.func (.func 58) #[] #[.pointer (some ⟨g6, 0, none⟩), .pointer (some ⟨gb, 0, none⟩), .pointer (some ⟨gk, 0, none⟩), .pointer (some ⟨gd, 0, none⟩), .pointer (some ⟨g7, 0, none⟩)]] :: L0)) = [blkR g6 109 #[.map (some mr)], mapU mr (seenM []), blkR g7 110 #[.slice none 0 0], queueR 53 3 (.slice none 0 0) 0 [], blkR g8 113 #[.func (.func 58) #[] #[.pointer (some ⟨g6, 0, none⟩), .pointer (some ⟨gb, 0, none⟩), .pointer (some ⟨gk, 0, none⟩), .pointer (some ⟨gd, 0, none⟩), .pointer (some ⟨g7, 0, none⟩)]]] ++ L0 := rfl
    rw [h1]
    simp only [List.append_assoc]
    refine List.perm_append_comm.trans (List.Perm.append_right L0 ?_)
    simp only [List.cons_append, List.nil_append]
    exact List.Perm.swap _ _ _)
  replace HS := Lib.hid hp
  clear hp
  refine wpFr_seqF fun K hK => ?_
  refine (show Code.wp _ _ (Exit.then K _) _ _ from ?_)
  obtain ⟨q1, q2, q3, q4, q5, q6⟩ := HRR.out 0 L0 (seeT t g6 mr g7 (.slice none 0 0) [] 0 ++ [blkR g8 113 #[.func (.func 58) #[] #[.pointer (some ⟨g6, 0, none⟩), .pointer (some ⟨gb, 0, none⟩), .pointer (some ⟨gk, 0, none⟩), .pointer (some ⟨gd, 0, none⟩), .pointer (some ⟨g7, 0, none⟩)]]]) _ (by omega) HB0.out (Sep.perm (L := (seeT t g6 mr g7 (.slice none 0 0) [] 0 ++ [blkR g8 113 #[.func (.func 58) #[] #[.pointer (some ⟨g6, 0, none⟩), .pointer (some ⟨gb, 0, none⟩), .pointer (some ⟨gk, 0, none⟩), .pointer (some ⟨gd, 0, none⟩), .pointer (some ⟨g7, 0, none⟩)]]]) ++ L0) HS.out List.perm_append_comm)
  obtain ⟨WA, WC, hwv, _⟩ := q5.cellAt
  subst hwv
  have y0 := q4.cell 0
  simp at y0
  clear q1 q2 q3 q4 q5 q6
  go_wp2_with fail
  clear y0
  go_loopw [10, 18] (fun _ v18 wr => ∃ (i : Nat) (v : Value), i ≤ ws.length ∧ v18 = .int .i64 (i : Int) ∧ Sep W0 S (seeT t g6 mr g7 v ((ws.take i).foldl (seeF G) []) 0 ++ (blkR g8 113 #[.func (.func 58) #[] #[.pointer (some ⟨g6, 0, none⟩), .pointer (some ⟨gb, 0, none⟩), .pointer (some ⟨gk, 0, none⟩), .pointer (some ⟨gd, 0, none⟩), .pointer (some ⟨g7, 0, none⟩)]] :: L0)) wr) (fun _ v18 _ => ws.length - (intOf v18).toNat)
  case atStart => exact ⟨0, _, by omega, rfl, HS.out⟩
  case round =>
    clear HS
    obtain ⟨i, v, hi, rfl, hs⟩ := hrel
    have HS := Lib.hid hs
    clear hs
    by_cases hlt : i < ws.length
    · have hltI : (i : Int) < (ws.length : Int) := by omega
      obtain ⟨q1, q2, q3, q4, q5, q6⟩ := HRR.out 0 L0 (seeT t g6 mr g7 v ((ws.take i).foldl (seeF G) []) 0 ++ [blkR g8 113 #[.func (.func 58) #[] #[.pointer (some ⟨g6, 0, none⟩), .pointer (some ⟨gb, 0, none⟩), .pointer (some ⟨gk, 0, none⟩), .pointer (some ⟨gd, 0, none⟩), .pointer (some ⟨g7, 0, none⟩)]]]) _ (by omega) HB0.out (Sep.perm (L := (seeT t g6 mr g7 v ((ws.take i).foldl (seeF G) []) 0 ++ [blkR g8 113 #[.func (.func 58) #[] #[.pointer (some ⟨g6, 0, none⟩), .pointer (some ⟨gb, 0, none⟩), .pointer (some ⟨gk, 0, none⟩), .pointer (some ⟨gd, 0, none⟩), .pointer (some ⟨g7, 0, none⟩)]]]) ++ L0) HS.out List.perm_append_comm)
      obtain ⟨x, hx⟩ : ∃ x, ws[i]? = some x := ⟨_, List.getElem?_eq_getElem hlt⟩
      have hxw := HWS.out x (List.mem_of_getElem? hx)
      obtain ⟨A', c', hA, hcs⟩ := q5.cellAt
      injection hA with e1 e2 e3
      subst e1
      obtain ⟨g, off, rfl, k0⟩ := hcs i hlt
      rw [List.getD_eq_getElem?_getD, hx] at k0
      simp only [Option.getD_some] at k0
      have htk : (ws.take (i + 1)).foldl (seeF G) [] = seeF G ((ws.take i).foldl (seeF G) []) x := by rw [List.take_add_one, hx]; simp
      have hfl : ((ws.take i).foldl (seeF G) []).length ≤ 100000 := by have := HB.out _ (Fine.foldl (G := G) (ws.take i) (L := []) ⟨List.nodup_nil, by simp⟩); omega
      have hsee := see_any (A := blkR g8 113 #[.func (.func 58) #[] #[.pointer (some ⟨g6, 0, none⟩), .pointer (some ⟨gb, 0, none⟩), .pointer (some ⟨gk, 0, none⟩), .pointer (some ⟨gd, 0, none⟩), .pointer (some ⟨g7, 0, none⟩)]] :: L0) d t k a u g6 mr g7 gb gk gd 0 x v ((ws.take i).foldl (seeF G) []) RA RL RC _ HK.out ha hu HRG.out hxw HS.out (Nat.zero_le _) hfl q1 q2 q3 q6
      rw [HG.out, ← htk] at hsee
      have HSE := Lib.hid hsee
      clear q1 q2 q3 q4 q5 q6 hcs e2 e3 hx htk hfl hsee
      have m8 := (HS.out.blk 4 rfl).cell 0
      simp at m8
      go_wp2_with fail
      refine HSE.out.mono ?_
      rintro e wy ⟨⟨r, rfl⟩, v', hs'⟩
      replace HS := Lib.hid hs'
      clear hs' HSE m8 k0
      go_wp2
      exact ⟨⟨i + 1, v', by omega, by first | rfl | go_num | simp, HS.out⟩, by simp [intOf]; omega⟩
    · have hltI : ¬ (i : Int) < (ws.length : Int) := by omega
      obtain rfl : i = ws.length := by omega
      rw [List.take_length] at HS
      clear hlt hltI hi
      go_wp2
      refine wpFr_block (wpFr_loopI (FromL t G ws Rch.length W0 S B l gb gk gd gw g6 mr g7 g8) ?round (n := Rch.length) (by unfold FromL; exact ⟨0, v, L0, [], _, _, _, _, _, _, _, _, _, _, _, _, _, _, _, _, _, _, _, _, _, _, _, _, _, _, _, _, _, _, _, _, _, _, _, _, _, _, _, rfl, by omega, rfl, HB0.out, HS.out⟩))
      clear HS
      rintro _ _ wr ⟨j, vv, L, Ds, z5, z9, z10, z11, z12, z13, z14, z15, z16, z17, z18, z19, z20, z21, z22, z23, z24, z25, z26, z27, z28, z29, z30, z31, z32, z33, z34, z35, z36, z37, z38, z39, z40, z41, z42, z43, z44, z45, z46, rfl, hj, rfl, hb, hs⟩
      have HS := Lib.hid hs
      have HBL := Lib.hid hb
      clear hs hb
      have hfl : (foF G (nmsOf t) ws j).length ≤ 100000 := by have := HB.out _ (Fine.fo (G := G) (nm := nmsOf t) (ws := ws) j); omega
      obtain ⟨VA, VC, hvv⟩ := QOk.val (HS.out.all 3 _ rfl : QOk wr 53 3 vv ((foF G (nmsOf t) ws j).length - j) _)
      subst hvv
      refine wpFr_seqF fun K hK => ?_
      have r0 := (HS.out.blk 2 rfl).cell 0
      simp at r0
      by_cases hlt : j < (foF G (nmsOf t) ws j).length
      · have hltI : (0 : Int) < (((foF G (nmsOf t) ws j).length - j : Nat) : Int) := by omega
        have hltN : 0 < (foF G (nmsOf t) ws j).length - j := by omega
        have hjN : j < Rch.length := by
          have := (foF_reach (nm := nmsOf t) (ws := ws) HB.out (by rw [HRC.out]; exact hj)).length_le
          rw [HRC.out] at this
          omega
        obtain ⟨x, hx1, hx2⟩ := foF_at (nm := nmsOf t) (ws := ws) HB.out (by rw [HRC.out]; exact hjN)
        rw [HRC.out] at hx2
        have hdr : (foF G (nmsOf t) ws j).drop j = x :: (foF G (nmsOf t) ws j).drop (j + 1) := by
          rw [List.drop_eq_getElem_cons hlt]
          congr 1
          rw [List.getElem?_eq_getElem hlt] at hx1
          exact Option.some.inj hx1
        obtain ⟨nq, hnq⟩ : ∃ nq, (foF G (nmsOf t) ws j).length - (j + 1) = nq := ⟨_, rfl⟩
        have hnq1 : (foF G (nmsOf t) ws j).length - j = nq + 1 := by omega
        have hq : QOk wr 53 3 (.slice VA (nq + 1) VC) (nq + 1) (obOf t x ++ obsOf t ((foF G (nmsOf t) ws j).drop (j + 1))) := by
          have := (HS.out.all 3 _ rfl : QOk wr 53 3 (.slice VA ((foF G (nmsOf t) ws j).length - j) VC) ((foF G (nmsOf t) ws j).length - j) (obsOf t ((foF G (nmsOf t) ws j).drop j)))
          rw [hdr, obsOf_cons, hnq1] at this
          exact this
        obtain ⟨g, off, cap, hv, hc1, hcell, hq2⟩ := hq.pop rfl
        injection hv with q1 q2 q3
        subst q1 q3
        clear q2
        obtain ⟨m, hm⟩ : ∃ m, (headOf (t.nw x.toNat)).1 = m := ⟨_, rfl⟩
        obtain ⟨b, hb⟩ : ∃ b, (headOf (t.nw x.toNat)).2.1 = b := ⟨_, rfl⟩
        have hob : obOf t x = [.int .i64 m, .int .i64 b, .int .i64 x] := by unfold obOf; rw [hm, hb]
        rw [hob] at hcell
        have p0 := hcell 0 _ rfl
        have p1 := hcell 1 _ rfl
        have p2 := hcell 2 _ rfl
        simp only [Nat.add_zero] at p0
        have hgx : G x = true := (Fine.fo (G := G) (nm := nmsOf t) (ws := ws) j).2 x (List.mem_of_getElem? hx1)
        rw [hnq1] at r0 hltI hltN
        have hs2 := HS.out.step (i := 3) rfl (Keep.refl _ _ _) (r' := queueR 53 3 (.slice (some ⟨g, if VC = 1 then off else off + 3, none⟩) nq (VC - 1)) nq (obsOf t ((foF G (nmsOf t) ws j).drop (j + 1)))) hq2 (fun y hy => .inl (by simpa [queueR, qBlk] using hy))
        have HX1 := Lib.hid hx1
        have HX2 := Lib.hid hx2
        have HOB := Lib.hid hob
        have HGX := Lib.hid hgx
        have HNQ := Lib.hid hnq
        have HNQ1 := Lib.hid hnq1
        have HMB : Hid ((headOf (t.nw x.toNat)).1 = m ∧ (headOf (t.nw x.toNat)).2.1 = b) := Lib.hid ⟨hm, hb⟩
        replace HS := Lib.hid hs2
        clear hs2 hx1 hx2 hdr hq hcell hq2 hm hb hob hgx hnq hnq1 hlt
        go_wp2
        clear r0 hltI hltN
        refine wpFr_block (wpFr_seq (wpFr_of_wp ?_))
        have r0 := (HS.out.blk 2 rfl).cell 0
        simp at r0
        rw [HNQ1.out] at r0
        go_wp2
        replace HS := Lib.hid ((HS.out.new 53 #[.int .i64 m, .int .i64 b, .int .i64 x]).perm List.perm_append_comm)
        generalize wr.alloc _ = w4 at *
        generalize wr.heap.size = go at *
        clear r0 p0 p1 p2
        obtain ⟨VQ, hVQ⟩ : ∃ VQ, Value.slice (some ⟨g, if VC = 1 then off else off + 3, none⟩) nq (VC - 1) = VQ := ⟨_, rfl⟩
        rw [hVQ] at HS
        refine wpFr_seqF fun K2 hK2 => ?_
        have HK2 := Lib.hid hK2
        have key : ∀ (z5 z9 z10 z12 z13 z14 z15 z16 z17 z18 z19 z20 z21 z22 z23 z24 z25 z26 z27 z28 z29 z30 z31 z32 z33 z34 z35 z36 z37 z38 z39 z40 z41 z42 z43 z44 z45 z46 : Value), K2 { tmps := #[.func (.yield l) #[] #[], .pointer (some ⟨gb, 0, none⟩), .pointer (some ⟨gk, 0, none⟩), .pointer (some ⟨gd, 0, none⟩), .pointer (some ⟨gw, 0, none⟩), z5, .pointer (some ⟨g6, 0, none⟩), .pointer (some ⟨g7, 0, none⟩), .pointer (some ⟨g8, 0, none⟩), z9, z10, .pointer (some ⟨go, 0, none⟩), z12, z13, z14, z15, z16, z17, z18, z19, z20, z21, z22, z23, z24, z25, z26, z27, z28, z29, z30, z31, z32, z33, z34, z35, z36, z37, z38, z39, z40, z41, z42, z43, z44, z45, z46], defers := Ds.map markOf } (w4.setCell ⟨g7, 0, none⟩ VQ) := by
          clear z5 z9 z10 z12 z13 z14 z15 z16 z17 z18 z19 z20 z21 z22 z23 z24 z25 z26 z27 z28 z29 z30 z31 z32 z33 z34 z35 z36 z37 z38 z39 z40 z41 z42 z43 z44 z45 z46
          intro z5 z9 z10 z12 z13 z14 z15 z16 z17 z18 z19 z20 z21 z22 z23 z24 z25 z26 z27 z28 z29 z30 z31 z32 z33 z34 z35 z36 z37 z38 z39 z40 z41 z42 z43 z44 z45 z46
          refine HK2.out _ _ ?_
          clear HK2 hK2 K2
          have hput := HS.out.put (i := 3) rfl 0 VQ
          have hs6 : Sep W0 S ((blkR go 53 #[.int .i64 m, .int .i64 b, .int .i64 x] :: (seeT t g6 mr g7 (VQ) (foF G (nmsOf t) ws j) (j + 1) ++ (blkR g8 113 #[.func (.func 58) #[] #[.pointer (some ⟨g6, 0, none⟩), .pointer (some ⟨gb, 0, none⟩), .pointer (some ⟨gk, 0, none⟩), .pointer (some ⟨gd, 0, none⟩), .pointer (some ⟨g7, 0, none⟩)]] :: Ds.map dR))) ++ L) (w4.setCell ⟨g7, 0, none⟩ VQ) := by
            simp only [seeT, HNQ.out]
            exact hput
          generalize w4.setCell ⟨g7, 0, none⟩ VQ = w5 at *
          replace HS := Lib.hid hs6
          clear hput hs6
          have hgd : Rch.getD j 0 = x := by rw [List.getD_eq_getElem?_getD, HX2.out]; rfl
          have hY := HY.out j L ((blkR go 53 #[.int .i64 m, .int .i64 b, .int .i64 x] :: (seeT t g6 mr g7 (VQ) (foF G (nmsOf t) ws j) (j + 1) ++ (blkR g8 113 #[.func (.func 58) #[] #[.pointer (some ⟨g6, 0, none⟩), .pointer (some ⟨gb, 0, none⟩), .pointer (some ⟨gk, 0, none⟩), .pointer (some ⟨gd, 0, none⟩), .pointer (some ⟨g7, 0, none⟩)]] :: Ds.map dR)))) w5 hjN HBL.out (HS.out.perm List.perm_append_comm)
          rw [hgd, HOB.out] at hY
          obtain ⟨fn, tmps, assign, body, hy, hR⟩ := hY
          clear hgd
          refine wpFr_seqF fun K3 hK3 => ?_
          have HK3 := Lib.hid hK3
          clear hK3
          have o0 := (HS.out.blk 0 rfl).cell 0
          simp at o0
          have o1 := (HS.out.blk 0 rfl).cell 1
          simp at o1
          have o2 := (HS.out.blk 0 rfl).cell 2
          simp at o2
          go_upto_region 11 with fail
          refine (wpIn_wide (n := 0)).1 (wpIn_region_lit ?_)
          gi_wp2
          refine ⟨rfl, hR.mono ?_⟩
          rintro e2 wy (⟨rfl, L', hb', hs'⟩ | ⟨rfl, L', hb', hs'⟩ | ⟨ch, rfl, L', hb', hs'⟩)
          rotate_left
          · clear hR hy o0 o1 o2
            have hs2 : Sep W0 S ((blkR go 53 #[.int .i64 m, .int .i64 b, .int .i64 x] :: (seeT t g6 mr g7 (VQ) (foF G (nmsOf t) ws j) (j + 1) ++ (blkR g8 113 #[.func (.func 58) #[] #[.pointer (some ⟨g6, 0, none⟩), .pointer (some ⟨gb, 0, none⟩), .pointer (some ⟨gk, 0, none⟩), .pointer (some ⟨gd, 0, none⟩), .pointer (some ⟨g7, 0, none⟩)]] :: Ds.map dR))) ++ L') wy := hs'.perm List.perm_append_comm
            have HS2 := Lib.hid hs2
            have HBX := Lib.hid hb'
            clear hs' hs2 hb'
            gi_wp2
            go_wp2
            exact leave_marks (W0 := W0) (S := S) (L := L') (by simp) Ds wy (HS2.out.dropN 6) (fun w' hs' => leave_none (results_none rfl _ _ _) (.inl ⟨⟨_, rfl⟩, .inr ⟨L', HBX.out, hs'⟩⟩))
          · clear hR hy o0 o1 o2
            have hs2 : Sep W0 S ((blkR go 53 #[.int .i64 m, .int .i64 b, .int .i64 x] :: (seeT t g6 mr g7 (VQ) (foF G (nmsOf t) ws j) (j + 1) ++ (blkR g8 113 #[.func (.func 58) #[] #[.pointer (some ⟨g6, 0, none⟩), .pointer (some ⟨gb, 0, none⟩), .pointer (some ⟨gk, 0, none⟩), .pointer (some ⟨gd, 0, none⟩), .pointer (some ⟨g7, 0, none⟩)]] :: Ds.map dR))) ++ L') wy := hs'.perm List.perm_append_comm
            have HS2 := Lib.hid hs2
            have HBX := Lib.hid hb'
            clear hs' hs2 hb'
            gi_wp2
            exact leave_marks (W0 := W0) (S := S) (L := L') (by simp) Ds wy (HS2.out.dropN 6) (fun w' hs' => .inr ⟨ch, rfl, L', HBX.out, hs'⟩)
          clear hR hy o0 o1 o2
          have hs2 : Sep W0 S ((blkR go 53 #[.int .i64 m, .int .i64 b, .int .i64 x] :: (seeT t g6 mr g7 (VQ) (foF G (nmsOf t) ws j) (j + 1) ++ (blkR g8 113 #[.func (.func 58) #[] #[.pointer (some ⟨g6, 0, none⟩), .pointer (some ⟨gb, 0, none⟩), .pointer (some ⟨gk, 0, none⟩), .pointer (some ⟨gd, 0, none⟩), .pointer (some ⟨g7, 0, none⟩)]] :: Ds.map dR))) ++ L') wy := hs'.perm List.perm_append_comm
          replace HS := Lib.hid hs2
          have HBL' := Lib.hid hb'
          clear hs' hs2 hb' HBL
          gi_wp2
          go_wp2
          refine HK3.out _ _ ?_
          clear HK3
          have hgx2 := HGX.out
          rw [← HG.out] at hgx2
          obtain ⟨p, rfl, hp1, hp2, hgd⟩ := isOb_in hgx2
          have hok := headOf_ok (x := t.nw p) (HRG.out.nw p).1
          have hmb := HMB.out
          simp only [Int.toNat_natCast] at hmb
          have hnm2 := HNM.out p hp1 hgd
          rw [hmb.1, hmb.2] at hok
          rw [hmb.2] at hnm2
          obtain ⟨M, rfl⟩ : ∃ M : Nat, m = (M : Int) := ⟨m.toNat, by have := hok.1; omega⟩
          obtain ⟨Bn, rfl⟩ : ∃ Bn : Nat, b = (Bn : Int) := ⟨b.toNat, by have := hok.2.2.1; omega⟩
          simp only [Int.toNat_natCast] at hnm2
          have hM64 : M ≤ 64 := by have := hok.2.1; omega
          have hBM : Bn ≤ M := by have := hok.2.2.2; omega
          have hsq := fun gb gd => (names_seq d t M Bn p gb gd hBM hM64 (by omega) hnm2).toS
          obtain ⟨nms, hnms⟩ : ∃ nms, namesTo t p Bn = nms := ⟨_, rfl⟩
          rw [hnms] at hsq
          have hfo : foF G (nmsOf t) ws (j + 1) = (nms.map (·.2)).foldl (seeF G) (foF G (nmsOf t) ws j) := by
            simp only [foF]
            rw [HX1.out]
            show (nmsOf t (p : Int)).foldl _ _ = _
            unfold nmsOf refsOf
            simp only [Int.toNat_natCast]
            rw [hmb.2]
            simp only [Int.toNat_natCast]
            rw [hnms]
          have hnmr : ∀ (i : Nat) (y : Nat × Int), nms[i]? = some y → 0 ≤ y.2 ∧ y.2 ≤ 9223372036854775807 := fun i y hy => by
            have h1 := List.mem_of_getElem? hy
            rw [← hnms] at h1
            obtain ⟨h2, h3, _⟩ := namesTo_mem.1 h1
            rw [h3]
            exact hnm2 y.1 h2
          have HSQ := Lib.hid hsq
          have HFO := Lib.hid hfo
          have HNMR := Lib.hid hnmr
          clear hgx2 hgd hok hmb hnm2 hsq hnms hfo hnmr
          obtain ⟨q1, q2, q3, q4, q5, q6⟩ := HRR.out (j + 1) L' ((blkR go 53 #[.int .i64 (M : Int), .int .i64 (Bn : Int), .int .i64 (p : Int)] :: (seeT t g6 mr g7 (VQ) (foF G (nmsOf t) ws j) (j + 1) ++ (blkR g8 113 #[.func (.func 58) #[] #[.pointer (some ⟨g6, 0, none⟩), .pointer (some ⟨gb, 0, none⟩), .pointer (some ⟨gk, 0, none⟩), .pointer (some ⟨gd, 0, none⟩), .pointer (some ⟨g7, 0, none⟩)]] :: Ds.map dR)))) wy (by omega) HBL'.out (HS.out.perm List.perm_append_comm)
          have d0 := q3.cell 0
          simp at d0
          clear q1 q2 q3 q4 q5 q6
          have o0 := (HS.out.blk 0 rfl).cell 0
          simp at o0
          have o1 := (HS.out.blk 0 rfl).cell 1
          simp at o1
          have o2 := (HS.out.blk 0 rfl).cell 2
          simp at o2
          refine wpFr_seq (wpFr_of_wp ?_)
          go_wp2_with fail
          refine (names_any (M : Int) (Bn : Int) (p : Int) _ _ ⟨_, rfl⟩).mono ?_
          rintro e1 w7 ⟨rfl, rfl⟩
          have hs7 : Sep W0 S ((seeT t g6 mr g7 (VQ) (foF G (nmsOf t) ws j) (j + 1) ++ [blkR g8 113 #[.func (.func 58) #[] #[.pointer (some ⟨g6, 0, none⟩), .pointer (some ⟨gb, 0, none⟩), .pointer (some ⟨gk, 0, none⟩), .pointer (some ⟨gd, 0, none⟩), .pointer (some ⟨g7, 0, none⟩)]]]) ++ (Ds.map dR ++ L')) wy := HS.out.tail
          have hs8 := (hs7.new 53 #[.int .i64 (M : Int), .int .i64 (Bn : Int), .int .i64 (p : Int)]).new 28 #[.pointer (some ⟨d.b, 0, none⟩)]
          simp only [World.size_alloc] at hs8
          generalize (wy.alloc _).alloc _ = w8 at *
          generalize wy.heap.size = g1 at *
          generalize g1 + 1 = g2 at *
          clear o0 o1 o2 d0 hs7
          have hs9 : Sep W0 S ((seeT t g6 mr g7 (VQ) (foF G (nmsOf t) ws j) (j + 1) ++ [blkR g8 113 #[.func (.func 58) #[] #[.pointer (some ⟨g6, 0, none⟩), .pointer (some ⟨gb, 0, none⟩), .pointer (some ⟨gk, 0, none⟩), .pointer (some ⟨gd, 0, none⟩), .pointer (some ⟨g7, 0, none⟩)]]]) ++ ([blkR g1 53 #[.int .i64 (M : Int), .int .i64 (Bn : Int), .int .i64 (p : Int)], blkR g2 28 #[.pointer (some ⟨d.b, 0, none⟩)]] ++ (Ds.map dR ++ L'))) w8 := hs8.perm (by
            simp only [List.append_assoc]
            refine List.Perm.append_left _ (List.Perm.append_left _ ?_)
            rw [← List.append_assoc]
            exact List.perm_append_comm (l₁ := Ds.map dR ++ L') (l₂ := [blkR g1 53 #[.int .i64 (M : Int), .int .i64 (Bn : Int), .int .i64 (p : Int)], blkR g2 28 #[.pointer (some ⟨d.b, 0, none⟩)]]))
          replace HS := Lib.hid hs9
          clear hs8 hs9
          go_wp2
          refine wpFr_block ?_
          refine wpFr_rangeX HS.out rfl (enters_of Try.func67 (by kernel_rfl) rfl) (HSQ.out g1 g2) (fun _ => rfl)
            (fun mm Lq => ∃ v', Lq = (seeT t g6 mr g7 (v') (((nms.map (·.2)).take mm).foldl (seeF G) (foF G (nmsOf t) ws j)) (j + 1) ++ [blkR g8 113 #[.func (.func 58) #[] #[.pointer (some ⟨g6, 0, none⟩), .pointer (some ⟨gb, 0, none⟩), .pointer (some ⟨gk, 0, none⟩), .pointer (some ⟨gd, 0, none⟩), .pointer (some ⟨g7, 0, none⟩)]]]) ++ ([blkR g1 53 #[.int .i64 (M : Int), .int .i64 (Bn : Int), .int .i64 (p : Int)], blkR g2 28 #[.pointer (some ⟨d.b, 0, none⟩)]] ++ (Ds.map dR ++ L')))
            (fun _ _ => False) (fun _ _ => False) ⟨VQ, rfl⟩ ?nrr (fun fn hfn => .inr (fun ch L h => h)) ?nround ?ndone (fun _ _ _ _ _ h _ => h.elim) (fun _ _ _ _ _ h _ => h.elim)
          case nrr =>
            rintro mm Lq X W' hm ⟨v', rfl⟩ hs
            obtain ⟨q1, q2, q3, q4, q5, q6⟩ := HRR.out (j + 1) L' _ W' (by omega) HBL'.out (hs.perm (perm_mid ((seeT t g6 mr g7 (v') (((nms.map (·.2)).take mm).foldl (seeF G) (foF G (nmsOf t) ws j)) (j + 1) ++ [blkR g8 113 #[.func (.func 58) #[] #[.pointer (some ⟨g6, 0, none⟩), .pointer (some ⟨gb, 0, none⟩), .pointer (some ⟨gk, 0, none⟩), .pointer (some ⟨gd, 0, none⟩), .pointer (some ⟨g7, 0, none⟩)]]]) ++ ([blkR g1 53 #[.int .i64 (M : Int), .int .i64 (Bn : Int), .int .i64 (p : Int)], blkR g2 28 #[.pointer (some ⟨d.b, 0, none⟩)]] ++ Ds.map dR)) L' X))
            exact ⟨hs.blk 5 rfl, hs.blk 6 rfl, q6⟩
          case nround =>
            rintro l9 mm Lq X r1 r2 W' hm ⟨v', rfl⟩ hs
            obtain ⟨y, hy⟩ : ∃ y, nms[mm]? = some y := ⟨_, List.getElem?_eq_getElem hm⟩
            have hgd : nms.getD mm (0, 0) = y := by rw [List.getD_eq_getElem?_getD, hy]; rfl
            rw [hgd]
            have hyr := HNMR.out mm y hy
            have htk : ((nms.map (·.2)).take (mm + 1)).foldl (seeF G) (foF G (nmsOf t) ws j) = seeF G (((nms.map (·.2)).take mm).foldl (seeF G) (foF G (nmsOf t) ws j)) y.2 := by
              rw [List.take_add_one, List.getElem?_map, hy]
              simp
            have hfl2 : (((nms.map (·.2)).take mm).foldl (seeF G) (foF G (nmsOf t) ws j)).length ≤ 100000 := by
              have := HB.out _ (Fine.foldl (G := G) ((nms.map (·.2)).take mm) (Fine.fo (G := G) (nm := nmsOf t) (ws := ws) j)); omega
            have hj1 : j + 1 ≤ (((nms.map (·.2)).take mm).foldl (seeF G) (foF G (nmsOf t) ws j)).length := by
              have := (foldl_pre (G := G) ((nms.map (·.2)).take mm) (foF G (nmsOf t) ws j)).length_le
              have := (List.getElem?_eq_some_iff.1 HX1.out).1
              omega
            obtain ⟨y1, y2⟩ := y
            simp only at hyr htk
            have HTK := Lib.hid htk
            have HF2 := Lib.hid hfl2
            have HJ1 := Lib.hid hj1
            obtain ⟨fdm, hfdm⟩ : ∃ fdm, ((nms.map (·.2)).take mm).foldl (seeF G) (foF G (nmsOf t) ws j) = fdm := ⟨_, rfl⟩
            rw [hfdm] at hs HF2 HJ1 HTK
            have hcv : IntKind.u64.wrap y2 = y2 := by rw [IntKind.wrap_u64]; omega
            clear hgd HS htk hfl2 hj1 hy hfdm HSQ
            gi_wp2
            refine ⟨_, hs, ?_⟩
            clear hs
            rintro q2' W2 hs2
            obtain ⟨q1, q2, q3, q4, q5, q6⟩ := HRR.out (j + 1) L' _ W2 (by omega) HBL'.out (hs2.perm (perm_mid ((seeT t g6 mr g7 (v') (fdm) (j + 1) ++ [blkR g8 113 #[.func (.func 58) #[] #[.pointer (some ⟨g6, 0, none⟩), .pointer (some ⟨gb, 0, none⟩), .pointer (some ⟨gk, 0, none⟩), .pointer (some ⟨gd, 0, none⟩), .pointer (some ⟨g7, 0, none⟩)]]]) ++ ([blkR g1 53 #[.int .i64 (M : Int), .int .i64 (Bn : Int), .int .i64 (p : Int)], blkR g2 28 #[.pointer (some ⟨d.b, 0, none⟩)]] ++ Ds.map dR)) L' (r1 :: q2' :: X)))
            have hsee := see_any (A := blkR g8 113 #[.func (.func 58) #[] #[.pointer (some ⟨g6, 0, none⟩), .pointer (some ⟨gb, 0, none⟩), .pointer (some ⟨gk, 0, none⟩), .pointer (some ⟨gd, 0, none⟩), .pointer (some ⟨g7, 0, none⟩)]] :: ([blkR g1 53 #[.int .i64 (M : Int), .int .i64 (Bn : Int), .int .i64 (p : Int)], blkR g2 28 #[.pointer (some ⟨d.b, 0, none⟩)]] ++ (Ds.map dR ++ L')) ++ (r1 :: q2' :: X)) d t k a u g6 mr g7 gb gk gd (j + 1) y2 v' fdm RA RL RC _ HK.out ha hu HRG.out ⟨hyr.1, by omega⟩ hs2 HJ1.out HF2.out q1 q2 q3 q6
            rw [HG.out, ← HTK.out] at hsee
            have HSE := Lib.hid hsee
            have HS := Lib.hid hs2
            clear q1 q2 q3 q4 q5 q6 hsee hs2
            have m8 := (HS.out.blk 4 rfl).cell 0
            simp at m8
            gi_wp2_with fail
            refine ⟨trivial, rfl, (CallsIn.inRound l9 (callsIn_wide.2 HSE.out)).mono ?_⟩
            rintro e wz ⟨⟨r, rfl⟩, v'', hs'⟩
            replace HS := Lib.hid hs'
            clear hs' HSE m8
            gi_wp2
            exact ⟨_, ⟨v'', rfl⟩, HS.out⟩
          case ndone =>
            rintro D Lq r2 W' ⟨v', rfl⟩ hs
            have hs2 := (hs.perm (perm_done (seeT t g6 mr g7 (v') (((nms.map (·.2)).take nms.length).foldl (seeF G) (foF G (nmsOf t) ws j)) (j + 1) ++ [blkR g8 113 #[.func (.func 58) #[] #[.pointer (some ⟨g6, 0, none⟩), .pointer (some ⟨gb, 0, none⟩), .pointer (some ⟨gk, 0, none⟩), .pointer (some ⟨gd, 0, none⟩), .pointer (some ⟨g7, 0, none⟩)]]]) [blkR g1 53 #[.int .i64 (M : Int), .int .i64 (Bn : Int), .int .i64 (p : Int)], blkR g2 28 #[.pointer (some ⟨d.b, 0, none⟩)]] (Ds.map dR ++ L') (dR D) r2)).left
            rw [List.take_of_length_le (by simp), ← HFO.out] at hs2
            refine ⟨Rch.length - (j + 1), by omega, ?_⟩
            unfold FromL
            exact ⟨j + 1, v', L', D :: Ds, _, _, _, _, _, _, _, _, _, _, _, _, _, _, _, _, _, _, _, _, _, _, _, _, _, _, _, _, _, _, _, _, _, _, _, _, _, _, _, rfl, by omega, rfl, HBL'.out, hs2⟩
        have hz := (HS.out.blk 3 rfl).frozen 0
        have r0 := (HS.out.blk 3 rfl).cell 0
        simp at r0
        rw [HNQ1.out] at r0
        have KEY := Lib.hid key
        have HVQ := Lib.hid hVQ
        clear hK2 key hVQ
        by_cases hcap : VC = 1
        · subst hcap
          go_wp2
          have hk := KEY.out
          rw [← HVQ.out, if_pos trivial] at hk
          exact hk _ _ _ _ _ _ _ _ _ _ _ _ _ _ _ _ _ _ _ _ _ _ _ _ _ _ _ _ _ _ _ _ _ _ _ _ _ _
        · have hcI : ¬ (VC : Int) = 1 := by omega
          have HCAP := Lib.hid hcap
          go_wp2
          have hk := KEY.out
          rw [← HVQ.out, if_neg HCAP.out] at hk
          exact hk _ _ _ _ _ _ _ _ _ _ _ _ _ _ _ _ _ _ _ _ _ _ _ _ _ _ _ _ _ _ _ _ _ _ _ _ _ _
      · have hltI : ¬ (0 : Int) < (((foF G (nmsOf t) ws j).length - j : Nat) : Int) := by omega
        have hltN : ¬ 0 < (foF G (nmsOf t) ws j).length - j := by omega
        have hl0 : (foF G (nmsOf t) ws j).length - j = 0 := by omega
        have hjN : j = Rch.length := by
          rcases Nat.lt_or_ge j Rch.length with h | h
          · exact absurd (foF_next (nm := nmsOf t) (ws := ws) HB.out (by rw [HRC.out]; exact h)) hlt
          · omega
        have HJN := Lib.hid hjN
        clear hjN
        go_wp2
        have hbn := HBL.out
        rw [HJN.out] at hbn
        exact leave_marks (W0 := W0) (S := S) (L := L) (by simp) Ds wr (HS.out.dropN 5) (fun w' hs' => leave_none (results_none rfl _ _ _) (.inl ⟨⟨_, rfl⟩, .inl ⟨L, hbn, hs'⟩⟩))
end Go.Proofs.Ytbdomdmnjclpdaa
set_option linter.unusedSimpArgs false
set_option linter.unusedVariables false
set_option maxRecDepth 100000
namespace Go.Proofs.Ytbdomdmnjclpdaa
open Go.RowKit Go.Shelf

attribute [local go_sem] Oper.semAt_some

/-- How many words objects have, together. -/
def sizeF (t : St) (L : List Int) : Nat := (L.map fun x => wordsOf t x + 1).sum
theorem sizeF_take {t : St} {L : List Int} {m : Nat} {x : Int} (h : L[m]? = some x) : sizeF t (L.take (m + 1)) = sizeF t (L.take m) + (wordsOf t x + 1) := by
  unfold sizeF
  rw [List.take_add_one, h]
  simp
theorem sizeF_le {t : St} {N : Nat} : ∀ {L : List Int}, (∀ x ∈ L, wordsOf t x ≤ N) → sizeF t L ≤ L.length * (N + 1)
  | [], _ => by simp [sizeF]
  | x :: L, h => by
    have h1 := sizeF_le (fun y hy => h y (List.mem_cons_of_mem _ hy))
    have h2 := h x (by simp)
    unfold sizeF at h1 ⊢
    simp only [List.map_cons, List.sum_cons, List.length_cons, Nat.add_mul]
    omega
set_option maxHeartbeats 4000000 in
theorem rfrom_any (v c0 c1 c2 a u rv wv : Value) (w : World) (hv : ∃ a, v = .pointer a) (hc : ∃ x y z, c0 = .int .i64 x ∧ c1 = .int .i64 y ∧ c2 = .int .i64 z) (hb : ∃ x y A n c, a = .int .i64 x ∧ u = .int .i64 y ∧ rv = .slice A n c) (hw : ∃ A n c, wv = .slice A n c) :
    Calls Try.prog 40 #[v, .agg #[c0, c1, c2], .agg #[a, u, rv], wv] w fun e w' => e = .returned (.func (.func 57) #[] #[.pointer (some ⟨w.heap.size + 1 + 1, 0, none⟩), .pointer (some ⟨w.heap.size + 1, 0, none⟩), .pointer (some ⟨w.heap.size, 0, none⟩), .pointer (some ⟨w.heap.size + 1 + 1 + 1, 0, none⟩)]) ∧ w' = (((w.alloc (.cells #[v] 28)).alloc (.cells #[c0, c1, c2] 30)).alloc (.cells #[a, u, rv] 33)).alloc (.cells #[wv] 31) := by
  obtain ⟨p, rfl⟩ := hv
  obtain ⟨x, y, z, rfl, rfl, rfl⟩ := hc
  obtain ⟨x', y', A, n, c, rfl, rfl, rfl⟩ := hb
  obtain ⟨A', n', c', rfl⟩ := hw
  go_enter Try.func40, Try.ntmps40
  go_wp2
  go_ret
  exact ⟨rfl, rfl⟩

set_option maxRecDepth 100000 in
set_option maxHeartbeats 8000000 in
theorem size_any (d : DevI) (t : St) (k : Kfg) (a u : Nat) (RA : Option Addr) (RL RC : Nat) (wv : Value) (ws : List Int) (w : World) (hd : Dev w d t) (hk : k.Ok) (ha : a ≤ 1) (hu : u ≤ k.S) (hrg : t.rng) (hws : ∀ x ∈ ws, 0 ≤ x ∧ x ≤ 18446744073709551615) (hwl : ws.length ≤ 1000000) (hr : Rd w wv (uw ws))
    (hnm : ∀ p, k.from_ a ≤ p → goodAt t (k.from_ a + u) p → ∀ i, i < (headOf (t.nw p)).2.1.toNat → 0 ≤ t.nw (p + 1 + i) ∧ t.nw (p + 1 + i) ≤ 9223372036854775807) :
    Calls Try.prog 41 #[.pointer (some ⟨d.b, 0, none⟩), .agg k.cells, .agg (rbC a u (.slice RA RL RC)), wv] w fun e w' => e = .returned (.int .i64 (sizeF t (reachF (isOb t k a u) (nmsOf t) ws u) : Int)) ∧ Keep w.heap.size [] w w' := by
  have hsq := fun gb gk gd gw => from_seq d t k a u gb gk gd gw RA RL RC wv ws hk ha hu hrg hws hwl hnm
  have hfine := Fine.fo (G := isOb t k a u) (nm := nmsOf t) (ws := ws) u
  have hlen := Fine.le _ hfine
  have hobs : ∀ x ∈ reachF (isOb t k a u) (nmsOf t) ws u, ∃ p : Nat, x = (p : Int) ∧ goodAt t (k.from_ a + u) p := fun x hx => by
    obtain ⟨p, h1, _, _, h2⟩ := isOb_in (hfine.2 x hx)
    exact ⟨p, h1, h2⟩
  change (reachF (isOb t k a u) (nmsOf t) ws u).length ≤ u at hlen
  obtain ⟨Rch, hRc⟩ : ∃ Rch, reachF (isOb t k a u) (nmsOf t) ws u = Rch := ⟨_, rfl⟩
  rw [hRc] at hsq hlen hobs
  rw [hRc]
  have hwo : ∀ x ∈ Rch, wordsOf t x ≤ 64 ∧ (headOf (t.nw x.toNat)).1 = (wordsOf t x : Int) := fun x hx => by
    obtain ⟨p, rfl, _⟩ := hobs x hx
    have hok := headOf_ok (x := t.nw p) (hrg.nw p).1
    have h0 := hok.1
    have h1 := hok.2.1
    unfold wordsOf
    simp only [Int.toNat_natCast]
    omega
  have hkS : k.S ≤ 4096 := hk.s1
  have hsz : ∀ m, sizeF t (Rch.take m) ≤ 300000 := fun m => by
    have h1 := sizeF_le (t := t) (N := 64) (L := Rch.take m) (fun x hx => (hwo x (List.mem_of_mem_take hx)).1)
    rw [List.length_take] at h1
    omega
  have HSQ := Lib.hid hsq
  have HWO := Lib.hid hwo
  have HSZ := Lib.hid hsz
  have HD := Lib.hid hd
  have HR := Lib.hid hr
  obtain ⟨WA, WC, hwv, _⟩ := hr.cellAt
  subst hwv
  clear hsq hfine hlen hobs hRc hwo hsz hd hr hk hrg hws hnm
  refine Calls.mono (R := fun e w' => e = .returned (.int .i64 (sizeF t Rch : Int)) ∧ Sep w [] [] w') ?_ fun e w' h => ⟨h.1, h.2.keep⟩
  simp only [Kfg.cells, rbC]
  have HS := Lib.hid (((Sep.start w []).new 30 #[.int .i64 (k.L : Int), .int .i64 (k.R : Int), .int .i64 (k.S : Int)]).new 33 #[.int .i64 (a : Int), .int .i64 (u : Int), .slice RA RL RC])
  simp only [World.size_alloc] at HS
  refine calls_of_wpFr Try.func41 rfl ?_
  simp only [Try.ntmps41, List.size_toArray, List.length_cons, List.length_nil, Nat.reduceAdd, Nat.reduceSub, Array.replicate_succ,
   Array.replicate_zero, List.push_toArray, List.append_toArray, List.nil_append, List.cons_append]
  refine wpFr_seq (wpFr_of_wp ?_)
  go_wp2
  generalize (w.alloc _).alloc _ = w1 at *
  generalize w.heap.size = gk at *
  generalize gk + 1 = gb at *
  refine wpFr_seq (wpFr_of_wp ?_)
  go_wp2
  replace HS := Lib.hid (HS.out.new 3 #[.int .i64 ((0 : Nat) : Int)])
  generalize w1.alloc _ = w2 at *
  generalize w1.heap.size = gn at *
  refine wpFr_seq (wpFr_seq (wpFr_of_wp ?_))
  have c0 := (HS.out.blk 0 rfl).cell 0
  simp at c0
  have c1 := (HS.out.blk 0 rfl).cell 1
  simp at c1
  have c2 := (HS.out.blk 0 rfl).cell 2
  simp at c2
  have b0 := (HS.out.blk 1 rfl).cell 0
  simp at b0
  have b1 := (HS.out.blk 1 rfl).cell 1
  simp at b1
  have b2 := (HS.out.blk 1 rfl).cell 2
  simp at b2
  go_wp2_with fail
  refine (rfrom_any _ _ _ _ _ _ _ _ _ ⟨_, rfl⟩ ⟨_, _, _, rfl, rfl, rfl⟩ ⟨_, _, _, _, _, rfl, rfl, rfl⟩ ⟨_, _, _, rfl⟩).mono ?_
  rintro e1 w3 ⟨rfl, rfl⟩
  replace HS := Lib.hid ((((HS.out.new 28 #[.pointer (some ⟨d.b, 0, none⟩)]).new 30 #[.int .i64 (k.L : Int), .int .i64 (k.R : Int), .int .i64 (k.S : Int)]).new 33 #[.int .i64 (a : Int), .int .i64 (u : Int), .slice RA RL RC]).new 31 #[.slice WA ws.length WC])
  simp only [World.size_alloc] at HS
  generalize (((w2.alloc _).alloc _).alloc _).alloc _ = w3 at *
  generalize w2.heap.size = g1 at *
  generalize g1 + 1 = g2 at *
  generalize g2 + 1 = g3 at *
  generalize g3 + 1 = g4 at *
  clear c0 c1 c2 b0 b1 b2
  go_wp2
  replace HS : Hid (Sep w [] [blkR gk 30 #[.int .i64 (k.L : Int), .int .i64 (k.R : Int), .int .i64 (k.S : Int)], blkR gb 33 #[.int .i64 (a : Int), .int .i64 (u : Int), .slice RA RL RC], blkR gn 3 #[.int .i64 (((sizeF t (Rch.take 0)) : Nat) : Int)], blkR g1 28 #[.pointer (some ⟨d.b, 0, none⟩)], blkR g2 30 #[.int .i64 (k.L : Int), .int .i64 (k.R : Int), .int .i64 (k.S : Int)], blkR g3 33 #[.int .i64 (a : Int), .int .i64 (u : Int), .slice RA RL RC], blkR g4 31 #[.slice WA ws.length WC]] w3) := HS
  refine wpFr_block ?_
  refine wpFr_rangeX HS.out rfl (enters_of Try.func57 (by kernel_rfl) rfl) (HSQ.out g3 g2 g1 g4) (fun _ => rfl)
    (fun m L => L = [blkR gk 30 #[.int .i64 (k.L : Int), .int .i64 (k.R : Int), .int .i64 (k.S : Int)], blkR gb 33 #[.int .i64 (a : Int), .int .i64 (u : Int), .slice RA RL RC], blkR gn 3 #[.int .i64 (((sizeF t (Rch.take m)) : Nat) : Int)], blkR g1 28 #[.pointer (some ⟨d.b, 0, none⟩)], blkR g2 30 #[.int .i64 (k.L : Int), .int .i64 (k.R : Int), .int .i64 (k.S : Int)], blkR g3 33 #[.int .i64 (a : Int), .int .i64 (u : Int), .slice RA RL RC], blkR g4 31 #[.slice WA ws.length WC]] ∧ m ≤ Rch.length) (fun _ _ => False) (fun _ _ => False) ⟨rfl, by omega⟩ ?rr (fun fn hfn => .inr (fun ch L h => h)) ?round ?done (fun _ _ _ _ _ h _ => h.elim) (fun _ _ _ _ _ h _ => h.elim)
  case rr =>
    rintro m L X W' hm ⟨rfl, _⟩ hs
    have hkk : Keep w.heap.size [] w W' := hs.keep
    exact ⟨hs.blk 5 rfl, hs.blk 4 rfl, hs.blk 3 rfl, hs.blk 6 rfl, HR.out.keep hkk, HD.out.of_new hkk⟩
  case round =>
    rintro l9 m L X r1 r2 W' hm ⟨rfl, hmN⟩ hs
    obtain ⟨x, hx⟩ : ∃ x, Rch[m]? = some x := ⟨_, List.getElem?_eq_getElem hm⟩
    have hgd : Rch.getD m 0 = x := by rw [List.getD_eq_getElem?_getD, hx]; rfl
    rw [hgd]
    have hst := sizeF_take (t := t) hx
    obtain ⟨hw64, hwe⟩ := HWO.out x (List.mem_of_getElem? hx)
    have hsm := HSZ.out (m + 1)
    obtain ⟨q, hq⟩ : ∃ q, wordsOf t x = q := ⟨_, rfl⟩
    obtain ⟨b, hb⟩ : ∃ b, (headOf (t.nw x.toNat)).2.1 = b := ⟨_, rfl⟩
    have hob : obOf t x = [.int .i64 (q : Int), .int .i64 b, .int .i64 x] := by unfold obOf; rw [hwe, hq, hb]
    rw [hob]
    obtain ⟨sm, hsme⟩ : ∃ sm, sizeF t (Rch.take m) = sm := ⟨_, rfl⟩
    obtain ⟨s2, hs2e⟩ : ∃ s2, sizeF t (Rch.take (m + 1)) = s2 := ⟨_, rfl⟩
    rw [hsme, hs2e, hq] at hst
    rw [hs2e] at hsm
    rw [hsme] at hs
    rw [hq] at hw64
    rw [hs2e]
    have hadd : IntKind.i64.wrap ((sm : Int) + ((q : Int) + 1)) = (s2 : Int) := by rw [IntWalk.i64_in _ (by omega)]; omega
    have HZ1 := Lib.hid (fun w => hsize_eq (q : Int) b ((q : Int) + 1) w (by omega) (by omega) rfl)
    clear hgd HS hx hwe hq hb hob hsme hs2e HSQ hst
    gi_wp2
    refine ⟨[blkR gk 30 #[.int .i64 (k.L : Int), .int .i64 (k.R : Int), .int .i64 (k.S : Int)], blkR gb 33 #[.int .i64 (a : Int), .int .i64 (u : Int), .slice RA RL RC], blkR gn 3 #[.int .i64 (((sm) : Nat) : Int)], blkR g1 28 #[.pointer (some ⟨d.b, 0, none⟩)], blkR g2 30 #[.int .i64 (k.L : Int), .int .i64 (k.R : Int), .int .i64 (k.S : Int)], blkR g3 33 #[.int .i64 (a : Int), .int .i64 (u : Int), .slice RA RL RC], blkR g4 31 #[.slice WA ws.length WC]] ++ [blkR W'.heap.size 53 #[.int .i64 (q : Int), .int .i64 b, .int .i64 x]], Sep.bring _ _ (hs.new 53 #[.int .i64 (q : Int), .int .i64 b, .int .i64 x]), ?_⟩
    clear hs
    generalize W'.heap.size = go at *
    rintro q2 W2 hs
    have HS := Lib.hid hs
    clear hs
    gi_upto_region 4 with fail
    refine wpIn_region_st3 (W := w) (S := []) (by kernel_rfl) (by kernel_rfl) (by kernel_rfl) (by kernel_rfl) (fun D uu => ([blkR gk 30 #[.int .i64 (k.L : Int), .int .i64 (k.R : Int), .int .i64 (k.S : Int)], blkR gb 33 #[.int .i64 (a : Int), .int .i64 (u : Int), .slice RA RL RC], blkR gn 3 #[.int .i64 (((bif D 5 then s2 else sm) : Nat) : Int)], blkR g1 28 #[.pointer (some ⟨d.b, 0, none⟩)], blkR g2 30 #[.int .i64 (k.L : Int), .int .i64 (k.R : Int), .int .i64 (k.S : Int)], blkR g3 33 #[.int .i64 (a : Int), .int .i64 (u : Int), .slice RA RL RC], blkR g4 31 #[.slice WA ws.length WC]] ++ [blkR go 53 #[.int .i64 (q : Int), .int .i64 b, .int .i64 x]] ++ r1 :: q2 :: X))
      (fun j v => match j with
        | 0 => v = .int .i64 (sm : Int)
        | 1 => v = .pointer (some ⟨go, 0, none⟩)
        | 2 => v = .agg #[.int .i64 (q : Int), .int .i64 b]
        | 3 => v = .int .i64 ((q : Int) + 1)
        | 4 => v = .int .i64 (s2 : Int)
        | _ => True) ?start ?step ?fin
    case start => exact fun u => HS.out
    case step =>
      clear HS
      refine ⟨?_, ?_, ?_, ?_, ?_, ?_, trivial⟩
      · intro D uu w' K hD hF hl hS hK
        simp only [puts, Act.put, List.setIfInBounds_toArray, List.set_cons_succ, List.set_cons_zero, Nat.zero_add, Nat.reduceAdd]
        have h5 := hl 5 (by kernel_rfl)
        have hS1 := hS
        simp only [h5, cond_false] at hS1
        have x0 := (hS1.blk 2 rfl).cell 0
        simp at x0
        clear hS1
        go_simp
        simp only [yUpon]
        exact hK _ _ rfl hS
      · intro D uu w' K hD hF hl hS hK
        simp only [puts, Act.put, List.setIfInBounds_toArray, List.set_cons_succ, List.set_cons_zero, Nat.zero_add, Nat.reduceAdd]
        go_simp
        simp only [yUpon]
        exact hK _ _ rfl hS
      · intro D uu w' K hD hF hl hS hK
        have f1 := (hF 1 (by kernel_rfl)).2
        simp only at f1
        simp only [puts, Act.put, List.setIfInBounds_toArray, List.set_cons_succ, List.set_cons_zero, Nat.zero_add, Nat.reduceAdd]
        simp only [f1]
        have x0 := (hS.blk 7 rfl).cell 0
        have x1 := (hS.blk 7 rfl).cell 1
        simp at x0 x1
        go_simp
        simp only [yUpon]
        exact hK _ _ rfl hS
      · intro D uu w' K hD hF hl hS hK
        have f2 := (hF 2 (by kernel_rfl)).2
        simp only at f2
        simp only [puts, Act.put, List.setIfInBounds_toArray, List.set_cons_succ, List.set_cons_zero, Nat.zero_add, Nat.reduceAdd]
        simp only [f2]
        go_simp
        simp only [yUpon]
        refine (HZ1.out _).mono ?_
        rintro e w1 ⟨rfl, hkk⟩
        exact hK _ _ rfl (hS.grow hkk)
      · intro D uu w' K hD hF hl hS hK
        have f0 := (hF 0 (by kernel_rfl)).2
        simp only at f0
        have f3 := (hF 3 (by kernel_rfl)).2
        simp only at f3
        simp only [puts, Act.put, List.setIfInBounds_toArray, List.set_cons_succ, List.set_cons_zero, Nat.zero_add, Nat.reduceAdd]
        simp only [f0, f3]
        go_simp
        simp only [yUpon]
        exact hK _ _ rfl hS
      · intro D uu w' K hD hF hl hS hK
        have f4 := (hF 4 (by kernel_rfl)).2
        simp only at f4
        simp only [puts, Act.put, List.setIfInBounds_toArray, List.set_cons_succ, List.set_cons_zero, Nat.zero_add, Nat.reduceAdd]
        simp only [f4]
        simp only [hD, cond_false] at hS
        have x0 := (hS.blk 2 rfl).cell 0
        simp at x0
        have z0 := (hS.blk 2 rfl).frozen 0
        have hput := hS.put (i := 2) rfl 0 (.int .i64 (s2 : Int))
        have e1 : (fset D 5 true) 5 = true := rfl
        go_simp
        simp only [yUpon]
        refine hK _ _ trivial ?_
        simp only [e1, cond_true]
        exact hput
    case fin =>
      clear HS
      intro D uu wf hall hS
      have f5 := (hall 5 (by simp)).1
      simp only [f5, cond_true] at hS
      have HS := Lib.hid hS
      clear hall hS f5
      simp only [puts, Act.put, List.setIfInBounds_toArray, List.set_cons_succ, List.set_cons_zero, Nat.zero_add, Nat.reduceAdd]
      gi_wp2
      exact ⟨_, ⟨rfl, by omega⟩, Sep.dropMid (r := blkR go 53 #[.int .i64 (q : Int), .int .i64 b, .int .i64 x]) _ _ HS.out⟩
  case done =>
    rintro D L r2 W' ⟨rfl, _⟩ hs
    simp only [Exit.inBlock, Exit.then]
    refine wpFr_of_wp ?_
    rw [List.take_length] at hs
    have HS := Lib.hid hs
    clear hs
    have n0 := (HS.out.blk 2 rfl).cell 0
    simp at n0
    go_wp2
    exact leave_mark (HS.out.all 7 _ rfl) (results_tmp rfl _ _ _) ⟨rfl, (HS.out.putObj (i := 7) rfl (.deferred none)).take 0⟩
end Go.Proofs.Ytbdomdmnjclpdaa
