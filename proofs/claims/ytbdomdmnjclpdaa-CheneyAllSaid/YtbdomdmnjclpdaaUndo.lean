/-
  ulog.Records as an iterator; ulog.Undo.
-/
import Derived.Test.YtbdomdmnjclpdaaRange
import Derived.Test.YtbdomdmnjclpdaaAwk6
set_option linter.unusedSimpArgs false
set_option linter.unusedVariables false
set_option maxRecDepth 100000
namespace Go.Proofs.Ytbdomdmnjclpdaa
open Go.RowKit Go.Shelf
attribute [local go_sem] Oper.semAt_some

set_option maxRecDepth 100000 in
set_option maxHeartbeats 2000000 in
theorem records_seq (d : DevI) (k : Kfg) (ep : Int) (n g b : Nat) (p v : Nat → Int) (hk : k.Ok) (hn : n ≤ k.L) (hp : ∀ i, i < n → 0 ≤ p i ∧ p i ≤ 9223372036854775807) :
    SeqC 92 #[.pointer (some ⟨b, 0, none⟩)] (fun m => #[.int .i64 (p (n - 1 - m)), .int .u64 (v (n - 1 - m))]) n
      (fun m W => Blk W g 148 (logC d k ep n) ∧ Blk W b 134 #[.pointer (some ⟨g, 0, none⟩)] ∧ (m < n → ∃ s, Dev W d s ∧ s.nw (16 + 4 * (n - 1 - m) + 1) = p (n - 1 - m) ∧ s.nw (16 + 4 * (n - 1 - m) + 2) = v (n - 1 - m))) := by
  intro l G Gx Gp w hG hGx hRR hY h0
  have HG := Lib.hid hG
  have HGX := Lib.hid hGx
  have HRR := Lib.hid hRR
  have HY := Lib.hid hY
  have HK := Lib.hid hk
  have HP := Lib.hid hp
  have H0 := Lib.hid h0
  clear hG hGx hRR hY hk hp h0
  have hn2 : (n : Int) ≤ 200 := by have := HK.out.l1; omega
  have hkL : (k.L : Int) ≤ 200 := by have := HK.out.l1; omega
  obtain ⟨hb, hbb, _⟩ := HRR.out 0 w (by omega) H0.out
  have c5 := hb.cell 5
  simp at c5
  have b0 := hbb.cell 0
  simp at b0
  clear hb hbb
  go_enter Try.func92, Try.ntmps92
  go_wp2_with fail
  clear c5 b0
  go_loopw [3] (fun v' wr => ∃ m : Nat, m ≤ n ∧ v' = .int .i64 ((n : Int) - 1 - m) ∧ G m wr) (fun v' _ => (intOf v' + 1).toNat)
  case atStart => exact ⟨0, by omega, by simp, H0.out⟩
  case round =>
    obtain ⟨m, hm, rfl, hg⟩ := hrel
    have HM := Lib.hid hg
    obtain ⟨hb, hbb, hd⟩ := HRR.out m wr hm hg
    clear hg
    by_cases hlt : m < n
    · obtain ⟨s, hd, h1, h2⟩ := hd hlt
      obtain ⟨i, hi⟩ : ∃ i, n - 1 - m = i := ⟨_, rfl⟩
      have hin : i < n := by omega
      have hIi : (n : Int) - 1 - m = i := by omega
      rw [hi] at h1 h2
      have hY := HY.out m
      rw [hi] at hY
      have HII := Lib.hid hIi
      rw [hIi]
      obtain ⟨q, hq⟩ : ∃ q, 16 + 4 * i = q := ⟨_, rfl⟩
      have hqI : (q : Int) ≤ 900 := by omega
      rw [hq] at h1 h2
      have HQ := Lib.hid hq
      have hr0 : Sep wr [] [] wr := Sep.start _ _
      have HB : Hid (Blk wr g _ _) := Lib.hid hb
      have HS := Lib.hid hr0
      have HD := Lib.hid hd
      have H1 := Lib.hid h1
      have H2 := Lib.hid h2
      have HY2 := Lib.hid hY
      have HBB := Lib.hid hbb
      have hpi := HP.out i hin
      obtain ⟨hp0, hp1⟩ := hpi
      have hwr : IntKind.i64.wrap (p i) = p i := by rw [IntKind.wrap_i64]; omega
      clear hb hbb hd h1 h2 hr0 hY hq hi hIi
      have b0 := HBB.out.cell 0
      simp at b0
      have g1 := HB.out.cell 1
      have g2 := HB.out.cell 2
      have g3 := HB.out.cell 3
      simp at g1 g2 g3
      go_wp2_with fail
      refine (krecord_eq k _ HK.out i q (by have := HK.out.l1; omega) HQ.out).mono ?_
      rintro e w1 ⟨rfl, hk1⟩
      have HS := Lib.hid (HS.out.grow hk1)
      clear hk1 b0 g1 g2 g3
      go_wp2_with fail
      have b0 : ∀ x : Ext w1, x.now.cell? ⟨b, 0, none⟩ = some (.pointer (some ⟨g, 0, none⟩)) := fun x => x.cell (by simpa using (HBB.out.keep HS.out.keep HBB.out.lt (by simp)).cell 0)
      have g0 : ∀ x : Ext w1, x.now.cell? ⟨g, 0, none⟩ = some (.pointer (some ⟨d.b, 0, none⟩)) := fun x => x.cell (by simpa using (HB.out.keep HS.out.keep HB.out.lt (by simp)).cell 0)
      have l1 : ∀ x : Ext w1, Calls Try.prog 32 #[.pointer (some ⟨d.b, 0, none⟩), .int .i64 ((q : Int) + 1)] x.now fun e w' => e = .returned (.int .u64 (p i)) ∧ x.now = w' := fun x => load_is d s (q + 1) _ _ (HD.out.of_new (HS.out.grow x.keep).keep) H1.out
      have l2 : ∀ x : Ext w1, Calls Try.prog 32 #[.pointer (some ⟨d.b, 0, none⟩), .int .i64 ((q : Int) + 2)] x.now fun e w' => e = .returned (.int .u64 (v i)) ∧ x.now = w' := fun x => load_is d s (q + 2) _ _ (HD.out.of_new (HS.out.grow x.keep).keep) H2.out
      have HL1 := Lib.hid l1
      have HL2 := Lib.hid l2
      clear l1 l2
      refine wp_region_round_tail 16 (by kernel_rfl) (by kernel_rfl) ?_
      simp only [List.take_succ_cons, List.take_zero, List.drop_succ_cons, List.drop_zero]
      repeat (go_big_quiet_step ((first | (go_at_call 32; first | with_reducible exact Calls.ext_same (HL1.out _) | with_reducible exact Calls.ext_same (HL2.out _)))))
      refine wpQuiet_nil ?_
      rintro _ ⟨x, rfl⟩
      obtain ⟨fn, tmps, assign, body, hy, hR⟩ := HY2.out x.now hlt (HG.out m _ _ (HG.out m _ _ HM.out HS.out.keep) x.keep)
      clear b0 g0
      gi_wp2
      refine ⟨rfl, hR.mono ?_⟩
      rintro e w3 (⟨rfl, hg⟩ | ⟨rfl, hg⟩ | ⟨ch, rfl, hg⟩)
      · clear hR hy
        gi_wp2
        go_wp2
        exact ⟨⟨m + 1, by omega, by have := HII.out; simp; omega, hg⟩, by simp [intOf]; try omega⟩
      · clear hR hy
        gi_wp2
        go_wp2
        exact bodyPost_ret (results_none rfl _ _ _) rfl (.inl ⟨_, rfl, .inr hg⟩)
      · clear hR hy
        gi_wp2
        exact ⟨rfl, .inr ⟨ch, rfl, hg⟩⟩
    · obtain rfl : m = n := by omega
      have hcond : decide (0 ≤ (m : Int) - 1 - m) = false := by simp; omega
      go_wp2
      go_end0
      exact .inl ⟨_, rfl, .inl HM.out⟩

/-- What Undo does. -/
def backOps (p : Nat → Nat) (v : Nat → Int) (n : Nat) : Nat → List Dop
  | 0 => []
  | m + 1 => backOps p v n m ++ [.st (p (n - 1 - m)) (v (n - 1 - m)), .fl (p (n - 1 - m))]
def undoOps (ep : Int) (p : Nat → Nat) (v : Nat → Int) (n : Nat) : List Dop := if n = 0 then [] else backOps p v n n ++ [.fe] ++ truncOps ep

section
variable {p : Nat → Nat} {v : Nat → Int} {n a N : Nat} {s : St} {ep : Int}
theorem back_prefix : ∀ (j m : Nat), backOps p v n m <+: backOps p v n (m + j)
  | 0, m => List.prefix_rfl
  | j + 1, m => (back_prefix j m).trans ⟨_, rfl⟩
theorem undo_prefix (hn : 0 < n) {m : Nat} (hm : m ≤ n) : backOps p v n m <+: undoOps ep p v n := by
  unfold undoOps
  rw [if_neg (by omega)]
  have := back_prefix (p := p) (v := v) (n := n) (n - m) m
  rw [show m + (n - m) = n by omega] at this
  exact this.trans ⟨[.fe] ++ truncOps ep, by simp⟩
theorem back_nw (hI : s.Is N) (hp : ∀ i, i < n → a ≤ p i ∧ p i < N) : ∀ m, m ≤ n → ∀ j, j < a → (s.run (backOps p v n m)).nw j = s.nw j
  | 0, _, j, _ => rfl
  | m + 1, hm, j, hj => by
    have h := hp (n - 1 - m) (by omega)
    have hi : (s.run (backOps p v n m)).Is N := hI.run _
    show (s.run (backOps p v n m ++ _)).nw j = _
    rw [St.run_append]
    show (((s.run (backOps p v n m)).store (p (n - 1 - m)) (v (n - 1 - m))).flush (p (n - 1 - m))).nw j = _
    rw [St.nw_flush, St.nw_store hi h.2, if_neg (by omega)]
    exact back_nw hI hp m (by omega) j hj
end

set_option maxRecDepth 100000 in
set_option maxHeartbeats 2000000 in
theorem undo_any (d : DevI) (s : St) (k : Kfg) (ep : Int) (n g : Nat) (p : Nat → Nat) (v : Nat → Int) (w : World) (h : Dev w d s) (hb : Blk w g 148 (logC d k ep n)) (hgd : g ∉ d.blocks) (hk : k.Ok) (hI : s.Is k.words) (he0 : 0 ≤ ep) (he1 : ep < 4294967296) (hn : n ≤ k.L)
    (hp : ∀ i, i < n → k.act ≤ p i ∧ p i < k.words ∧ s.nw (16 + 4 * i + 1) = p i ∧ s.nw (16 + 4 * i + 2) = v i) :
    Calls Try.prog 88 #[.pointer (some ⟨g, 0, none⟩)] w (LPlayed w d g s (undoOps ep p v n) (logC d k ep n) (if n = 0 then logC d k ep 0 else logC d k ((ep + 1) % 4294967296) 0) (.tuple #[])) := by
  obtain ⟨c', hc'⟩ : ∃ c', (if n = 0 then logC d k ep 0 else logC d k ((ep + 1) % 4294967296) 0) = c' := ⟨_, rfl⟩
  rw [hc']
  have HC' := Lib.hid hc'
  obtain ⟨us, hus⟩ : ∃ us, undoOps ep p v n = us := ⟨_, rfl⟩
  rw [hus]
  have HUS := Lib.hid hus
  clear hc' hus
  have hs0 := Sep.two (r := devR d s) (q := blkR g 148 (logC d k ep n)) h hb (fun x hx hx2 => by simp [blkR] at hx2; subst hx2; exact hgd hx)
  have HS : Hid (Sep w (d.blocks ++ [g]) [devR d (s.run []), blkR g 148 (logC d k ep n)] w) := hs0
  have HK := Lib.hid hk
  have HI := Lib.hid hI
  have HP := Lib.hid hp
  clear hs0 h hb hk hI hp
  refine calls_of_wpFr Try.func88 rfl ?_
  simp only [Try.ntmps88, List.size_toArray, List.length_cons, List.length_nil, Nat.reduceAdd, Nat.reduceSub, Array.replicate_succ,
     Array.replicate_zero, List.push_toArray, List.append_toArray, List.nil_append, List.cons_append]
  refine wpFr_seq ?_
  refine wpFr_of_wp ?_
  go_wp2
  replace HS := Lib.hid (HS.out.new 134 #[.pointer (some ⟨g, 0, none⟩)])
  have HS : Hid (Sep w (d.blocks ++ [g]) [devR d (s.run []), blkR g 148 (logC d k ep n), blkR w.heap.size 134 #[.pointer (some ⟨g, 0, none⟩)]] (w.alloc _)) := HS
  generalize w.alloc _ = w1 at *
  generalize w.heap.size = gb at *
  refine wpFr_seq (wpFr_seq (wpFr_of_wp ?_))
  have b0 := (HS.out.blk 2 rfl).cell 0
  simp at b0
  go_wp2_with fail
  refine (records_fn g _).mono ?_
  rintro e w2 ⟨b, rfl, hbn, hbb, hkk⟩
  replace HS := Lib.hid (HS.out.add hkk (r := blkR b 134 #[.pointer (some ⟨g, 0, none⟩)]) hbb (by intro y hy; simp [blkR] at hy; subst hy; exact hbn))
  have HS : Hid (Sep w (d.blocks ++ [g]) [devR d (s.run []), blkR g 148 (logC d k ep n), blkR gb 134 #[.pointer (some ⟨g, 0, none⟩)], blkR b 134 #[.pointer (some ⟨g, 0, none⟩)]] w2) := HS
  clear hbn hbb hkk b0
  go_wp2_with fail
  refine wpFr_block ?_
  refine wpFr_range HS.out rfl (enters_of Try.func92 (by kernel_rfl) rfl) (records_seq d k ep n g b (fun i => p i) v HK.out hn (fun i hi => by have := HP.out i hi; have := Kfg.words_le HK.out; omega)) (fun _ => rfl)
    (fun m L => L = [devR d (s.run (backOps p v n m)), blkR g 148 (logC d k ep n), blkR gb 134 #[.pointer (some ⟨g, 0, none⟩)], blkR b 134 #[.pointer (some ⟨g, 0, none⟩)]])
    (fun _ _ => False)
    (fun ch L => ∃ pre o, (pre ++ [o]) <+: us ∧ (s.run pre).goes ∧ Ending.panicked ch = offE ∧ L = [devR d (s.run pre), blkR g 148 (logC d k ep n), blkR gb 134 #[.pointer (some ⟨g, 0, none⟩)], blkR b 134 #[.pointer (some ⟨g, 0, none⟩)]]) rfl ?rr
    (fun fn hfn => .inl ⟨_, by subst hfn; exact Try.func88⟩) ?round ?done (fun _ _ _ _ _ h _ => h.elim) ?panic
  case rr =>
    rintro m L W' hm rfl hs
    refine ⟨hs.blk 1 rfl, hs.blk 3 rfl, fun hlt => ⟨_, hs.dev 0 rfl, ?_, ?_⟩⟩
    · rw [back_nw HI.out (fun i hi => ⟨(HP.out i hi).1, (HP.out i hi).2.1⟩) m hm _ (by have := k.act_le; omega)]
      exact (HP.out _ (by omega)).2.2.1
    · rw [back_nw HI.out (fun i hi => ⟨(HP.out i hi).1, (HP.out i hi).2.1⟩) m hm _ (by have := k.act_le; omega)]
      exact (HP.out _ (by omega)).2.2.2
  case round =>
    apply Exists.intro
    refine And.intro ?_ ?_
    · intro l m W' K hK
      gi_wp2
      exact hK
    · rintro l m L r1 r2 W' hm rfl hs
      have hpm := (HP.out (n - 1 - m) (by omega)).2.1
      have hpre : backOps p v n (m + 1) <+: us := by rw [← HUS.out]; exact undo_prefix (by omega) (by omega)
      simp only [backOps] at hpre
      obtain ⟨q, hq⟩ : ∃ q, p (n - 1 - m) = q := ⟨_, rfl⟩
      obtain ⟨x, hx⟩ : ∃ x, v (n - 1 - m) = x := ⟨_, rfl⟩
      rw [hq] at hpm
      rw [hq, hx] at hpre ⊢
      have HPRE := Lib.hid hpre
      have HQ : Hid (backOps p v n m ++ [.st q x, .fl q] = backOps p v n (m + 1)) := by rw [← hq, ← hx]; exact rfl
      replace HS := Lib.hid hs
      clear hs hpre hq hx
      obtain ⟨pre, hpe⟩ : ∃ pre, backOps p v n m = pre := ⟨_, rfl⟩
      rw [hpe] at HPRE HQ HS
      have hlen : ∀ l : List Dop, (s.run l).now.length = k.words := fun l => (HI.out.run l).now
      have HL := Lib.hid hlen
      clear hpe hlen
      have b0 := (HS.out.blk 2 rfl).cell 0
      simp at b0
      have g0 := (HS.out.blk 1 rfl).cell 0
      simp at g0
      gi_wp2_with fail
      refine ⟨trivial, rfl, (CallsIn.inRound l (callsIn_wide.2 (store_op d _ q x _ (HS.out.dev 0 rfl) (by rw [HL.out]; exact hpm)))).mono ?_⟩
      rintro e w3 (⟨rfl, hd, hk⟩ | ⟨hg, rfl, hd, hk⟩)
      rotate_left
      · replace HS := Lib.hid (HS.out.did (i := 0) rfl hd hk)
        have HG := Lib.hid hg
        clear hd hk hg
        unfold offE
        gi_wp2
        exact ⟨_, ⟨_, ⟨.st q x, (List.prefix_append_right_inj _ |>.2 ⟨[.fl q], rfl⟩).trans HPRE.out⟩, HG.out, rfl, rfl⟩, HS.out⟩
      rw [← St.run_snoc] at hd
      replace HS := Lib.hid (HS.out.did (i := 0) rfl hd hk)
      clear hd hk
      clear b0 g0
      have b0 := (HS.out.blk 2 rfl).cell 0
      simp at b0
      have g0 := (HS.out.blk 1 rfl).cell 0
      simp at g0
      gi_wp2_with fail
      refine ⟨trivial, rfl, (CallsIn.inRound l (callsIn_wide.2 (flush_op d _ q _ (HS.out.dev 0 rfl) (by rw [HL.out]; exact hpm)))).mono ?_⟩
      rintro e w3 (⟨rfl, hd, hk⟩ | ⟨hg, rfl, hd, hk⟩)
      rotate_left
      · replace HS := Lib.hid (HS.out.did (i := 0) rfl hd hk)
        have HG := Lib.hid hg
        clear hd hk hg
        unfold offE
        gi_wp2
        exact ⟨_, ⟨_, ⟨.fl q, by rw [List.append_assoc]; exact HPRE.out⟩, HG.out, rfl, rfl⟩, HS.out⟩
      rw [← St.run_snoc] at hd
      replace HS := Lib.hid (HS.out.did (i := 0) rfl hd hk)
      clear hd hk
      clear b0 g0
      gi_wp2
      have h := HS.out
      rw [List.append_assoc] at h
      rw [← HQ.out]
      exact h
  case done =>
    rintro D L r2 W' rfl hs
    simp only [Exit.inBlock, Exit.then]
    refine wpFr_of_wp ?_
    replace HS := Lib.hid hs
    clear hs
    have b0 := (HS.out.blk 2 rfl).cell 0
    simp at b0
    have g0 := (HS.out.blk 1 rfl).cell 0
    simp at g0
    have g5 := (HS.out.blk 1 rfl).cell 5
    simp at g5
    by_cases hn0 : n = 0
    · subst hn0
      have hc := HC'.out
      have hu := HUS.out
      rw [if_pos rfl] at hc
      have hu2 : us = [] := by rw [← hu]; exact if_pos rfl
      subst hc hu2
      go_wp2_with fail
      refine (truncate_none d k ep g _ (HS.out.blk 1 rfl)).mono ?_
      rintro e w' ⟨rfl, rfl⟩
      go_wp2
      refine leave_mark (HS.out.all 4 _ rfl) (results_none rfl _ _ _) ?_
      exact (HS.out.putObj (i := 4) rfl _).did_log rfl rfl
    · have hn1 : decide (0 < (n : Int)) = true := by simp; omega
      have hc := HC'.out
      rw [if_neg hn0] at hc
      have hu : backOps p v n n ++ [.fe] ++ truncOps ep = us := by rw [← HUS.out]; exact (if_neg hn0).symm
      have HC := Lib.hid hc
      have HU := Lib.hid hu
      clear hc hu
      go_wp2_with fail
      refine (fence_op d _ _ (HS.out.dev 0 rfl)).mono ?_
      rintro e w3 (⟨rfl, hd, hk⟩ | ⟨hg, rfl, hd, hk⟩)
      rotate_left
      · replace HS := Lib.hid (HS.out.did (i := 0) rfl hd hk)
        have HG := Lib.hid hg
        clear hd hk hg
        unfold offE
        go_wp2
        refine leave_panic (HS.out.all 4 _ rfl) ?_
        exact (HS.out.putObj (i := 4) rfl _).cut_log rfl rfl (by rw [← HU.out]; exact List.prefix_append _ _) HG.out
      rw [← St.run_snoc] at hd
      replace HS := Lib.hid (HS.out.did (i := 0) rfl hd hk)
      clear hd hk b0 g0 g5
      have hlen : 8 < (s.run (backOps p v n n ++ [.fe])).now.length := by rw [(HI.out.run _).now]; have := k.act_le; have := Kfg.words_le HK.out; omega
      have b0 := (HS.out.blk 2 rfl).cell 0
      simp at b0
      go_wp2_with fail
      refine (truncate_any d _ k ep n g _ (HS.out.dev 0 rfl) (HS.out.blk 1 rfl) hgd hlen he0 he1 (by omega)).mono ?_
      rintro e w4 (⟨rfl, hd, hb, hk⟩ | ⟨m, hm, hg, rfl, hd, hb, hk⟩)
      · have hs := HS.out.step2 (i := 0) (j := 1) (by decide) rfl rfl hk (r' := devR d _) (q' := blkR g 148 _) hd hb (fun _ h => h) (fun _ h => h)
        rw [← St.run_append, HU.out, HC.out] at hs
        replace HS := Lib.hid hs
        clear hs hd hb hk b0
        go_wp2
        refine leave_mark (HS.out.all 4 _ rfl) (results_none rfl _ _ _) ?_
        exact (HS.out.putObj (i := 4) rfl _).did_log rfl rfl
      · have hs := HS.out.step2 (i := 0) (j := 1) (by decide) rfl rfl hk (r' := devR d _) (q' := blkR g 148 _) hd hb (fun _ h => h) (fun _ h => h)
        rw [← St.run_append] at hs hg
        replace HS := Lib.hid hs
        have HG := Lib.hid hg
        clear hs hd hb hk hg b0
        unfold offE
        go_wp2
        refine leave_panic (HS.out.all 4 _ rfl) ?_
        refine (HS.out.putObj (i := 4) rfl _).cut_log (o := (truncOps ep)[m]) rfl rfl ?_ HG.out
        rw [← HU.out, List.append_assoc, List.take_append_getElem]
        exact (List.prefix_append_right_inj _).2 (List.take_prefix _ _)
  case panic =>
    rintro D ch L r2 W' ⟨pre, o, hpre, hgo, hch, rfl⟩ hs
    simp only [Exit.inBlock, Exit.then]
    refine leave_panic (hs.all 4 _ rfl) ?_
    rw [hch]
    exact (hs.putObj (i := 4) rfl _).cut_log rfl rfl hpre hgo
end Go.Proofs.Ytbdomdmnjclpdaa
