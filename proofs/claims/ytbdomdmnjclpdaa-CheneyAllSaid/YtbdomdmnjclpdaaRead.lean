/-
  super.Read: a device's config, or why there is none.
  tumuluslaw05.Formatted: a new device, formatted.
-/
import Derived.Test.YtbdomdmnjclpdaaFormat
set_option linter.unusedSimpArgs false
set_option linter.unusedVariables false
set_option maxRecDepth 100000
namespace Go.Proofs.Ytbdomdmnjclpdaa
open Go.RowKit Go.Shelf

theorem load_nat (d : DevI) (s : St) (k : Nat) (w : World) (h : Dev w d s) :
    Calls Try.prog 32 #[.pointer (some ⟨d.b, 0, none⟩), .int .i64 k] w fun e w' => e = .returned (.int .u64 (s.nw k)) ∧ w = w' := by
  have := load_any d s k w h
  rwa [wordAt_nat] at this

/-- What Read answers: the config, an error. -/
structure Reads (v0 v1 v2 v3 : Int) (n : Nat) (a b c e : Int) : Prop where
  magic : v0 ≠ MAGIC → a = 0 ∧ b = 0 ∧ c = 0 ∧ e = 7
  big : v0 = MAGIC → 4096 < v1 ∨ 4096 < v2 ∨ 4096 < v3 → a = 0 ∧ b = 0 ∧ c = 0 ∧ e = 1
  bad : v0 = MAGIC → v1 ≤ 4096 → v2 ≤ 4096 → v3 ≤ 4096 → ¬ ((Kfg.mk v1.toNat v2.toNat v3.toNat).Ok ∧ n = (Kfg.mk v1.toNat v2.toNat v3.toNat).words) → a = 0 ∧ b = 0 ∧ c = 0 ∧ e = 1
  good : v0 = MAGIC → v1 ≤ 4096 → v2 ≤ 4096 → v3 ≤ 4096 → ((Kfg.mk v1.toNat v2.toNat v3.toNat).Ok ∧ n = (Kfg.mk v1.toNat v2.toNat v3.toNat).words) → a = v1 ∧ b = v2 ∧ c = v3 ∧ e = 0
theorem reads_ex (v0 v1 v2 v3 : Int) (n : Nat) : ∃ a b c e, Reads v0 v1 v2 v3 n a b c e := by
  by_cases h0 : v0 = MAGIC
  · by_cases hb : 4096 < v1 ∨ 4096 < v2 ∨ 4096 < v3
    · exact ⟨0, 0, 0, 1, fun h => absurd h0 h, fun _ _ => ⟨rfl, rfl, rfl, rfl⟩, fun _ h1 h2 h3 => by omega, fun _ h1 h2 h3 => by omega⟩
    · by_cases hg : (Kfg.mk v1.toNat v2.toNat v3.toNat).Ok ∧ n = (Kfg.mk v1.toNat v2.toNat v3.toNat).words
      · exact ⟨v1, v2, v3, 0, fun h => absurd h0 h, fun _ h => absurd h hb, fun _ _ _ _ h => absurd hg h, fun _ _ _ _ _ => ⟨rfl, rfl, rfl, rfl⟩⟩
      · exact ⟨0, 0, 0, 1, fun h => absurd h0 h, fun _ h => absurd h hb, fun _ _ _ _ _ => ⟨rfl, rfl, rfl, rfl⟩, fun _ _ _ _ h => absurd h hg⟩
  · exact ⟨0, 0, 0, 7, fun _ => ⟨rfl, rfl, rfl, rfl⟩, fun h => absurd h h0, fun h => absurd h h0, fun h => absurd h h0⟩

set_option maxRecDepth 100000 in
set_option maxHeartbeats 2000000 in
theorem read_any (d : DevI) (s : St) (a b c er : Int) (w : World) (h : Dev w d s) (v1 : 0 ≤ s.nw 1) (v2 : 0 ≤ s.nw 2) (v3 : 0 ≤ s.nw 3) (hr : Reads (s.nw 0) (s.nw 1) (s.nw 2) (s.nw 3) s.now.length a b c er) :
    Calls Try.prog 90 #[.pointer (some ⟨d.b, 0, none⟩)] w fun e w' => e = .returned (.tuple #[.agg #[.int .i64 a, .int .i64 b, .int .i64 c], .int .i64 er]) ∧ Keep w.heap.size [] w w' := by
  have H := Lib.hid h
  have HR := Lib.hid hr
  have HS := Lib.hid ((Sep.start w []).new 30 #[.int .i64 0, .int .i64 0, .int .i64 0])
  obtain ⟨x0, hx0⟩ : ∃ x, s.nw 0 = x := ⟨_, rfl⟩
  obtain ⟨x1, hx1⟩ : ∃ x, s.nw 1 = x := ⟨_, rfl⟩
  obtain ⟨x2, hx2⟩ : ∃ x, s.nw 2 = x := ⟨_, rfl⟩
  obtain ⟨x3, hx3⟩ : ∃ x, s.nw 3 = x := ⟨_, rfl⟩
  rw [hx0, hx1, hx2, hx3] at HR
  rw [hx1] at v1
  rw [hx2] at v2
  rw [hx3] at v3
  have HX0 := Lib.hid hx0
  have HX1 := Lib.hid hx1
  have HX2 := Lib.hid hx2
  have HX3 := Lib.hid hx3
  clear h hr hx0 hx1 hx2 hx3
  by_cases h0 : x0 = MAGIC
  · have H0 := Lib.hid h0
    clear h0
    go_enter Try.func90, Try.ntmps90
    go_wp2_with fail
    generalize w.alloc _ = w2 at *
    generalize w.heap.size = gr at *
    refine (load_nat d s 0 _ (H.out.of_new HS.out.keep)).mono ?_
    rintro e w' ⟨rfl, rfl⟩
    rw [HX0.out, H0.out]
    unfold MAGIC
    replace HS := Lib.hid (HS.out.new 151 #[.int .i64 0, .int .i64 0, .int .i64 0])
    go_wp2_with fail
    generalize w2.alloc _ = w3 at *
    generalize w2.heap.size = gl at *
    go_loopw [12] (fun v' wr => ∃ (j : Nat) (y1 y2 y3 : Int), j ≤ 3 ∧ v' = .int .i64 (j : Int) ∧ (1 ≤ j → y1 = x1 ∧ x1 ≤ 4096) ∧ (2 ≤ j → y2 = x2 ∧ x2 ≤ 4096) ∧ (3 ≤ j → y3 = x3 ∧ x3 ≤ 4096) ∧
      Sep w [] [blkR gr 30 #[.int .i64 0, .int .i64 0, .int .i64 0], blkR gl 151 #[.int .i64 y1, .int .i64 y2, .int .i64 y3]] wr) (fun v' _ => 3 - (intOf v').toNat)
    case atStart => exact ⟨0, 0, 0, 0, by omega, rfl, by omega, by omega, by omega, HS.out⟩
    case round =>
      clear HS
      obtain ⟨j, y1, y2, y3, hj, rfl, hy1, hy2, hy3, hs⟩ := hrel
      have HS := Lib.hid hs
      clear hs
      rcases (show j = 0 ∨ j = 1 ∨ j = 2 ∨ j = 3 by omega) with rfl | rfl | rfl | rfl
      · by_cases hbig : 4096 < x1
        · obtain ⟨rfl, rfl, rfl, rfl⟩ := HR.out.big H0.out (.inl hbig)
          have r0 := (HS.out.blk 0 rfl).cell 0
          simp at r0
          have r1 := (HS.out.blk 0 rfl).cell 1
          simp at r1
          have r2 := (HS.out.blk 0 rfl).cell 2
          simp at r2
          have f0 := (HS.out.blk 0 rfl).frozen 0
          have f1 := (HS.out.blk 0 rfl).frozen 1
          have f2 := (HS.out.blk 0 rfl).frozen 2
          clear hy1 hy2 hy3
          go_wp2_with fail
          refine (load_nat d s 1 _ (H.out.of_new HS.out.keep)).mono ?_
          rintro e w' ⟨rfl, rfl⟩
          rw [HX1.out]
          go_wp2
          replace HS := Lib.hid (((HS.out.put (i := 0) rfl 0 (.int .i64 0)).put (i := 0) rfl 1 (.int .i64 0)).put (i := 0) rfl 2 (.int .i64 0))
          clear r0 r1 r2 f0 f1 f2
          generalize ((wr.setCell _ _).setCell _ _).setCell _ _ = w9 at *
          have r0 := (HS.out.blk 0 rfl).cell 0
          simp at r0
          have r1 := (HS.out.blk 0 rfl).cell 1
          simp at r1
          have r2 := (HS.out.blk 0 rfl).cell 2
          simp at r2
          exact bodyPost_ret (v := .tuple #[.agg #[.int .i64 0, .int .i64 0, .int .i64 0], .int .i64 1]) (by simp [results, Try.results90, go_sem, r0, r1, r2]) rfl ⟨rfl, HS.out.keep⟩
        · have hsm : x1 ≤ 4096 := by omega
          have q0 := (HS.out.blk 1 rfl).cell 0
          simp at q0
          have q1 := (HS.out.blk 1 rfl).cell 1
          simp at q1
          have q2 := (HS.out.blk 1 rfl).cell 2
          simp at q2
          have fq := (HS.out.blk 1 rfl).frozen 0
          have HY1 := Lib.hid hy1
          have HY2 := Lib.hid hy2
          have HY3 := Lib.hid hy3
          clear hy1 hy2 hy3
          go_wp2_with fail
          refine (load_nat d s 1 _ (H.out.of_new HS.out.keep)).mono ?_
          rintro e w' ⟨rfl, rfl⟩
          rw [HX1.out]
          go_wp2
          exact ⟨⟨1, x1, y2, y3, by omega, by first | rfl | go_num | simp, fun _ => ⟨rfl, hsm⟩, fun h => by omega, fun h => by omega, HS.out.put (i := 1) rfl 0 _⟩, by simp [intOf]⟩
      · by_cases hbig : 4096 < x2
        · obtain ⟨rfl, rfl, rfl, rfl⟩ := HR.out.big H0.out (.inr (.inl hbig))
          have r0 := (HS.out.blk 0 rfl).cell 0
          simp at r0
          have r1 := (HS.out.blk 0 rfl).cell 1
          simp at r1
          have r2 := (HS.out.blk 0 rfl).cell 2
          simp at r2
          have f0 := (HS.out.blk 0 rfl).frozen 0
          have f1 := (HS.out.blk 0 rfl).frozen 1
          have f2 := (HS.out.blk 0 rfl).frozen 2
          clear hy1 hy2 hy3
          go_wp2_with fail
          refine (load_nat d s 2 _ (H.out.of_new HS.out.keep)).mono ?_
          rintro e w' ⟨rfl, rfl⟩
          rw [HX2.out]
          go_wp2
          replace HS := Lib.hid (((HS.out.put (i := 0) rfl 0 (.int .i64 0)).put (i := 0) rfl 1 (.int .i64 0)).put (i := 0) rfl 2 (.int .i64 0))
          clear r0 r1 r2 f0 f1 f2
          generalize ((wr.setCell _ _).setCell _ _).setCell _ _ = w9 at *
          have r0 := (HS.out.blk 0 rfl).cell 0
          simp at r0
          have r1 := (HS.out.blk 0 rfl).cell 1
          simp at r1
          have r2 := (HS.out.blk 0 rfl).cell 2
          simp at r2
          exact bodyPost_ret (v := .tuple #[.agg #[.int .i64 0, .int .i64 0, .int .i64 0], .int .i64 1]) (by simp [results, Try.results90, go_sem, r0, r1, r2]) rfl ⟨rfl, HS.out.keep⟩
        · have hsm : x2 ≤ 4096 := by omega
          have q0 := (HS.out.blk 1 rfl).cell 0
          simp at q0
          have q1 := (HS.out.blk 1 rfl).cell 1
          simp at q1
          have q2 := (HS.out.blk 1 rfl).cell 2
          simp at q2
          have fq := (HS.out.blk 1 rfl).frozen 1
          have HY1 := Lib.hid hy1
          have HY2 := Lib.hid hy2
          have HY3 := Lib.hid hy3
          clear hy1 hy2 hy3
          go_wp2_with fail
          refine (load_nat d s 2 _ (H.out.of_new HS.out.keep)).mono ?_
          rintro e w' ⟨rfl, rfl⟩
          rw [HX2.out]
          go_wp2
          exact ⟨⟨2, y1, x2, y3, by omega, by first | rfl | go_num | simp, fun _ => HY1.out (by omega), fun _ => ⟨rfl, hsm⟩, fun h => by omega, HS.out.put (i := 1) rfl 1 _⟩, by simp [intOf]⟩
      · by_cases hbig : 4096 < x3
        · obtain ⟨rfl, rfl, rfl, rfl⟩ := HR.out.big H0.out (.inr (.inr hbig))
          have r0 := (HS.out.blk 0 rfl).cell 0
          simp at r0
          have r1 := (HS.out.blk 0 rfl).cell 1
          simp at r1
          have r2 := (HS.out.blk 0 rfl).cell 2
          simp at r2
          have f0 := (HS.out.blk 0 rfl).frozen 0
          have f1 := (HS.out.blk 0 rfl).frozen 1
          have f2 := (HS.out.blk 0 rfl).frozen 2
          clear hy1 hy2 hy3
          go_wp2_with fail
          refine (load_nat d s 3 _ (H.out.of_new HS.out.keep)).mono ?_
          rintro e w' ⟨rfl, rfl⟩
          rw [HX3.out]
          go_wp2
          replace HS := Lib.hid (((HS.out.put (i := 0) rfl 0 (.int .i64 0)).put (i := 0) rfl 1 (.int .i64 0)).put (i := 0) rfl 2 (.int .i64 0))
          clear r0 r1 r2 f0 f1 f2
          generalize ((wr.setCell _ _).setCell _ _).setCell _ _ = w9 at *
          have r0 := (HS.out.blk 0 rfl).cell 0
          simp at r0
          have r1 := (HS.out.blk 0 rfl).cell 1
          simp at r1
          have r2 := (HS.out.blk 0 rfl).cell 2
          simp at r2
          exact bodyPost_ret (v := .tuple #[.agg #[.int .i64 0, .int .i64 0, .int .i64 0], .int .i64 1]) (by simp [results, Try.results90, go_sem, r0, r1, r2]) rfl ⟨rfl, HS.out.keep⟩
        · have hsm : x3 ≤ 4096 := by omega
          have q0 := (HS.out.blk 1 rfl).cell 0
          simp at q0
          have q1 := (HS.out.blk 1 rfl).cell 1
          simp at q1
          have q2 := (HS.out.blk 1 rfl).cell 2
          simp at q2
          have fq := (HS.out.blk 1 rfl).frozen 2
          have HY1 := Lib.hid hy1
          have HY2 := Lib.hid hy2
          have HY3 := Lib.hid hy3
          clear hy1 hy2 hy3
          go_wp2_with fail
          refine (load_nat d s 3 _ (H.out.of_new HS.out.keep)).mono ?_
          rintro e w' ⟨rfl, rfl⟩
          rw [HX3.out]
          go_wp2
          exact ⟨⟨3, y1, y2, x3, by omega, by first | rfl | go_num | simp, fun _ => HY1.out (by omega), fun _ => HY2.out (by omega), fun _ => ⟨rfl, hsm⟩, HS.out.put (i := 1) rfl 2 _⟩, by simp [intOf]⟩
      · obtain ⟨rfl, hx1⟩ := hy1 (by omega)
        obtain ⟨rfl, hx2⟩ := hy2 (by omega)
        obtain ⟨rfl, hx3⟩ := hy3 (by omega)
        clear hy1 hy2 hy3
        obtain ⟨L, rfl⟩ := Int.eq_ofNat_of_zero_le v1
        obtain ⟨R, rfl⟩ := Int.eq_ofNat_of_zero_le v2
        obtain ⟨S, rfl⟩ := Int.eq_ofNat_of_zero_le v3
        have hbad := HR.out.bad H0.out hx1 hx2 hx3
        have hgood := HR.out.good H0.out hx1 hx2 hx3
        simp only [Int.toNat_natCast] at hbad hgood
        have HB := Lib.hid hbad
        have HG := Lib.hid hgood
        obtain ⟨n, hn⟩ : ∃ n, s.now.length = n := ⟨_, rfl⟩
        rw [hn] at HB HG
        have HN := Lib.hid hn
        clear hbad hgood hn
        have q0 := (HS.out.blk 1 rfl).cell 0
        simp at q0
        have q1 := (HS.out.blk 1 rfl).cell 1
        simp at q1
        have q2 := (HS.out.blk 1 rfl).cell 2
        simp at q2
        replace HS := Lib.hid (HS.out.new 30 #[.int .i64 (L : Int), .int .i64 (R : Int), .int .i64 (S : Int)])
        go_wp2_with fail
        generalize wr.alloc _ = w4 at *
        generalize wr.heap.size = gk at *
        have hlen : ∀ x : Ext w4, Calls Try.prog 69 #[.pointer (some ⟨d.b, 0, none⟩)] x.now fun e w' => e = .returned (.int .i64 n) ∧ x.now = w' := fun x => by
          have := len_any d s x.now (H.out.of_new (HS.out.grow x.keep).keep)
          rwa [HN.out] at this
        have HLEN := Lib.hid hlen
        clear hlen
        by_cases hok : (Kfg.mk L R S).Ok
        · have HOK := Lib.hid hok
          by_cases hw : n = (Kfg.mk L R S).words
          · obtain ⟨rfl, rfl, rfl, rfl⟩ := HG.out ⟨hok, hw⟩
            obtain rfl := hw
            clear hok
            clear q0 q1 q2
            have c0 : ∀ x : Ext w4, x.now.cell? ⟨gk, 0, none⟩ = some (.int .i64 (L : Int)) := fun x => x.cell (by simpa using (HS.out.blk 2 rfl).cell 0)
            have c1 : ∀ x : Ext w4, x.now.cell? ⟨gk, 1, none⟩ = some (.int .i64 (R : Int)) := fun x => x.cell (by simpa using (HS.out.blk 2 rfl).cell 1)
            have c2 : ∀ x : Ext w4, x.now.cell? ⟨gk, 2, none⟩ = some (.int .i64 (S : Int)) := fun x => x.cell (by simpa using (HS.out.blk 2 rfl).cell 2)
            refine wp_region_ext (by kernel_rfl) (by kernel_rfl) ?_
            repeat (go_big_quiet_step ((first | (go_at_call 68; with_reducible exact Calls.ext (kcheck (Kfg.mk L R S) _ HOK.out)) | (go_at_call 69; with_reducible exact Calls.ext_same (HLEN.out _)) | (go_at_call 60; with_reducible exact Calls.ext (kwords (Kfg.mk L R S) _ HOK.out)))))
            refine wpQuiet_nil ?_
            rintro _ ⟨x, rfl⟩
            replace HS := Lib.hid (HS.out.grow x.keep)
            clear c0 c1 c2
            have c0 := (HS.out.blk 2 rfl).cell 0
            simp at c0
            have c1 := (HS.out.blk 2 rfl).cell 1
            simp at c1
            have c2 := (HS.out.blk 2 rfl).cell 2
            simp at c2
            have r0 := (HS.out.blk 0 rfl).cell 0
            simp at r0
            have r1 := (HS.out.blk 0 rfl).cell 1
            simp at r1
            have r2 := (HS.out.blk 0 rfl).cell 2
            simp at r2
            have f0 := (HS.out.blk 0 rfl).frozen 0
            have f1 := (HS.out.blk 0 rfl).frozen 1
            have f2 := (HS.out.blk 0 rfl).frozen 2
            go_wp2
            replace HS := Lib.hid (((HS.out.put (i := 0) rfl 0 (.int .i64 (L : Int))).put (i := 0) rfl 1 (.int .i64 (R : Int))).put (i := 0) rfl 2 (.int .i64 (S : Int)))
            clear r0 r1 r2 f0 f1 f2
            generalize ((x.now.setCell _ _).setCell _ _).setCell _ _ = w9 at *
            have r0 := (HS.out.blk 0 rfl).cell 0
            simp at r0
            have r1 := (HS.out.blk 0 rfl).cell 1
            simp at r1
            have r2 := (HS.out.blk 0 rfl).cell 2
            simp at r2
            exact bodyPost_ret (v := .tuple #[.agg #[.int .i64 (L : Int), .int .i64 (R : Int), .int .i64 (S : Int)], .int .i64 0]) (by simp [results, Try.results90, go_sem, r0, r1, r2]) rfl ⟨rfl, HS.out.keep⟩
          · obtain ⟨rfl, rfl, rfl, rfl⟩ := HB.out (fun h => hw h.2)
            have hne : ((n : Int) == ((Kfg.mk L R S).words : Int)) = false := by rw [beq_eq_false_iff_ne]; omega
            have hne2 : ((n : Int) != ((Kfg.mk L R S).words : Int)) = true := by simp [bne, hne]
            clear hok hw
            clear q0 q1 q2
            have c0 : ∀ x : Ext w4, x.now.cell? ⟨gk, 0, none⟩ = some (.int .i64 (L : Int)) := fun x => x.cell (by simpa using (HS.out.blk 2 rfl).cell 0)
            have c1 : ∀ x : Ext w4, x.now.cell? ⟨gk, 1, none⟩ = some (.int .i64 (R : Int)) := fun x => x.cell (by simpa using (HS.out.blk 2 rfl).cell 1)
            have c2 : ∀ x : Ext w4, x.now.cell? ⟨gk, 2, none⟩ = some (.int .i64 (S : Int)) := fun x => x.cell (by simpa using (HS.out.blk 2 rfl).cell 2)
            refine wp_region_ext (by kernel_rfl) (by kernel_rfl) ?_
            repeat (go_big_quiet_step ((first | (go_at_call 68; with_reducible exact Calls.ext (kcheck (Kfg.mk L R S) _ HOK.out)) | (go_at_call 69; with_reducible exact Calls.ext_same (HLEN.out _)) | (go_at_call 60; with_reducible exact Calls.ext (kwords (Kfg.mk L R S) _ HOK.out)))))
            refine wpQuiet_nil ?_
            rintro _ ⟨x, rfl⟩
            replace HS := Lib.hid (HS.out.grow x.keep)
            clear c0 c1 c2
            have r0 := (HS.out.blk 0 rfl).cell 0
            simp at r0
            have r1 := (HS.out.blk 0 rfl).cell 1
            simp at r1
            have r2 := (HS.out.blk 0 rfl).cell 2
            simp at r2
            have f0 := (HS.out.blk 0 rfl).frozen 0
            have f1 := (HS.out.blk 0 rfl).frozen 1
            have f2 := (HS.out.blk 0 rfl).frozen 2
            go_wp2
            replace HS := Lib.hid (((HS.out.put (i := 0) rfl 0 (.int .i64 0)).put (i := 0) rfl 1 (.int .i64 0)).put (i := 0) rfl 2 (.int .i64 0))
            clear r0 r1 r2 f0 f1 f2
            generalize ((x.now.setCell _ _).setCell _ _).setCell _ _ = w9 at *
            have r0 := (HS.out.blk 0 rfl).cell 0
            simp at r0
            have r1 := (HS.out.blk 0 rfl).cell 1
            simp at r1
            have r2 := (HS.out.blk 0 rfl).cell 2
            simp at r2
            exact bodyPost_ret (v := .tuple #[.agg #[.int .i64 0, .int .i64 0, .int .i64 0], .int .i64 1]) (by simp [results, Try.results90, go_sem, r0, r1, r2]) rfl ⟨rfl, HS.out.keep⟩
        · obtain ⟨rfl, rfl, rfl, rfl⟩ := HB.out (fun h => hok h.1)
          have hck : ∀ w, Calls Try.prog 68 #[.agg #[.int .i64 (L : Int), .int .i64 (R : Int), .int .i64 (S : Int)]] w fun e w' => e = .returned (.int .i64 1) ∧ Keep w.heap.size [] w w' := fun w => by
            have := check_any ⟨L, R, S⟩ w
            rw [errIf_no _ _ _ (fun h => hok ⟨by show 1 ≤ R; omega, by show R ≤ 16; omega, by show R + 2 ≤ L; omega, by show L ≤ 200; omega, by show 8 ≤ S; omega, by show S ≤ 4096; omega⟩)] at this
            exact this
          have HCK := Lib.hid hck
          clear hok hck
          clear q0 q1 q2
          have c0 : ∀ x : Ext w4, x.now.cell? ⟨gk, 0, none⟩ = some (.int .i64 (L : Int)) := fun x => x.cell (by simpa using (HS.out.blk 2 rfl).cell 0)
          have c1 : ∀ x : Ext w4, x.now.cell? ⟨gk, 1, none⟩ = some (.int .i64 (R : Int)) := fun x => x.cell (by simpa using (HS.out.blk 2 rfl).cell 1)
          have c2 : ∀ x : Ext w4, x.now.cell? ⟨gk, 2, none⟩ = some (.int .i64 (S : Int)) := fun x => x.cell (by simpa using (HS.out.blk 2 rfl).cell 2)
          refine wp_region_ext (by kernel_rfl) (by kernel_rfl) ?_
          repeat (go_big_quiet_step ((first | (go_at_call 68; with_reducible exact Calls.ext (HCK.out _)))))
          refine wpQuiet_nil ?_
          rintro _ ⟨x, rfl⟩
          replace HS := Lib.hid (HS.out.grow x.keep)
          clear c0 c1 c2
          have r0 := (HS.out.blk 0 rfl).cell 0
          simp at r0
          have r1 := (HS.out.blk 0 rfl).cell 1
          simp at r1
          have r2 := (HS.out.blk 0 rfl).cell 2
          simp at r2
          have f0 := (HS.out.blk 0 rfl).frozen 0
          have f1 := (HS.out.blk 0 rfl).frozen 1
          have f2 := (HS.out.blk 0 rfl).frozen 2
          go_wp2
          replace HS := Lib.hid (((HS.out.put (i := 0) rfl 0 (.int .i64 0)).put (i := 0) rfl 1 (.int .i64 0)).put (i := 0) rfl 2 (.int .i64 0))
          clear r0 r1 r2 f0 f1 f2
          generalize ((x.now.setCell _ _).setCell _ _).setCell _ _ = w9 at *
          have r0 := (HS.out.blk 0 rfl).cell 0
          simp at r0
          have r1 := (HS.out.blk 0 rfl).cell 1
          simp at r1
          have r2 := (HS.out.blk 0 rfl).cell 2
          simp at r2
          exact bodyPost_ret (v := .tuple #[.agg #[.int .i64 0, .int .i64 0, .int .i64 0], .int .i64 1]) (by simp [results, Try.results90, go_sem, r0, r1, r2]) rfl ⟨rfl, HS.out.keep⟩
  · have hne : (x0 != MAGIC) = true := by simp [h0]
    have hne2 : (x0 == MAGIC) = false := by simp [h0]
    obtain ⟨rfl, rfl, rfl, rfl⟩ := HR.out.magic h0
    have HNE := Lib.hid hne
    clear h0 hne hne2
    go_enter Try.func90, Try.ntmps90
    go_wp2_with fail
    generalize w.alloc _ = w2 at *
    generalize w.heap.size = gr at *
    refine (load_nat d s 0 _ (H.out.of_new HS.out.keep)).mono ?_
    rintro e w' ⟨rfl, rfl⟩
    rw [HX0.out]
    have hne := HNE.out
    unfold MAGIC at hne
    have r0 := (HS.out.blk 0 rfl).cell 0
    simp at r0
    have r1 := (HS.out.blk 0 rfl).cell 1
    simp at r1
    have r2 := (HS.out.blk 0 rfl).cell 2
    simp at r2
    have f0 := (HS.out.blk 0 rfl).frozen 0
    have f1 := (HS.out.blk 0 rfl).frozen 1
    have f2 := (HS.out.blk 0 rfl).frozen 2
    go_wp2
    replace HS := Lib.hid (((HS.out.put (i := 0) rfl 0 (.int .i64 0)).put (i := 0) rfl 1 (.int .i64 0)).put (i := 0) rfl 2 (.int .i64 0))
    clear r0 r1 r2 f0 f1 f2
    generalize ((w2.setCell _ _).setCell _ _).setCell _ _ = w9 at *
    have r0 := (HS.out.blk 0 rfl).cell 0
    simp at r0
    have r1 := (HS.out.blk 0 rfl).cell 1
    simp at r1
    have r2 := (HS.out.blk 0 rfl).cell 2
    simp at r2
    exact bodyPost_ret (v := .tuple #[.agg #[.int .i64 0, .int .i64 0, .int .i64 0], .int .i64 7]) (by simp [results, Try.results90, go_sem, r0, r1, r2]) rfl ⟨rfl, HS.out.keep⟩
end Go.Proofs.Ytbdomdmnjclpdaa
set_option linter.unusedSimpArgs false
set_option linter.unusedVariables false
set_option maxRecDepth 100000
namespace Go.Proofs.Ytbdomdmnjclpdaa
open Go.RowKit Go.Shelf

theorem make_words (n : Nat) (w : World) (hn : n ≤ 1000000000) : (Instr.makeSlice 31 (.int .i64 n) (.int .i64 n)).run Try.prog w = .ok (.slice (some ⟨w.heap.size, 0, none⟩) n n) (w.alloc (.cells (uw (List.replicate n 0)).toArray 38)) := by
  obtain ⟨i0, hi, hz0, hz1, hz2⟩ := info_parts info_word
  have := run_make (P := Try.prog) w 31 38 i0 (.int .u64 0) underlying_words hi hz0 .i64 .i64 n n (by omega) (by omega) (by rw [hz2]; omega) (by omega)
  rw [hz1, made_words] at this
  simpa using this
theorem uw_set (xs : List Int) (j : Nat) (v : Int) : (uw xs).toArray.setIfInBounds j (.int .u64 v) = (uw (xs.set j v)).toArray := by
  simp [uw, List.map_set]

/-- Old words, again and again. -/
def fillAt (old : List Int) (i : Nat) : Int := old.getD (i % old.length) 0
def fillTo (old : List Int) (n j : Nat) : List Int := (List.range n).map fun i => if i < j then fillAt old i else 0
def fill (old : List Int) (n : Nat) : List Int := fillTo old n n
theorem fillTo_length (old : List Int) (n j : Nat) : (fillTo old n j).length = n := by simp [fillTo]
theorem fillTo_get (old : List Int) (n j i : Nat) : (fillTo old n j)[i]? = if i < n then some (if i < j then fillAt old i else 0) else none := by
  simp only [fillTo, List.getElem?_map]
  by_cases h : i < n
  · simp [h]
  · simp [h]
theorem fillTo_zero (old : List Int) (n : Nat) : fillTo old n 0 = List.replicate n 0 := by
  apply List.ext_getElem?
  intro i
  rw [fillTo_get, List.getElem?_replicate]
  simp
theorem fillTo_set (old : List Int) (n j : Nat) : (fillTo old n j).set j (fillAt old j) = fillTo old n (j + 1) := by
  apply List.ext_getElem?
  intro i
  rw [List.getElem?_set, fillTo_get, fillTo_get, fillTo_length]
  by_cases hij : j = i
  · subst hij
    by_cases h : j < n <;> simp [h]
  · by_cases h : i < n
    · have : i < j + 1 ↔ i < j := by omega
      simp [h, hij, this]
    · simp [h, hij]
theorem fillTo_none (n j : Nat) : fillTo [] n (j + 1) = fillTo [] n j := by
  apply List.ext_getElem?
  intro i
  rw [fillTo_get, fillTo_get]
  have : fillAt [] i = 0 := by simp [fillAt]
  by_cases h : i < n <;> by_cases h2 : i < j <;> by_cases h3 : i < j + 1 <;> simp [h, h2, h3, this]
theorem fill_getD (old : List Int) (n i : Nat) (h : i < n) : (fill old n).getD i 0 = fillAt old i := by
  rw [List.getD_eq_getElem?_getD, fill, fillTo_get, if_pos h, if_pos h]; rfl
theorem fillAt_range (old : List Int) (h : ∀ x ∈ old, 0 ≤ x ∧ x ≤ 18446744073709551615) (i : Nat) : 0 ≤ fillAt old i ∧ fillAt old i ≤ 18446744073709551615 := by
  unfold fillAt
  rw [List.getD_eq_getElem?_getD]
  cases hx : old[i % old.length]? with
  | none => simp
  | some x => exact h x (List.mem_of_getElem? hx)

set_option maxRecDepth 100000 in
set_option maxHeartbeats 2000000 in
theorem formatted_any (k : Kfg) (v : Value) (old : List Int) (w : World) (hk : k.Ok) (hv : Rd w v (uw old)) (hl : old.length ≤ 1000000) :
    Calls Try.prog 43 #[.agg k.cells, v] w fun e w' => ∃ d : DevI, e = .returned (.tuple #[.pointer (some ⟨d.b, 0, none⟩), .bool true]) ∧ (∀ j ∈ d.blocks, w.heap.size ≤ j) ∧ Dev w' d ((St.fresh (-1) 0 (fill old k.words)).run (fmtOps k)) ∧ Keep w.heap.size [] w w' := by
  obtain ⟨A, c, rfl, hrd⟩ := hv.cellAt
  have HS := Lib.hid ((Sep.start w []).new 30 k.cells)
  have HV := Lib.hid hv
  have HK := Lib.hid hk
  obtain ⟨n, hn⟩ : ∃ n, k.words = n := ⟨_, rfl⟩
  have hnl : n ≤ 10000 := by have := (Kfg.words_le hk).2; omega
  have HN := Lib.hid hn
  have hmk := fun w => make_words n w (by omega)
  have hkw := fun w => kwords k w hk
  rw [hn] at hkw
  have HKW := Lib.hid hkw
  clear hv hk hrd hn hkw
  simp only [Kfg.cells] at HS ⊢
  go_enter Try.func43, Try.ntmps43
  go_wp2_with fail
  generalize w.alloc _ = w2 at *
  generalize w.heap.size = gc at *
  refine (HKW.out _).mono ?_
  rintro e w1 ⟨rfl, hk⟩
  replace HS := Lib.hid (HS.out.grow hk)
  clear hk
  go_wp2_with fail
  have hs1 := HS.out.new 38 (uw (List.replicate n 0)).toArray
  rw [← fillTo_zero old n] at hs1
  replace HS := Lib.hid hs1
  clear hs1 hmk
  rw [← fillTo_zero old n]
  generalize w1.alloc _ = w3 at *
  generalize w1.heap.size = gl at *
  go_loopw [14] (fun v' wr => ∃ j : Nat, j ≤ n ∧ v' = .int .i64 (j : Int) ∧ Sep w [] [blkR gc 30 #[.int .i64 (k.L : Int), .int .i64 (k.R : Int), .int .i64 (k.S : Int)], blkR gl 38 (uw (fillTo old n j)).toArray] wr) (fun v' _ => n - (intOf v').toNat)
  case atStart => exact ⟨0, by omega, rfl, HS.out⟩
  case round =>
    clear HS
    obtain ⟨j, hj, rfl, hs⟩ := hrel
    have HS := Lib.hid hs
    clear hs
    by_cases hlt : j < n
    · have hltI : (j : Int) < n := by omega
      by_cases h0 : old.length = 0
      · obtain rfl : old = [] := List.length_eq_zero_iff.1 h0
        have hs := HS.out
        rw [← fillTo_none] at hs
        have HS2 := Lib.hid hs
        clear hs HS h0
        go_wp2
        exact ⟨⟨j + 1, by omega, by go_num, HS2.out⟩, by simp [intOf]; omega⟩
      · have hp : (0 : Int) < old.length := by omega
        obtain ⟨m, hm, hmn, hm2⟩ := tmod_some (j : Int) old.length (by omega) (by omega)
        obtain ⟨A', c', hA, hr⟩ := (HV.out.keep HS.out.keep).cellAt
        injection hA with e1 e2 e3
        subst e1
        obtain ⟨g, off, rfl, k0⟩ := hr m hmn
        have hfa : old.getD m 0 = fillAt old j := by
          unfold fillAt
          congr 1
          omega
        rw [hfa] at k0
        have hmI : (m : Int) < old.length := by omega
        have hb := HS.out.blk 1 rfl
        have q0 : ∃ u, wr.cell? ⟨gl, j, none⟩ = some (.int .u64 u) := by
          rw [hb.cell]
          exact ⟨if j < j then fillAt old j else 0, by rw [getElem?_toArray_uw, fillTo_get, if_pos hlt]; rfl⟩
        obtain ⟨u, q0⟩ := q0
        have fz := hb.frozen j
        have hs := HS.out.put (i := 1) rfl j (.int .u64 (fillAt old j))
        rw [uw_set, fillTo_set] at hs
        have HS2 := Lib.hid hs
        clear hr e2 e3 hfa hb hs h0
        go_wp2
        exact ⟨⟨j + 1, by omega, by go_num, HS2.out⟩, by simp [intOf]; omega⟩
    · have hge : (n : Int) ≤ j := by omega
      obtain rfl : j = n := by omega
      have hfl : (fill old j).length = j := fillTo_length _ _ _
      have hrd : Rd wr (.slice (some ⟨gl, 0, none⟩) j j) (uw (fill old j)) := by
        have hb := HS.out.blk 1 rfl
        have := Rd.of_uw (w := wr) (n := j) (ex := []) (xs := fillTo old j j) (by rw [List.append_nil]; exact hb)
        rwa [fillTo_length] at this
      have HRD := Lib.hid hrd
      have HFL := Lib.hid hfl
      clear hrd hfl
      go_wp2_with fail
      refine (new2_any _ (fill old j) _ HRD.out (by rw [HFL.out]; omega)).mono ?_
      rintro e w1 ⟨d, rfl, hdb, hd, hk⟩
      replace HS := Lib.hid (HS.out.add hk (r := devR d _) hd hdb)
      clear hdb hd hk
      have c0 := (HS.out.blk 0 rfl).cell 0
      simp at c0
      have c1 := (HS.out.blk 0 rfl).cell 1
      simp at c1
      have c2 := (HS.out.blk 0 rfl).cell 2
      simp at c2
      go_wp2_with fail
      refine (format_any d _ k _ (HS.out.dev 2 rfl) HK.out (by show (pad (fill old j)).length = k.words; rw [pad_of (by rw [HFL.out, ← HN.out]; exact k.words_mod), HFL.out, HN.out])).mono ?_
      rintro e w4 hp
      obtain ⟨rfl, hd, hk⟩ := hp.free (by show (-1 : Int) < 0; decide)
      replace HS := Lib.hid (HS.out.did (i := 2) rfl hd hk)
      clear hp hd hk c0 c1 c2
      go_wp2
      go_ret2
      refine ⟨d, rfl, fun x hx => ?_, HN.out ▸ HS.out.dev 2 rfl, HS.out.keep⟩
      rcases Nat.lt_or_ge x w.heap.size with hlt | hge
      · exact absurd (HS.out.old 2 _ rfl x hx hlt) (by simp)
      · exact hge
end Go.Proofs.Ytbdomdmnjclpdaa
