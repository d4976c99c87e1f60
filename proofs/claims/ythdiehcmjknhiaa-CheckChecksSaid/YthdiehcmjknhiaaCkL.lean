/-
  tumuluslaw12.Check.
-/
import Derived.Test.YthdiehcmjknhiaaCheck
import Derived.Test.YthdiehcmjknhiaaAppE
import Derived.Deep.CutRange
set_option linter.unusedSimpArgs false
set_option linter.unusedVariables false
set_option maxRecDepth 100000
namespace Go.Proofs.Ythdiehcmjknhiaa
open Go.RowKit Go.Shelf

theorem addrZU (g i : Nat) : (⟨g, 0, none⟩ : Addr).add i = ⟨g, i, none⟩ := by unfold Addr.add; split <;> simp_all
set_option maxHeartbeats 4000000 in
theorem index_anyU (A : Option Addr) (C : Nat) (L : List Int) (x : Int) (w : World) (hc : ∀ (j : Nat) (y : Int), L[j]? = some y → ∃ g, A = some ⟨g, 0, none⟩ ∧ w.cell? ⟨g, j, none⟩ = some (.int .u64 y)) (hl : L.length ≤ 1099511627776) :
    Calls Try.prog 79 #[.slice A L.length C, .int .u64 x] w fun e w' => ∃ i : Int, e = .returned (.int .i64 i) ∧ (0 ≤ i ↔ x ∈ L) ∧ Keep w.heap.size [] w w' := by
  have HC := Lib.hid hc
  have hlI : (L.length : Int) ≤ 1099511627776 := by omega
  clear hc
  go_enter Try.func79, Try.ntmps79
  go_wp2_with fail
  go_loopw [8] (fun v wr => ∃ i : Nat, i ≤ L.length ∧ v = .int .i64 (i : Int) ∧ Keep w.heap.size [] w wr ∧ x ∉ L.take i) (fun v _ => L.length - (intOf v).toNat)
  case atStart => exact ⟨0, Nat.zero_le _, rfl, Keep.refl _ _ _, by simp⟩
  case round =>
    obtain ⟨i, hi, rfl, hkr, hni⟩ := hrel
    have HKR := Lib.hid hkr
    have HNI := Lib.hid hni
    clear hni
    by_cases hlt : i < L.length
    · have hltI : (i : Int) < (L.length : Int) := by omega
      obtain ⟨y, hy⟩ : ∃ y, L[i]? = some y := ⟨_, List.getElem?_eq_getElem hlt⟩
      obtain ⟨g, rfl, hg⟩ := HC.out i y hy
      have hg : wr.cell? ⟨g, i, none⟩ = some (.int .u64 y) := (World.cell?_of_block (hkr.block g (World.block_lt_of_cell? w _ hg) (by simp))).trans hg
      have HY := Lib.hid hy
      clear hkr hy
      by_cases hxy : x = y
      · subst hxy
        go_wp2
        go_ret
        exact ⟨(i : Int), rfl, ⟨fun _ => List.mem_of_getElem? HY.out, fun _ => by omega⟩, HKR.out⟩
      · go_wp2
        refine ⟨⟨i + 1, by omega, by first | rfl | go_num | simp, HKR.out, ?_⟩, by simp [intOf]; omega⟩
        rw [List.take_add_one, HY.out]
        intro hm
        rcases List.mem_append.1 hm with hm | hm
        · exact HNI.out hm
        · simp at hm; exact hxy hm
    · obtain rfl : i = L.length := by omega
      go_wp2
      go_ret
      have := HNI.out
      rw [List.take_length] at this
      exact ⟨-1, rfl, ⟨fun h => absurd h (by decide), fun h => absurd h this⟩, HKR.out⟩
set_option maxHeartbeats 4000000 in
theorem contains_anyU (A : Option Addr) (C : Nat) (L : List Int) (x : Int) (w : World) (hc : ∀ (j : Nat) (y : Int), L[j]? = some y → ∃ g, A = some ⟨g, 0, none⟩ ∧ w.cell? ⟨g, j, none⟩ = some (.int .u64 y)) (hl : L.length ≤ 1099511627776) :
    Calls Try.prog 64 #[.slice A L.length C, .int .u64 x] w fun e w' => e = .returned (.bool (decide (x ∈ L))) ∧ Keep w.heap.size [] w w' := by
  have HI := Lib.hid (fun w h => index_anyU A C L x w h hl)
  have HC := Lib.hid hc
  clear hc
  by_cases hx : x ∈ L
  · rw [decide_eq_true hx]
    go_enter Try.func64, Try.ntmps64
    go_wp2_with fail
    refine (HI.out _ HC.out).mono ?_
    rintro e w1 ⟨i, rfl, hi, hkk⟩
    have HKK := Lib.hid hkk
    have h0 : 0 ≤ i := hi.2 hx
    have H0 := Lib.hid h0
    clear hi hx hkk HI HC h0
    go_wp2
    go_ret
    have h0 := H0.out
    exact ⟨by simp; omega, HKK.out⟩
  · rw [decide_eq_false hx]
    go_enter Try.func64, Try.ntmps64
    go_wp2_with fail
    refine (HI.out _ HC.out).mono ?_
    rintro e w1 ⟨i, rfl, hi, hkk⟩
    have HKK := Lib.hid hkk
    have h0 : ¬ 0 ≤ i := fun h => hx (hi.1 h)
    have H0 := Lib.hid h0
    clear hi hx hkk HI HC h0
    go_wp2
    go_ret
    have h0 := H0.out
    exact ⟨by simp; omega, HKK.out⟩
theorem uw_cells {w : World} {A : Option Addr} {C : Nat} {L : List Int} (h : w.ownsRow 0 26 1 (.slice A L.length C) (uw L).length (uw L)) : ∀ (j : Nat) (x : Int), L[j]? = some x → ∃ g, A = some ⟨g, 0, none⟩ ∧ w.cell? ⟨g, j, none⟩ = some (.int .u64 x) := by
  intro j x hx
  have hj := (List.getElem?_eq_some_iff.1 hx).1
  rcases h.2 with ⟨hv, h0⟩ | ⟨g, cap, cur, hv, _⟩
  · rw [uw_length] at h0; omega
  · injection hv with e1 e2 e3
    refine ⟨g, e1, ?_⟩
    subst e1
    have := h.cells (g := g) rfl j (.int .u64 x) (by simp [uw, hx])
    rwa [addrZU] at this
/-- A name, by the starts: nothing, or one of them. -/
def nmL (L : List Int) (x : Int) : Bool := decide (x = 0 ∨ x ∈ L)
set_option maxHeartbeats 4000000 in
theorem lnames_any (g9 : Nat) (A : Option Addr) (C : Nat) (L : List Int) (x : Int) (w : World) (h9 : Blk w g9 31 #[.slice A L.length C]) (hc : ∀ (j : Nat) (y : Int), L[j]? = some y → ∃ g, A = some ⟨g, 0, none⟩ ∧ w.cell? ⟨g, j, none⟩ = some (.int .u64 y)) (hl : L.length ≤ 1099511627776) :
    Calls Try.prog 63 #[.int .u64 x, .pointer (some ⟨g9, 0, none⟩)] w fun e w' => e = .returned (.bool (nmL L x)) ∧ Keep w.heap.size [] w w' := by
  have HC := Lib.hid (contains_anyU A C L x w hc hl)
  have s0 := h9.cell 0
  simp at s0
  clear hc h9
  by_cases hx : x = 0
  · have e : nmL L x = true := by simp [nmL, hx]
    rw [e]
    subst hx
    clear HC e
    go_enter Try.func63, Try.ntmps63
    go_wp2
    go_ret
    exact ⟨rfl, Keep.refl _ _ _⟩
  · have e : nmL L x = decide (x ∈ L) := by simp [nmL, hx]
    rw [e]
    have hxe : decide (x = 0) = false := by simpa using hx
    have hxb : (x == 0) = false := by simpa using hx
    clear e
    go_enter Try.func63, Try.ntmps63
    go_wp2_with fail
    refine HC.out.mono ?_
    rintro e1 w1 ⟨rfl, hkk⟩
    have HKK := Lib.hid hkk
    clear hkk
    go_wp2
    go_ret
    exact ⟨rfl, HKK.out⟩
theorem ckF_item {t : St} {e : Nat} : ∀ (f p m : Nat) (x : It), (scanF t e f p)[m]? = some x → p ≤ x.p ∧ x.p < e ∧ ((goodAt t e x.p ∧ x = itAt t x.p) ∨ (¬ goodAt t e x.p ∧ x = ⟨x.p, 0, 0, 8⟩))
  | 0, p, m, x, h => by simp [scanF] at h
  | f + 1, p, m, x, h => by
    simp only [scanF] at h
    by_cases h1 : e ≤ p
    · rw [if_pos h1] at h; simp at h
    · rw [if_neg h1] at h
      by_cases h2 : goodAt t e p
      · rw [if_pos h2] at h
        cases m with
        | zero => simp at h; subst h; exact ⟨Nat.le_refl _, by show p < e; omega, .inl ⟨h2, rfl⟩⟩
        | succ m =>
          simp only [List.getElem?_cons_succ] at h
          have ih := ckF_item f _ m x h
          exact ⟨by have := ih.1; unfold nextAt at this; omega, ih.2⟩
      · rw [if_neg h2] at h
        cases m with
        | zero => simp at h; subst h; exact ⟨Nat.le_refl _, by show p < e; omega, .inr ⟨h2, rfl⟩⟩
        | succ m => simp at h
theorem ck_item {t : St} {e p m : Nat} {x : It} (h : (scan t e p)[m]? = some x) : p ≤ x.p ∧ x.p < e ∧ ((goodAt t e x.p ∧ x = itAt t x.p) ∨ (¬ goodAt t e x.p ∧ x = ⟨x.p, 0, 0, 8⟩)) := ckF_item _ _ _ _ h
theorem len_lt {n : Nat} : ∀ {l : List Nat} {lo : Nat}, (∀ x ∈ l, lo ≤ x ∧ x < n) → l.Pairwise (· < ·) → l.length ≤ n - lo
  | [], _, _, _ => by simp
  | a :: l, lo, h, hp => by
    rw [List.pairwise_cons] at hp
    have h1 := len_lt (l := l) (lo := a + 1) (fun x hx => ⟨hp.1 x hx, (h x (by simp [hx])).2⟩) hp.2
    have h2 := h a (by simp)
    simp
    omega
theorem nmOk_starts {t : St} {k : Kfg} {a u : Nat} (h : ∀ x ∈ scan t (k.from_ a + u) (k.from_ a), x.err = 0) (x : Int) : nmOk k a u (mapOf (scan t (k.from_ a + u) (k.from_ a))) x = nmL ((scan t (k.from_ a + u) (k.from_ a)).map fun y => (y.p : Int)) x := by
  rw [Bool.eq_iff_iff]
  unfold nmOk nmL
  rw [Bool.or_eq_true, beq_iff_eq, Bool.and_eq_true, mapOf_some (scan_rise _ _ _), decide_eq_true_iff]
  refine or_congr_right ?_
  constructor
  · rintro ⟨_, h2⟩
    obtain ⟨y, hy, rfl⟩ := List.mem_map.1 h2
    exact List.mem_map.2 ⟨y, (List.mem_filter.1 hy).1, rfl⟩
  · intro h2
    obtain ⟨y, hy, rfl⟩ := List.mem_map.1 h2
    have hin := scan_in hy
    exact ⟨(hasB_iff k a u y.p).2 ⟨hin.1, hin.2⟩, List.mem_map.2 ⟨y, List.mem_filter.2 ⟨hy, by simp [h y hy]⟩, rfl⟩⟩
/-- What the law's Check answers, by its starts. -/
def ckL (t : St) (k : Kfg) (S : List It) : Int :=
  if (List.range k.R).all (fun i => nmL (S.map fun y => (y.p : Int)) (t.nw (k.act + 2 + i))) && S.all (refsOk t (nmL (S.map fun y => (y.p : Int)))) then 0 else 9
theorem checkP_good {t : St} {k : Kfg} {a u : Nat} (h : ∀ x ∈ scan t (k.from_ a + u) (k.from_ a), x.err = 0) : checkP t k a u = ckL t k (scan t (k.from_ a + u) (k.from_ a)) := by
  unfold checkP ckL
  rw [if_neg (by simp [errAt_zero h])]
  have e : nmOk k a u (mapOf (scan t (k.from_ a + u) (k.from_ a))) = nmL ((scan t (k.from_ a + u) (k.from_ a)).map fun y => (y.p : Int)) := funext fun x => nmOk_starts h x
  rw [e]
theorem checkP_bad {t : St} {k : Kfg} {a u p : Nat} {done : List It} (h : scan t (k.from_ a + u) (k.from_ a) = done ++ [⟨p, 0, 0, 8⟩]) : checkP t k a u = 8 := by
  unfold checkP
  have : errAt (scan t (k.from_ a + u) (k.from_ a)) = 8 := by
    unfold errAt
    rw [h, List.getLast?_append]
    rfl
  rw [if_pos (by rw [this]; decide)]
set_option maxRecDepth 100000 in
set_option maxHeartbeats 4000000 in
theorem lawcheck_bad (d : DevI) (t : St) (k : Kfg) (a u : Int) (w : World) (hd : Dev w d t) (hk : k.Ok) (ha : t.nw k.act = a) (hu : t.nw (k.act + 1) = u) (hrg : t.rng) (hbad : 1 < a ∨ (k.S : Int) < u) :
    Calls Try.prog 32 #[.pointer (some ⟨d.b, 0, none⟩), .agg #[.int .i64 (k.L : Int), .int .i64 (k.R : Int), .int .i64 (k.S : Int)]] w fun e w' => e = .returned (.int .i64 10) ∧ Sep w [] [] w' := by
  have HRG := Lib.hid hrg
  have HK := Lib.hid hk
  have HD := Lib.hid hd
  have HS := Lib.hid (Sep.start w [])
  obtain ⟨na, hna⟩ : ∃ na, k.act = na := ⟨_, rfl⟩
  have hna1 := (Kfg.words_le hk)
  have hwS : k.S ≤ 4096 := hk.s1
  have HA := Lib.hid ha
  have HU := Lib.hid hu
  have hx0 := hrg.nw k.act
  have hx1 := hrg.nw (k.act + 1)
  rw [ha] at hx0
  rw [hu] at hx1
  rw [hna] at hna1 HA HU
  have HNA := Lib.hid hna
  clear hd hk ha hu hrg hna
  go_enter Try.func32, Try.ntmps32
  go_wp2_with fail
  replace HS := Lib.hid (HS.out.new 30 #[.int .i64 (k.L : Int), .int .i64 (k.R : Int), .int .i64 (k.S : Int)])
  generalize w.alloc _ = w2 at *
  generalize w.heap.size = gb at *
  have c0 : ∀ x : Ext w2, x.now.cell? ⟨gb, 0, none⟩ = some (.int .i64 (k.L : Int)) := fun x => x.cell (by simpa using (HS.out.blk 0 rfl).cell 0)
  have c1 : ∀ x : Ext w2, x.now.cell? ⟨gb, 1, none⟩ = some (.int .i64 (k.R : Int)) := fun x => x.cell (by simpa using (HS.out.blk 0 rfl).cell 1)
  have c2 : ∀ x : Ext w2, x.now.cell? ⟨gb, 2, none⟩ = some (.int .i64 (k.S : Int)) := fun x => x.cell (by simpa using (HS.out.blk 0 rfl).cell 2)
  have hdv : ∀ x : Ext w2, Dev x.now d t := fun x => HD.out.of_new (HS.out.grow x.keep).keep
  have hac : ∀ w, Calls Try.prog 30 #[.agg #[.int .i64 (k.L : Int), .int .i64 (k.R : Int), .int .i64 (k.S : Int)]] w fun e w' => e = .returned (.int .i64 (na : Int)) ∧ Keep w.heap.size [] w w' := fun w => by have := kactive k w HK.out; rwa [HNA.out] at this
  have hus : ∀ w, Calls Try.prog 25 #[.agg #[.int .i64 (k.L : Int), .int .i64 (k.R : Int), .int .i64 (k.S : Int)]] w fun e w' => e = .returned (.int .i64 ((na : Int) + 1)) ∧ Keep w.heap.size [] w w' := fun w => by have := kused k w HK.out; rwa [HNA.out] at this
  have hl1 : ∀ x : Ext w2, Calls Try.prog 57 #[.pointer (some ⟨d.b, 0, none⟩), .int .i64 (na : Int)] x.now fun e w' => e = .returned (.int .u64 a) ∧ x.now = w' := fun x => load_is d t na _ _ (hdv x) HA.out
  have hl2 : ∀ x : Ext w2, Calls Try.prog 57 #[.pointer (some ⟨d.b, 0, none⟩), .int .i64 ((na : Int) + 1)] x.now fun e w' => e = .returned (.int .u64 u) ∧ x.now = w' := fun x => load_is d t (na + 1) _ _ (hdv x) HU.out
  have HAC := Lib.hid hac
  have HUS := Lib.hid hus
  have HL1 := Lib.hid hl1
  have HL2 := Lib.hid hl2
  clear hdv hac hus hl1 hl2
  refine wp_region_ext (by kernel_rfl) (by kernel_rfl) ?_
  repeat (go_big_quiet_step ((first | (go_at_call 30; with_reducible exact Calls.ext (HAC.out _)) | (go_at_call 25; with_reducible exact Calls.ext (HUS.out _)) | (go_at_call 57; with_reducible exact Calls.ext_same (HL1.out _)) | (go_at_call 57; with_reducible exact Calls.ext_same (HL2.out _)))))
  refine wpQuiet_nil ?_
  rintro _ ⟨x, rfl⟩
  replace HS := Lib.hid (HS.out.grow x.keep)
  clear c0 c1 c2
  have e2 : IntKind.u64.wrap (k.S : Int) = (k.S : Int) := by rw [IntKind.wrap_u64]; omega
  have c0 := (HS.out.blk 0 rfl).cell 0
  simp at c0
  have c1 := (HS.out.blk 0 rfl).cell 1
  simp at c1
  have c2 := (HS.out.blk 0 rfl).cell 2
  simp at c2
  by_cases h1 : 1 < a
  · have e1 : decide (a > 1) = true := by simpa using h1
    go_wp2
    go_ret
    exact ⟨rfl, HS.out.take 0⟩
  · have e1 : decide (a > 1) = false := by simp; omega
    have h2 : (k.S : Int) < u := hbad.resolve_left h1
    have e3 : decide (u > (k.S : Int)) = true := by simpa using h2
    go_wp2
    go_ret
    exact ⟨rfl, HS.out.take 0⟩
set_option maxRecDepth 100000 in
set_option maxHeartbeats 8000000 in
theorem lawcheck_any (d : DevI) (t : St) (k : Kfg) (a u : Nat) (w : World) (hd : Dev w d t) (hk : k.Ok) (ha : t.nw k.act = (a : Int)) (hu : t.nw (k.act + 1) = (u : Int)) (ha1 : a ≤ 1) (hu1 : u ≤ k.S) (hrg : t.rng) :
    Calls Try.prog 32 #[.pointer (some ⟨d.b, 0, none⟩), .agg #[.int .i64 (k.L : Int), .int .i64 (k.R : Int), .int .i64 (k.S : Int)]] w fun e w' => e = .returned (.int .i64 (checkP t k a u)) ∧ Sep w [] [] w' := by
  have hfw := (Kfg.from_words hk (show a ≤ 2 by omega)).2
  obtain ⟨f, hf⟩ : ∃ f, k.from_ a = f := ⟨_, rfl⟩
  rw [hf] at hfw
  have hfr := fun w => kfrom k w hk a (by omega)
  rw [hf] at hfr
  simp only [Kfg.cells] at hfr
  have HFR := Lib.hid hfr
  clear hfr
  have hbadI : a ≤ 1 ∧ u ≤ k.S := ⟨ha1, hu1⟩
  have hkS : k.S ≤ 4096 := hk.s1
  have hkR : k.R ≤ 16 := hk.r1
  have HRG := Lib.hid hrg
  have HK := Lib.hid hk
  have HD := Lib.hid hd
  have HS := Lib.hid (Sep.start w [])
  obtain ⟨na, hna⟩ : ∃ na, k.act = na := ⟨_, rfl⟩
  have hna1 := (Kfg.words_le hk)
  have hwS : k.S ≤ 4096 := hk.s1
  have HA := Lib.hid ha
  have HU := Lib.hid hu
  have hx0 := hrg.nw k.act
  have hx1 := hrg.nw (k.act + 1)
  rw [ha] at hx0
  rw [hu] at hx1
  rw [hna] at hna1 HA HU
  have HNA := Lib.hid hna
  clear hd hk ha hu hrg hna
  go_enter Try.func32, Try.ntmps32
  go_wp2_with fail
  replace HS := Lib.hid (HS.out.new 30 #[.int .i64 (k.L : Int), .int .i64 (k.R : Int), .int .i64 (k.S : Int)])
  generalize w.alloc _ = w2 at *
  generalize w.heap.size = gb at *
  have c0 : ∀ x : Ext w2, x.now.cell? ⟨gb, 0, none⟩ = some (.int .i64 (k.L : Int)) := fun x => x.cell (by simpa using (HS.out.blk 0 rfl).cell 0)
  have c1 : ∀ x : Ext w2, x.now.cell? ⟨gb, 1, none⟩ = some (.int .i64 (k.R : Int)) := fun x => x.cell (by simpa using (HS.out.blk 0 rfl).cell 1)
  have c2 : ∀ x : Ext w2, x.now.cell? ⟨gb, 2, none⟩ = some (.int .i64 (k.S : Int)) := fun x => x.cell (by simpa using (HS.out.blk 0 rfl).cell 2)
  have hdv : ∀ x : Ext w2, Dev x.now d t := fun x => HD.out.of_new (HS.out.grow x.keep).keep
  have hac : ∀ w, Calls Try.prog 30 #[.agg #[.int .i64 (k.L : Int), .int .i64 (k.R : Int), .int .i64 (k.S : Int)]] w fun e w' => e = .returned (.int .i64 (na : Int)) ∧ Keep w.heap.size [] w w' := fun w => by have := kactive k w HK.out; rwa [HNA.out] at this
  have hus : ∀ w, Calls Try.prog 25 #[.agg #[.int .i64 (k.L : Int), .int .i64 (k.R : Int), .int .i64 (k.S : Int)]] w fun e w' => e = .returned (.int .i64 ((na : Int) + 1)) ∧ Keep w.heap.size [] w w' := fun w => by have := kused k w HK.out; rwa [HNA.out] at this
  have hl1 : ∀ x : Ext w2, Calls Try.prog 57 #[.pointer (some ⟨d.b, 0, none⟩), .int .i64 (na : Int)] x.now fun e w' => e = .returned (.int .u64 (a : Int)) ∧ x.now = w' := fun x => load_is d t na _ _ (hdv x) HA.out
  have hl2 : ∀ x : Ext w2, Calls Try.prog 57 #[.pointer (some ⟨d.b, 0, none⟩), .int .i64 ((na : Int) + 1)] x.now fun e w' => e = .returned (.int .u64 (u : Int)) ∧ x.now = w' := fun x => load_is d t (na + 1) _ _ (hdv x) HU.out
  have HAC := Lib.hid hac
  have HUS := Lib.hid hus
  have HL1 := Lib.hid hl1
  have HL2 := Lib.hid hl2
  clear hdv hac hus hl1 hl2
  refine wp_region_ext (by kernel_rfl) (by kernel_rfl) ?_
  repeat (go_big_quiet_step ((first | (go_at_call 30; with_reducible exact Calls.ext (HAC.out _)) | (go_at_call 25; with_reducible exact Calls.ext (HUS.out _)) | (go_at_call 57; with_reducible exact Calls.ext_same (HL1.out _)) | (go_at_call 57; with_reducible exact Calls.ext_same (HL2.out _)))))
  refine wpQuiet_nil ?_
  rintro _ ⟨x, rfl⟩
  replace HS := Lib.hid (HS.out.grow x.keep)
  clear c0 c1 c2
  have e2 : IntKind.u64.wrap (k.S : Int) = (k.S : Int) := by rw [IntKind.wrap_u64]; omega
  have c0 := (HS.out.blk 0 rfl).cell 0
  simp at c0
  have c1 := (HS.out.blk 0 rfl).cell 1
  simp at c1
  have c2 := (HS.out.blk 0 rfl).cell 2
  simp at c2
  have e1 : decide ((a : Int) > 1) = false := by simp; omega
  have e1' : ((1 : Int) < (a : Int)) = False := by simp; omega
  have e1'' : (1 < a) = False := by simp; omega
  have e3 : decide ((u : Int) > (k.S : Int)) = false := by simp; omega
  have e3' : (k.S < u) = False := by simp; omega
  have e3'' : ((k.S : Int) < (u : Int)) = False := by simp; omega
  have e4 : IntKind.i64.wrap (a : Int) = (a : Int) := IntWalk.i64_in _ (by omega)
  have e5 : IntKind.i64.wrap (u : Int) = (u : Int) := IntWalk.i64_in _ (by omega)
  obtain ⟨en, hen⟩ : ∃ en, f + u = en := ⟨_, rfl⟩
  have e6 : IntKind.i64.wrap ((f : Int) + (u : Int)) = (en : Int) := by rw [IntWalk.i64_in _ (by omega)]; omega
  go_wp2_with fail
  refine (HFR.out _).mono ?_
  rintro e7 w3 ⟨rfl, hkk⟩
  replace HS := Lib.hid (HS.out.grow hkk)
  clear hkk HFR
  go_wp2_with fail
  clear e1 e1' e1'' e2 e3 e3' e3'' e4 e5 e6 HAC HUS HL1 HL2 c0 c1 c2
  replace HS := Lib.hid ((HS.out.new 31 #[.slice none 0 0]).nilRow 26)
  generalize w3.alloc _ = w4 at *
  generalize w3.heap.size = g9 at *
  have hen2 : en ≤ 100000 := by omega
  have hfe : f ≤ en := by omega
  have hEN := fun p done (h : scan t en f = done ++ [⟨p, 0, 0, 8⟩]) => checkP_bad (k := k) (a := a) (u := u) (p := p) (done := done) (by rw [hf, hen]; exact h)
  have hEG := fun (h : ∀ x ∈ scan t en f, x.err = 0) => by have := checkP_good (t := t) (k := k) (a := a) (u := u) (by rw [hf, hen]; exact h); rw [hf, hen] at this; exact this
  have HEN := Lib.hid hEN
  have HEG := Lib.hid hEG
  clear hEN hEG hf hen
  go_loopw [10] (fun v10 wr => ∃ (p : Nat) (done : List It) (Ls : List Int) (A : Option Addr) (c : Nat), f ≤ p ∧ p ≤ en ∧ v10 = .int .i64 (p : Int) ∧ scan t en f = done ++ scan t en p ∧ (∀ x ∈ done, x.err = 0) ∧ Ls = (done.map fun y => (y.p : Int)) ∧ Sep w [] [blkR gb 30 #[.int .i64 (k.L : Int), .int .i64 (k.R : Int), .int .i64 (k.S : Int)], blkR g9 31 #[.slice A Ls.length c], rowR 26 (.slice A Ls.length c) (uw Ls)] wr) (fun v10 _ => en - (intOf v10).toNat)
  case atStart => exact ⟨f, [], [], none, 0, by omega, hfe, rfl, rfl, by simp, rfl, HS.out⟩
  case round =>
    clear HS
    obtain ⟨p, done, Ls, A, c, hp1, hp2, rfl, hsc, hdn, hLs, hs⟩ := hrel
    have HS := Lib.hid hs
    have HSC := Lib.hid hsc
    have HDN := Lib.hid hdn
    have HLS := Lib.hid hLs
    clear hs hsc hdn hLs
    by_cases hlt : p < en
    · have hltI : (p : Int) < (en : Int) := by omega
      obtain ⟨xw, hx⟩ : ∃ xw, t.nw p = xw := ⟨_, rfl⟩
      obtain ⟨hx0, hx1⟩ : Wd xw := by rw [← hx]; exact HRG.out.nw p
      obtain ⟨M, hM⟩ : ∃ M, xw % 4294967296 = M := ⟨_, rfl⟩
      obtain ⟨B, hB⟩ : ∃ B, xw / 4294967296 % 16777216 = B := ⟨_, rfl⟩
      have hM0 : 0 ≤ M ∧ M ≤ 4294967295 := by omega
      have hB0 : 0 ≤ B ∧ B ≤ 16777215 := by omega
      have hand1 : bits .and .u64 (xw / 4294967296) 16777215 = B := by rw [and_24 _ (by omega) (by omega), hB]
      have hand2 : bits .and .u64 xw 4294967295 = M := by rw [and_32 _ hx0 hx1, hM]
      obtain ⟨T, hT⟩ : ∃ T, xw / 72057594037927936 = T := ⟨_, rfl⟩
      have hih : isHead xw ↔ T = 177 ∧ M ≤ 64 ∧ B ≤ M := by unfold isHead; rw [hT, hM, hB]
      have hhd : headOf xw = if T = 177 ∧ M ≤ 64 ∧ B ≤ M then (M, B, true) else (0, 0, false) := by
        unfold headOf
        by_cases h : isHead xw
        · rw [if_pos h, if_pos (hih.1 h), hM, hB]
        · rw [if_neg h, if_neg (fun h2 => h (hih.2 h2))]
      have hga : goodAt t en p ↔ (T = 177 ∧ M ≤ 64 ∧ B ≤ M ∧ (p : Int) + 1 + M ≤ (en : Int)) := by
        unfold goodAt
        rw [hx, hhd]
        by_cases h : T = 177 ∧ M ≤ 64 ∧ B ≤ M
        · rw [if_pos h]
          simp only [true_and]
          constructor
          · intro h2; exact ⟨h.1, h.2.1, h.2.2, by omega⟩
          · intro h2; have := h2.2.2.2; omega
        · rw [if_neg h]
          constructor
          · intro h2; exact absurd h2.1 (by simp)
          · intro h2; exact absurd ⟨h2.1, h2.2.1, h2.2.2.1⟩ h
      have HX := Lib.hid hx
      have HHD := Lib.hid hhd
      have HGA := Lib.hid hga
      clear hx hB hM hih hhd hga
      have hMw : IntKind.i64.wrap M = M := IntWalk.i64_in _ (by omega)
      have hpw : IntKind.i64.wrap ((p : Int) + 1) = (p : Int) + 1 := IntWalk.i64_in _ (by omega)
      have hpw2 : IntKind.i64.wrap ((p : Int) + 1 + M) = (p : Int) + 1 + M := IntWalk.i64_in _ (by omega)
      by_cases hgood : T = 177 ∧ M ≤ 64 ∧ B ≤ M ∧ (p : Int) + 1 + M ≤ (en : Int)
      · have hg := HGA.out.2 hgood
        obtain ⟨g1, g2, g3, g4⟩ := hgood
        have hh := HHD.out
        rw [if_pos ⟨g1, g2, g3⟩] at hh
        obtain ⟨q, hq⟩ : ∃ q : Nat, (p : Int) + (1 + M) = (q : Int) := ⟨((p : Int) + (1 + M)).toNat, by omega⟩
        have hnx : nextAt t p = q := by
          unfold nextAt
          rw [HX.out, hh]
          simp only
          omega
        have hok := scan_ok hlt hg
        rw [hnx] at hok
        have hsc2 : scan t en f = (done ++ [itAt t p]) ++ scan t en q := by rw [HSC.out, hok]; simp
        have hdn2 : ∀ x ∈ done ++ [itAt t p], x.err = 0 := fun x hx => (List.mem_append.1 hx).elim (HDN.out x) (fun h => by simp at h; subst h; rfl)
        have hup : Ls ++ [(p : Int)] = (done ++ [itAt t p]).map fun y => (y.p : Int) := by rw [HLS.out]; simp [itAt]
        have hup2 : uw (Ls ++ [(p : Int)]) = uw Ls ++ [.int .u64 (p : Int)] := by simp [uw]
        have hdl : done.length ≤ 100000 := by
          have h1 : (done.map fun y : It => y.p).length ≤ en := by
            refine Nat.le_trans (len_lt (n := en) (lo := 0) (fun x hx => ?_) ?_) (Nat.sub_le _ _)
            · obtain ⟨y, hy, rfl⟩ := List.mem_map.1 hx
              exact ⟨Nat.zero_le _, (scan_in (t := t) (e := en) (p := f) (by rw [HSC.out]; exact List.mem_append_left _ hy)).2⟩
            · have h2 := scan_rise t en f
              rw [HSC.out] at h2
              rw [List.pairwise_map]
              exact (List.pairwise_append.1 h2).1
          simp at h1
          omega
        have HSC2 := Lib.hid hsc2
        have HDN2 := Lib.hid hdn2
        have HUP := Lib.hid hup
        have HUP2 := Lib.hid hup2
        have hdl2 : Ls.length ≤ 100000 := by rw [HLS.out, List.length_map]; exact hdl
        have HDL := Lib.hid hdl2
        have hw1 : IntKind.i64.wrap (1 + M) = 1 + M := IntWalk.i64_in _ (by omega)
        have hw2 : IntKind.i64.wrap ((p : Int) + (1 + M)) = (q : Int) := by rw [IntWalk.i64_in _ (by omega)]; exact hq
        have hpu : IntKind.u64.wrap (p : Int) = (p : Int) := by rw [IntKind.wrap_u64]; omega
        subst g1
        have g2' : ¬ 64 < M := by omega
        have g3' : ¬ M < B := by omega
        have g4' : ¬ (en : Int) < (p : Int) + 1 + M := by omega
        have hqp : p < q ∧ q ≤ en := by omega
        have HQ := Lib.hid hqp
        clear hg hh hnx hok hsc2 hdn2 hup hup2 hdl hdl2 hqp hq HSC HDN HHD HGA
        have s0 := (HS.out.blk 1 rfl).cell 0
        simp at s0
        go_wp2_with fail
        refine (load_is d t p xw _ (HD.out.of_new HS.out.keep) HX.out).mono ?_
        rintro e4 we ⟨rfl, rfl⟩
        clear g2 g3 g4
        go_wp2_with (at_builtin; refine of_stop ?_)
        unfold Stop
        have HS1 := Lib.hid (HS.out.new 26 #[.int .u64 (p : Int)])
        obtain ⟨gn, hgn⟩ : ∃ gn, wr.heap.size = gn := ⟨_, rfl⟩
        rw [hgn] at HS1
        simp only [hgn]
        generalize wr.alloc _ = W3 at *
        clear hgn s0
        have hrd : Rd W3 (.slice (some ⟨gn, 0, none⟩) 1 1) [.int .u64 (p : Int)] := Rd.of_blk (xs := [.int .u64 (p : Int)]) (ex := []) HS1.out.last
        refine wpList_appendE HS1.out 2 rfl rfl _ _ 31 rfl rfl (z := .int .u64 0) (bytes := 8) (by kernel_rfl) rfl (by decide) rfl rfl hrd (by intro u hu; simp at hu; subst hu; rfl) (by have := HDL.out; rw [uw_length]; simp only [List.length_singleton]; omega) ?_
        intro v' W4 hS _
        rw [← HUP2.out] at hS
        obtain ⟨A2, c2, hv2⟩ := rowR_val (hS.row 2 rfl)
        rw [uw_length] at hv2
        subst hv2
        clear hrd
        have z0 := (hS.blk 1 rfl).frozen 0
        have v0 := (hS.blk 1 rfl).cell 0
        simp at v0
        have hput := hS.put (i := 1) rfl 0 (.slice A2 (Ls ++ [(p : Int)]).length c2)
        have HS2 := Lib.hid (show Sep w [] [blkR gb 30 #[.int .i64 (k.L : Int), .int .i64 (k.R : Int), .int .i64 (k.S : Int)], blkR g9 31 #[.slice A2 (Ls ++ [(p : Int)]).length c2], rowR 26 (.slice A2 (Ls ++ [(p : Int)]).length c2) (uw (Ls ++ [(p : Int)]))] _ from hput.take 3)
        clear hS hput HS1 HS
        obtain ⟨dn, hdn⟩ : ∃ dn, done ++ [itAt t p] = dn := ⟨_, rfl⟩
        rw [hdn] at HSC2 HDN2 HUP
        clear hdn
        obtain ⟨Ls2, hl2⟩ : ∃ Ls2, Ls ++ [(p : Int)] = Ls2 := ⟨_, rfl⟩
        rw [hl2] at HS2 HUP
        simp only [hl2]
        clear hl2
        go_wp2
        have := HQ.out
        exact ⟨⟨q, dn, Ls2, A2, c2, by omega, by omega, rfl, HSC2.out, HDN2.out, HUP.out, HS2.out⟩, by simp [intOf]; omega⟩
      · have hg : ¬ goodAt t en p := fun h => hgood (HGA.out.1 h)
        have hb := scan_bad hlt hg
        have hsc8 := HEN.out p done (by rw [HSC.out, hb])
        have HC8 := Lib.hid hsc8
        have hg2 : ¬ T = 177 ∨ 64 < M ∨ M < B ∨ (en : Int) < (p : Int) + 1 + M := by omega
        clear hgood hg hb hsc8 HHD HGA
        go_wp2_with fail
        refine (load_is d t p xw _ (HD.out.of_new HS.out.keep) HX.out).mono ?_
        rintro e4 we ⟨rfl, rfl⟩
        by_cases g1 : T = 177
        rotate_left
        · clear hg2
          go_wp2
          go_ret
          exact ⟨by rw [HC8.out]; rfl, HS.out.take 0⟩
        subst g1
        by_cases g2 : 64 < M
        · clear hg2
          go_wp2
          go_ret
          exact ⟨by rw [HC8.out]; rfl, HS.out.take 0⟩
        by_cases g3 : M < B
        · clear hg2
          go_wp2
          go_ret
          exact ⟨by rw [HC8.out]; rfl, HS.out.take 0⟩
        have g4 : (en : Int) < (p : Int) + 1 + M := by omega
        clear hg2
        go_wp2
        go_ret
        exact ⟨by rw [HC8.out]; rfl, HS.out.take 0⟩
    · have hltI : ¬ (p : Int) < (en : Int) := by omega
      obtain rfl : p = en := by omega
      have hall : scan t p f = done := by rw [HSC.out, scan_end (Nat.le_refl _), List.append_nil]
      have hck := HEG.out (by rw [hall]; exact HDN.out)
      rw [hall] at hck
      have hit : ∀ x ∈ done, x.b = t.nw x.p / 4294967296 % 16777216 ∧ x.p < p := fun x hx => by
        have h1 := scan_in (t := t) (e := p) (p := f) (by rw [hall]; exact hx)
        refine ⟨?_, h1.2⟩
        obtain ⟨m, hm⟩ := List.mem_iff_getElem?.1 (show x ∈ scan t p f by rw [hall]; exact hx)
        rcases (ck_item hm).2.2 with ⟨hg, he⟩ | ⟨_, he⟩
        · rw [he]
          simp only [itAt]
          have h2 := hg.1
          unfold headOf at h2 ⊢
          split
          · rfl
          · rename_i h3; rw [if_neg h3] at h2; simp at h2
        · have := HDN.out x hx
          rw [he] at this
          simp at this
      have hll : Ls.length ≤ 100000 := by
        have h1 : (done.map fun y : It => y.p).length ≤ p := by
          refine Nat.le_trans (len_lt (n := p) (lo := 0) (fun x hx => ?_) ?_) (Nat.sub_le _ _)
          · obtain ⟨y, hy, rfl⟩ := List.mem_map.1 hx
            exact ⟨Nat.zero_le _, (hit y hy).2⟩
          · have h2 := scan_rise t p f
            rw [hall] at h2
            rw [List.pairwise_map]
            exact h2
        rw [HLS.out, List.length_map]
        simp at h1
        omega
      have hln := fun x w h9 hc => lnames_any g9 A c Ls x w h9 hc (by omega)
      have hck2 : checkP t k a u = if (List.range k.R).all (fun i => nmL Ls (t.nw (k.act + 2 + i))) && done.all (refsOk t (nmL Ls)) then 0 else 9 := by rw [hck, HLS.out]; rfl
      rw [HNA.out] at hck2
      have hlz : Ls.length = done.length := by rw [HLS.out, List.length_map]
      have hat : ∀ (j : Nat) (x : It), done[j]? = some x → Ls[j]? = some (x.p : Int) := fun j x hx => by rw [HLS.out, List.getElem?_map, hx]; rfl
      have hkr := fun (i m : Nat) (w : World) (hi : i ≤ 1000000) (hm : na + 2 + i = m) => kroot_eq k w HK.out i m hi (by rw [HNA.out]; exact hm)
      simp only [Kfg.cells] at hkr
      have HKR := Lib.hid hkr
      have HLN := Lib.hid hln
      have HCK := Lib.hid hck2
      have HIT := Lib.hid hit
      have HLZ := Lib.hid hlz
      have HAT := Lib.hid hat
      clear hall hck hit hln hck2 hlz hat hkr HSC HDN HLS HEN HEG
      have c1 := (HS.out.blk 0 rfl).cell 1
      simp at c1
      go_wp2_with fail
      clear c1
      go_loopw [90] (fun v90 wr => ∃ i : Nat, i ≤ k.R ∧ v90 = .int .i64 (i : Int) ∧ (∀ j, j < i → nmL Ls (t.nw (na + 2 + j)) = true) ∧ Sep w [] [blkR gb 30 #[.int .i64 (k.L : Int), .int .i64 (k.R : Int), .int .i64 (k.S : Int)], blkR g9 31 #[.slice A Ls.length c], rowR 26 (.slice A Ls.length c) (uw Ls)] wr) (fun v90 _ => k.R - (intOf v90).toNat)
      case atStart => exact ⟨0, by omega, rfl, by simp, HS.out⟩
      case round =>
        clear HS
        obtain ⟨i, hi, rfl, hok, hs⟩ := hrel
        have HS := Lib.hid hs
        have HOK := Lib.hid hok
        clear hs hok
        by_cases hlt : i < k.R
        · have hltI : (i : Int) < (k.R : Int) := by omega
          obtain ⟨m, hm⟩ : ∃ m, na + 2 + i = m := ⟨_, rfl⟩
          obtain ⟨x, hx⟩ : ∃ x, t.nw m = x := ⟨_, rfl⟩
          obtain ⟨B, hB⟩ : ∃ B, nmL Ls x = B := ⟨_, rfl⟩
          have HM := Lib.hid hm
          have HX := Lib.hid hx
          have HB := Lib.hid hB
          clear hm hx hB
          have c0 := (HS.out.blk 0 rfl).cell 0
          simp at c0
          have c1 := (HS.out.blk 0 rfl).cell 1
          simp at c1
          have c2 := (HS.out.blk 0 rfl).cell 2
          simp at c2
          go_wp2_with fail
          refine (HKR.out i m _ (by omega) HM.out).mono ?_
          rintro e4 we ⟨rfl, hkk⟩
          replace HS := Lib.hid (HS.out.grow hkk)
          clear hkk c0 c1 c2
          go_wp2_with fail
          refine (load_is d t m x _ (HD.out.of_new HS.out.keep) HX.out).mono ?_
          rintro e4 we ⟨rfl, rfl⟩
          go_wp2_with fail
          refine (HLN.out x _ (HS.out.blk 1 rfl) (uw_cells (HS.out.row 2 rfl))).mono ?_
          rintro e4 we ⟨rfl, hkk⟩
          rw [HB.out]
          replace HS := Lib.hid (HS.out.grow hkk)
          clear hkk
          cases B with
          | false =>
            have h9 : checkP t k a u = 9 := by
              rw [HCK.out, if_neg]
              intro h
              rw [Bool.and_eq_true] at h
              have h2 := List.all_eq_true.1 h.1 i (List.mem_range.2 hlt)
              rw [HM.out, HX.out, HB.out] at h2
              exact absurd h2 (by decide)
            have H9 := Lib.hid h9
            clear h9
            go_wp2
            go_ret
            exact ⟨by rw [H9.out]; rfl, HS.out.take 0⟩
          | true =>
            have hok2 : ∀ j, j < i + 1 → nmL Ls (t.nw (na + 2 + j)) = true := fun j hj => by
              rcases Nat.lt_or_ge j i with h | h
              · exact HOK.out j h
              · obtain rfl : j = i := by omega
                rw [HM.out, HX.out, HB.out]
            have HOK2 := Lib.hid hok2
            clear hok2 HOK
            go_wp2
            exact ⟨⟨i + 1, by omega, by first | rfl | go_num | simp, HOK2.out, HS.out⟩, by simp [intOf]; omega⟩
        · have hltI : ¬ (i : Int) < (k.R : Int) := by omega
          obtain rfl : i = k.R := by omega
          have hroots : (List.range k.R).all (fun i => nmL Ls (t.nw (na + 2 + i))) = true := List.all_eq_true.2 fun j hj => HOK.out j (List.mem_range.1 hj)
          have hck3 := HCK.out
          rw [hroots, Bool.true_and] at hck3
          replace HCK := Lib.hid hck3
          clear hroots hck3 HOK HKR
          have s0 := (HS.out.blk 1 rfl).cell 0
          simp at s0
          go_wp2_with fail
          clear s0
          go_loopw [104] (fun v104 wr => ∃ j : Nat, j ≤ done.length ∧ v104 = .int .i64 (j : Int) ∧ (∀ (m : Nat) (x : It), m < j → done[m]? = some x → refsOk t (nmL Ls) x = true) ∧ Sep w [] [blkR gb 30 #[.int .i64 (k.L : Int), .int .i64 (k.R : Int), .int .i64 (k.S : Int)], blkR g9 31 #[.slice A Ls.length c], rowR 26 (.slice A Ls.length c) (uw Ls)] wr) (fun v104 _ => done.length - (intOf v104).toNat)
          case atStart => exact ⟨0, by omega, rfl, by simp, HS.out⟩
          case round =>
            clear HS
            obtain ⟨j, hj, rfl, hok, hs⟩ := hrel
            have HS := Lib.hid hs
            have HOK := Lib.hid hok
            clear hs hok
            by_cases hjt : j < done.length
            · have hjl : j < Ls.length := by rw [HLZ.out]; exact hjt
              have hjI : (j : Int) < (Ls.length : Int) := by omega
              obtain ⟨x, hx⟩ : ∃ x, done[j]? = some x := ⟨_, List.getElem?_eq_getElem hjt⟩
              obtain ⟨hxb, hxp⟩ := HIT.out x (List.mem_of_getElem? hx)
              obtain ⟨g, hg, k0⟩ := uw_cells (HS.out.row 2 rfl) j _ (HAT.out j x hx)
              subst hg
              obtain ⟨q, hq⟩ : ∃ q, x.p = q := ⟨_, rfl⟩
              obtain ⟨xw, hxw⟩ : ∃ xw, t.nw q = xw := ⟨_, rfl⟩
              have hwr : 0 ≤ xw ∧ xw ≤ 18446744073709551615 := by rw [← hxw]; exact HRG.out.nw q
              rw [hq, hxw] at hxb
              rw [hq] at hxp k0
              obtain ⟨Bn, hBn⟩ : ∃ Bn : Nat, x.b = (Bn : Int) := ⟨x.b.toNat, by omega⟩
              rw [hBn] at hxb
              have hBl : Bn ≤ 16777215 := by omega
              have hand1 : bits .and .u64 (xw / 4294967296) 16777215 = (Bn : Int) := by rw [and_24 _ (by omega) (by omega)]; omega
              have hqw : IntKind.i64.wrap (q : Int) = (q : Int) := IntWalk.i64_in _ (by omega)
              have hBw : IntKind.i64.wrap (Bn : Int) = (Bn : Int) := IntWalk.i64_in _ (by omega)
              have hrf : ∀ h : Bool, refsOk t (nmL Ls) x = h ↔ ((List.range Bn).all fun i => nmL Ls (t.nw (q + 1 + i))) = h := fun h => by unfold refsOk; rw [hBn, hq]; simp
              have HXW := Lib.hid hxw
              have HX := Lib.hid hx
              have HRF := Lib.hid hrf
              clear hx hxw hwr hxb hBn hrf hq
              go_wp2_with fail
              refine (load_is d t q xw _ (HD.out.of_new HS.out.keep) HXW.out).mono ?_
              rintro e4 we ⟨rfl, rfl⟩
              go_wp2_with fail
              clear k0
              go_loopw [115] (fun v115 wr => ∃ i : Nat, i ≤ Bn ∧ v115 = .int .i64 (i : Int) ∧ (∀ m, m < i → nmL Ls (t.nw (q + 1 + m)) = true) ∧ Sep w [] [blkR gb 30 #[.int .i64 (k.L : Int), .int .i64 (k.R : Int), .int .i64 (k.S : Int)], blkR g9 31 #[.slice (some ⟨g, 0, none⟩) Ls.length c], rowR 26 (.slice (some ⟨g, 0, none⟩) Ls.length c) (uw Ls)] wr) (fun v115 _ => Bn - (intOf v115).toNat)
              case atStart => exact ⟨0, by omega, rfl, by simp, HS.out⟩
              case round =>
                clear HS
                obtain ⟨i, hi, rfl, hok, hs⟩ := hrel
                have HS := Lib.hid hs
                have HOKI := Lib.hid hok
                clear hs hok
                by_cases hit : i < Bn
                · have hitI : (i : Int) < (Bn : Int) := by omega
                  obtain ⟨m, hm⟩ : ∃ m, q + 1 + i = m := ⟨_, rfl⟩
                  obtain ⟨y, hy⟩ : ∃ y, t.nw m = y := ⟨_, rfl⟩
                  obtain ⟨B, hB⟩ : ∃ B, nmL Ls y = B := ⟨_, rfl⟩
                  have hq1 : IntKind.i64.wrap ((q : Int) + 1) = (q : Int) + 1 := IntWalk.i64_in _ (by omega)
                  have hq2 : IntKind.i64.wrap ((q : Int) + 1 + (i : Int)) = (m : Int) := by rw [IntWalk.i64_in _ (by omega)]; omega
                  have HM := Lib.hid hm
                  have HY := Lib.hid hy
                  have HB := Lib.hid hB
                  clear hm hy hB
                  go_wp2_with fail
                  refine (load_is d t m y _ (HD.out.of_new HS.out.keep) HY.out).mono ?_
                  rintro e4 we ⟨rfl, rfl⟩
                  go_wp2_with fail
                  refine (HLN.out y _ (HS.out.blk 1 rfl) (uw_cells (HS.out.row 2 rfl))).mono ?_
                  rintro e4 we ⟨rfl, hkk⟩
                  rw [HB.out]
                  replace HS := Lib.hid (HS.out.grow hkk)
                  clear hkk
                  cases B with
                  | false =>
                    have h9 : checkP t k a u = 9 := by
                      rw [HCK.out, if_neg]
                      intro h
                      have h2 := List.all_eq_true.1 h x (List.mem_of_getElem? HX.out)
                      have h3 := List.all_eq_true.1 ((HRF.out true).1 h2) i (List.mem_range.2 hit)
                      rw [HM.out, HY.out, HB.out] at h3
                      exact absurd h3 (by decide)
                    have H9 := Lib.hid h9
                    clear h9
                    go_wp2
                    go_ret
                    exact ⟨by rw [H9.out]; rfl, HS.out.take 0⟩
                  | true =>
                    have hok2 : ∀ m, m < i + 1 → nmL Ls (t.nw (q + 1 + m)) = true := fun j hj => by
                      rcases Nat.lt_or_ge j i with h | h
                      · exact HOKI.out j h
                      · obtain rfl : j = i := by omega
                        rw [HM.out, HY.out, HB.out]
                    have HOK2 := Lib.hid hok2
                    clear hok2 HOKI
                    go_wp2
                    exact ⟨⟨i + 1, by omega, by first | rfl | go_num | simp, HOK2.out, HS.out⟩, by simp [intOf]; omega⟩
                · have hitI : ¬ (i : Int) < (Bn : Int) := by omega
                  obtain rfl : i = Bn := by omega
                  have hok2 : ∀ (m : Nat) (x : It), m < j + 1 → done[m]? = some x → refsOk t (nmL Ls) x = true := fun m z hm hz => by
                    rcases Nat.lt_or_ge m j with h | h
                    · exact HOK.out m z h hz
                    · obtain rfl : m = j := by omega
                      rw [HX.out] at hz
                      injection hz with hz
                      subst hz
                      exact (HRF.out true).2 (List.all_eq_true.2 fun r hr => HOKI.out r (List.mem_range.1 hr))
                  have HOK2 := Lib.hid hok2
                  clear hok2 HOKI HOK
                  go_wp2
                  exact ⟨⟨j + 1, by omega, by first | rfl | go_num | simp, HOK2.out, HS.out⟩, by simp [intOf]; omega⟩
            · have hjl : ¬ j < Ls.length := by rw [HLZ.out]; exact hjt
              have hjI : ¬ (j : Int) < (Ls.length : Int) := by omega
              obtain rfl : j = done.length := by omega
              have h0 : checkP t k a u = 0 := by
                rw [HCK.out, if_pos]
                refine List.all_eq_true.2 fun x hx => ?_
                obtain ⟨m, hm⟩ := List.mem_iff_getElem?.1 hx
                exact HOK.out m x (List.getElem?_eq_some_iff.1 hm).1 hm
              have H0 := Lib.hid h0
              clear h0
              go_wp2
              go_ret
              exact ⟨by rw [H0.out]; rfl, HS.out.take 0⟩

/-- The one check answers what the other one does. -/
theorem both_checks (d : DevI) (t : St) (k : Kfg) (hk : k.Ok) (hl : t.now.length = k.words) (hrg : t.rng) :
    ∃ Z : Int, (∀ w, Dev w d t → Calls Try.prog 28 #[.pointer (some ⟨d.b, 0, none⟩), .agg #[.int .i64 (k.L : Int), .int .i64 (k.R : Int), .int .i64 (k.S : Int)]] w fun e w' => e = .returned (.int .i64 Z) ∧ Sep w [] [] w') ∧
      (∀ w, Dev w d t → Calls Try.prog 32 #[.pointer (some ⟨d.b, 0, none⟩), .agg #[.int .i64 (k.L : Int), .int .i64 (k.R : Int), .int .i64 (k.S : Int)]] w fun e w' => e = .returned (.int .i64 Z) ∧ Sep w [] [] w') := by
  have h0 := hrg.nw k.act
  have h1 := hrg.nw (k.act + 1)
  by_cases hbad : 1 < t.nw k.act ∨ (k.S : Int) < t.nw (k.act + 1)
  · exact ⟨10, fun w hd => heap_bad d t k _ _ w hd hk hl rfl rfl hbad, fun w hd => lawcheck_bad d t k _ _ w hd hk rfl rfl hrg hbad⟩
  · obtain ⟨a, ha⟩ : ∃ a : Nat, t.nw k.act = (a : Int) := ⟨(t.nw k.act).toNat, by have := h0.1; omega⟩
    obtain ⟨u, hu⟩ : ∃ u : Nat, t.nw (k.act + 1) = (u : Int) := ⟨(t.nw (k.act + 1)).toNat, by have := h1.1; omega⟩
    rw [ha, hu] at hbad
    exact ⟨checkP t k a u, fun w hd => heap_check d t k a u w hd hk hl ha hu (by omega) (by omega) hrg, fun w hd => lawcheck_any d t k a u w hd hk ha hu (by omega) (by omega) hrg⟩
end Go.Proofs.Ythdiehcmjknhiaa
