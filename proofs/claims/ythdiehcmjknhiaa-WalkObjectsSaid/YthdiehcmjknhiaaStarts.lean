/-
  Package walk: Starts.
-/
import Derived.Test.YthdiehcmjknhiaaWalk
set_option linter.unusedSimpArgs false
set_option linter.unusedVariables false
set_option maxRecDepth 100000
namespace Go.Proofs.Ythdiehcmjknhiaa
open Go.RowKit Go.Shelf

attribute [local go_sem] Oper.semAt_some

theorem map_len {P : Program} {w : World} {r : Nat} {kd : IntKind} {m : Int → Option Value} {T K E ty : TypeId} (h : IMap w r kd m) (hT : P.underlying T = some (.map K E)) (ks : List Int) (hn : ks.Nodup) (hk : ∀ j, (m j).isSome = true ↔ j ∈ ks) :
    (Builtin.len_ #[T] ty #[.map (some r)]).run P w = .ok (.int .i64 (ks.length : Int)) w := by
  obtain ⟨L, clk, hb, hm⟩ := h
  have hg : (getObj r).run P w = .ok (.map (L.map (ment kd)).toArray clk) w := by simp [getObj, Sem.run, hb]
  have hlen : L.length = ks.length := by
    have hp : (L.map (·.1)).Perm ks := by
      refine (List.perm_ext_iff_of_nodup hm.keys hn).2 fun j => ?_
      rw [← hk j]
      constructor
      · intro hj
        obtain ⟨⟨a, u, b⟩, hx, rfl⟩ := List.mem_map.1 hj
        rw [(hm.has a u).2 ⟨b, hx⟩]; rfl
      · intro hj
        obtain ⟨u, hu⟩ := Option.isSome_iff_exists.1 hj
        obtain ⟨b, hx⟩ := (hm.has j u).1 hu
        exact List.mem_map.2 ⟨_, hx, rfl⟩
    have := hp.length_eq
    simpa using this
  simp [Builtin.len_, run_underlying hT, hg, hlen, goInt]
theorem zero_ob (w : World) : (zeroValue 44).run Try.prog w = .ok (.agg #[.int .i64 0, .int .i64 0, .int .i64 0]) w := by kernel_rfl
theorem u_starts : Try.prog.underlying 50 = some (.map 3 44) := by kernel_rfl

set_option maxRecDepth 100000 in
set_option maxHeartbeats 8000000 in
theorem starts_any (d : DevI) (t : St) (k : Kfg) (a u e f : Nat) (RA : Option Addr) (RL RC : Nat) (w : World) (hd : Dev w d t) (hk : k.Ok) (ha : a ≤ 1) (hu : u ≤ k.S) (hf : k.from_ a = f) (he : f + u = e) (hrg : t.rng) :
    Calls Try.prog 21 #[.pointer (some ⟨d.b, 0, none⟩), .agg #[.int .i64 (k.L : Int), .int .i64 (k.R : Int), .int .i64 (k.S : Int)], .agg #[.int .i64 (a : Int), .int .i64 (u : Int), .slice RA RL RC]] w fun e' w' => ∃ mr, e' = .returned (.tuple #[.map (some mr), .int .i64 (errAt (scan t e f))]) ∧ Sep w [] [mapR mr (mapOf (scan t e f))] w' := by
  have HD := Lib.hid hd
  have HK := Lib.hid hk
  have HRG := Lib.hid hrg
  have HSEQ := Lib.hid (fun gb gk gd => objs_seq d t k a u e f gb gk gd RA RL RC hk ha hu hf he hrg)
  obtain ⟨its, hits⟩ : ∃ its, scan t e f = its := ⟨_, rfl⟩
  rw [hits] at HSEQ
  have hsr : ∀ (m : Nat) (x : It), its[m]? = some x → x.err ≠ 0 → m + 1 = its.length ∧ x.err = 8 := by rw [← hits]; exact fun m x h hx => scan_err h hx
  have hez : (∀ x ∈ its, x.err = 0) → errAt its = 0 := by rw [← hits]; exact errAt_zero
  have hes : ∀ (m : Nat) (x : It), its[m]? = some x → x.err ≠ 0 → errAt its = x.err := by rw [← hits]; exact fun m x h hx => errAt_some h hx
  rw [hits]
  have HSR := Lib.hid hsr
  have HEZ := Lib.hid hez
  have HES := Lib.hid hes
  clear hd hk hrg hits hsr hez hes
  have HS := Lib.hid (Sep.start w [])
  refine calls_of_wpFr Try.func21 rfl ?_
  simp only [Try.ntmps21, List.size_toArray, List.length_cons, List.length_nil, Nat.reduceAdd, Nat.reduceSub, Array.replicate_succ,
     Array.replicate_zero, List.push_toArray, List.append_toArray, List.nil_append, List.cons_append]
  refine wpFr_seq ?_
  refine wpFr_of_wp ?_
  go_wp2
  replace HS := Lib.hid ((((HS.out.new 30 #[.int .i64 (k.L : Int), .int .i64 (k.R : Int), .int .i64 (k.S : Int)]).new 33 #[.int .i64 (a : Int), .int .i64 (u : Int), .slice RA RL RC]).new 50 #[.map none]).new 38 #[.int .i64 0])
  simp only [World.size_alloc] at HS
  generalize (((w.alloc _).alloc _).alloc _).alloc _ = w1 at *
  generalize w.heap.size = g4 at *
  generalize g4 + 1 = g5 at *
  generalize g5 + 1 = g6 at *
  generalize g6 + 1 = g7 at *
  refine wpFr_seq (wpFr_of_wp ?_)
  have hmm := @run_makeMap Try.prog
  go_wp2
  clear hmm
  replace HS := Lib.hid ((HS.out.add ((Keep.refl _ _ _).alloc (Nat.le_refl _) _) (r := mapR w1.heap.size (fun _ => none)) (IMap.new w1 .i64) (by simp [mapR])).new 50 #[.map (some w1.heap.size)])
  simp only [World.size_alloc] at HS
  generalize (w1.alloc _).alloc _ = w2 at *
  generalize w1.heap.size = mr at *
  generalize mr + 1 = g8 at *
  refine wpFr_seq (wpFr_seq (wpFr_of_wp ?_))
  have c0 := (HS.out.blk 0 rfl).cell 0
  simp at c0
  have c1 := (HS.out.blk 0 rfl).cell 1
  simp at c1
  have c2 := (HS.out.blk 0 rfl).cell 2
  simp at c2
  have b0 := (HS.out.blk 1 rfl).cell 0
  simp at b0
  have b1 := (HS.out.blk 1 rfl).cell 1
  simp at b1
  have b2 := (HS.out.blk 1 rfl).cell 2
  simp at b2
  go_wp2_with fail
  refine (objects_any _ _ _ _ _ _ _ _ ⟨_, rfl⟩ ⟨_, _, _, rfl, rfl, rfl⟩ ⟨_, _, _, _, _, rfl, rfl, rfl⟩).mono ?_
  rintro e1 w3 ⟨rfl, rfl⟩
  replace HS := Lib.hid (((HS.out.new 28 #[.pointer (some ⟨d.b, 0, none⟩)]).new 30 #[.int .i64 (k.L : Int), .int .i64 (k.R : Int), .int .i64 (k.S : Int)]).new 33 #[.int .i64 (a : Int), .int .i64 (u : Int), .slice RA RL RC])
  simp only [World.size_alloc] at HS
  generalize ((w2.alloc _).alloc _).alloc _ = w3 at *
  generalize w2.heap.size = gd at *
  generalize gd + 1 = gk at *
  generalize gk + 1 = gb at *
  replace HS : Hid (Sep w [] [blkR g4 30 #[.int .i64 (k.L : Int), .int .i64 (k.R : Int), .int .i64 (k.S : Int)], blkR g5 33 #[.int .i64 (a : Int), .int .i64 (u : Int), .slice RA RL RC], blkR g6 50 #[.map none], blkR g7 38 #[.int .i64 0], mapR mr (fun _ => none), blkR g8 50 #[.map (some mr)], blkR gd 28 #[.pointer (some ⟨d.b, 0, none⟩)], blkR gk 30 #[.int .i64 (k.L : Int), .int .i64 (k.R : Int), .int .i64 (k.S : Int)], blkR gb 33 #[.int .i64 (a : Int), .int .i64 (u : Int), .slice RA RL RC]] w3) := HS
  clear c0 c1 c2 b0 b1 b2
  go_wp2
  refine wpFr_block ?_
  refine wpFr_rangeX HS.out rfl (enters_of Try.func58 (by kernel_rfl) rfl) (HSEQ.out gb gk gd) (fun _ => rfl)
    (fun m L => L = [blkR g4 30 #[.int .i64 (k.L : Int), .int .i64 (k.R : Int), .int .i64 (k.S : Int)], blkR g5 33 #[.int .i64 (a : Int), .int .i64 (u : Int), .slice RA RL RC], blkR g6 50 #[.map none], blkR g7 38 #[.int .i64 0], mapR mr (mapOf (its.take m)), blkR g8 50 #[.map (some mr)], blkR gd 28 #[.pointer (some ⟨d.b, 0, none⟩)], blkR gk 30 #[.int .i64 (k.L : Int), .int .i64 (k.R : Int), .int .i64 (k.S : Int)], blkR gb 33 #[.int .i64 (a : Int), .int .i64 (u : Int), .slice RA RL RC]] ∧ ∀ (i : Nat) (x : It), i < m → its[i]? = some x → x.err = 0)
    (fun c L => c = .ret ∧ L = [blkR g4 30 #[.int .i64 (k.L : Int), .int .i64 (k.R : Int), .int .i64 (k.S : Int)], blkR g5 33 #[.int .i64 (a : Int), .int .i64 (u : Int), .slice RA RL RC], blkR g6 50 #[.map (some mr)], blkR g7 38 #[.int .i64 8], mapR mr (mapOf its), blkR g8 50 #[.map (some mr)], blkR gd 28 #[.pointer (some ⟨d.b, 0, none⟩)], blkR gk 30 #[.int .i64 (k.L : Int), .int .i64 (k.R : Int), .int .i64 (k.S : Int)], blkR gb 33 #[.int .i64 (a : Int), .int .i64 (u : Int), .slice RA RL RC]] ∧ errAt its = 8)
    (fun _ _ => False) ⟨rfl, fun i x hi => by omega⟩ ?rr (fun fn hfn => .inr (fun ch L h => h)) ?round ?done ?stop (fun _ _ _ _ _ h _ => h.elim)
  case rr =>
    rintro m L X W' hm ⟨rfl, _⟩ hs
    exact ⟨hs.blk 8 rfl, hs.blk 7 rfl, hs.blk 6 rfl, HD.out.of_new hs.keep⟩
  case round =>
    rintro l m L X r1 r2 W' hm ⟨rfl, hz⟩ hs
    obtain ⟨x, hx⟩ : ∃ x, its[m]? = some x := ⟨_, List.getElem?_eq_getElem hm⟩
    have hgd : its.getD m It0 = x := by rw [List.getD_eq_getElem?_getD, hx]; rfl
    rw [hgd]
    have hmt := mapOf_take hx
    have HX := Lib.hid hx
    have HZ := Lib.hid hz
    clear hgd HS hx hz
    obtain ⟨p, xm, xb, xe⟩ := x
    simp only [itV, obV]
    gi_wp2
    refine ⟨[blkR g4 30 #[.int .i64 (k.L : Int), .int .i64 (k.R : Int), .int .i64 (k.S : Int)], blkR g5 33 #[.int .i64 (a : Int), .int .i64 (u : Int), .slice RA RL RC], blkR g6 50 #[.map none], blkR g7 38 #[.int .i64 0], mapR mr (mapOf (its.take m)), blkR g8 50 #[.map (some mr)], blkR gd 28 #[.pointer (some ⟨d.b, 0, none⟩)], blkR gk 30 #[.int .i64 (k.L : Int), .int .i64 (k.R : Int), .int .i64 (k.S : Int)], blkR gb 33 #[.int .i64 (a : Int), .int .i64 (u : Int), .slice RA RL RC]] ++ [blkR W'.heap.size 44 #[.int .i64 xm, .int .i64 xb, .int .i64 (p : Int)]], Sep.bring _ _ (hs.new 44 #[.int .i64 xm, .int .i64 xb, .int .i64 (p : Int)]), ?_⟩
    clear hs
    generalize W'.heap.size = go at *
    rintro q2 W2 hs
    have HS := Lib.hid hs
    clear hs
    by_cases he0 : xe = 0
    · subst he0
      have hmt2 : mapOf (its.take (m + 1)) = mset (mapOf (its.take m)) (p : Int) (.agg #[.int .i64 xm, .int .i64 xb, .int .i64 (p : Int)]) := hmt
      have HMT := Lib.hid hmt2
      clear hmt hmt2
      obtain ⟨w4, hup, hm4, hk4, _⟩ := update_keep (P := Try.prog) (w := W2) (HS.out.all 4 _ rfl : IMap W2 mr .i64 (mapOf (its.take m))) u_starts underlying_int (p : Int) (.agg #[.int .i64 xm, .int .i64 xb, .int .i64 (p : Int)])
      have hs2 := HS.out.step (i := 4) rfl hk4 (r' := mapR mr (mapOf (its.take (m + 1)))) (by rw [HMT.out]; exact hm4) (fun _ h => .inl h)
      have HS2 := Lib.hid hs2
      clear hm4 hk4 hs2
      have m0 := (HS.out.blk 5 rfl).cell 0
      simp at m0
      have o0 := (HS.out.blk 9 rfl).cell 0
      simp at o0
      have o1 := (HS.out.blk 9 rfl).cell 1
      simp at o1
      have o2 := (HS.out.blk 9 rfl).cell 2
      simp at o2
      gi_wp2
      refine ⟨_, ⟨rfl, fun i x hi hx => ?_⟩, Sep.dropMid (r := blkR go 44 #[.int .i64 xm, .int .i64 xb, .int .i64 (p : Int)]) _ _ HS2.out⟩
      rcases Nat.lt_or_ge i m with h1 | h1
      · exact HZ.out i x h1 hx
      · obtain rfl : i = m := by omega
        rw [HX.out] at hx
        cases hx
        rfl
    · obtain ⟨hlast, h8⟩ := HSR.out m _ HX.out he0
      simp only at h8
      subst h8
      have hmt2 : mapOf its = mapOf (its.take m) := by
        have : mapOf (its.take (m + 1)) = mapOf (its.take m) := hmt
        rwa [hlast, List.take_length] at this
      have hes : errAt its = 8 := HES.out m _ HX.out he0
      have HMT := Lib.hid hmt2
      have HE8 := Lib.hid hes
      clear hmt hmt2 hes he0 hlast
      have m0 := (HS.out.blk 5 rfl).cell 0
      simp at m0
      have e6 := (HS.out.blk 2 rfl).cell 0
      simp at e6
      have e7 := (HS.out.blk 3 rfl).cell 0
      simp at e7
      have z6 := (HS.out.blk 2 rfl).frozen 0
      have z7 := (HS.out.blk 3 rfl).frozen 0
      have n67 := HS.out.ne 2 3 rfl rfl (by decide)
      have n76 := n67.symm
      have hs2 := ((HS.out.put (i := 2) rfl 0 (.map (some mr))).put (i := 3) rfl 0 (.int .i64 8))
      have HS2 := Lib.hid hs2
      clear hs2
      gi_wp2
      refine ⟨_, ⟨rfl, HE8.out⟩, ?_⟩
      rw [HMT.out]
      exact Sep.dropMid (r := blkR go 44 #[.int .i64 xm, .int .i64 xb, .int .i64 (p : Int)]) _ _ HS2.out
  case done =>
    rintro D L r2 W' ⟨rfl, hz⟩ hs
    simp only [Exit.inBlock, Exit.then]
    refine wpFr_of_wp ?_
    rw [List.take_length] at hs
    have HS := Lib.hid hs
    have HE := Lib.hid (HEZ.out (fun x hx => by obtain ⟨i, hi, he⟩ := List.mem_iff_getElem.1 hx; exact hz i x hi (by rw [List.getElem?_eq_getElem hi, he])))
    clear hs hz
    have m0 := (HS.out.blk 5 rfl).cell 0
    simp at m0
    have e6 := (HS.out.blk 2 rfl).cell 0
    simp at e6
    have e7 := (HS.out.blk 3 rfl).cell 0
    simp at e7
    have z6 := (HS.out.blk 2 rfl).frozen 0
    have z7 := (HS.out.blk 3 rfl).frozen 0
    have n67 := HS.out.ne 2 3 rfl rfl (by decide)
    have n76 := n67.symm
    have hs2 := ((HS.out.put (i := 2) rfl 0 (.map (some mr))).put (i := 3) rfl 0 (.int .i64 0))
    have HS2 := Lib.hid hs2
    clear hs2
    go_wp2
    refine leave_mark (HS2.out.all 9 _ rfl) ?_ ⟨mr, rfl, ?_⟩
    · have hp := HS2.out.putObj (i := 9) rfl (.deferred none)
      have l1 := loadVar_one (P := Try.prog) (ty := 50) (a := ⟨g6, 0, none⟩) (v := .map (some mr)) u_starts rfl (by rw [(hp.blk 2 rfl).cell 0]; rfl)
      have l2 := loadVar_one (P := Try.prog) (ty := 38) (a := ⟨g7, 0, none⟩) (v := .int .i64 0) (d := .int .i64) (by kernel_rfl) rfl (by rw [(hp.blk 3 rfl).cell 0]; rfl)
      rw [results_cc (fn := Try.f21) (p := 6) (q := 7) (ty := 50) (tz := 38) (a1 := ⟨g6, 0, none⟩) (a2 := ⟨g7, 0, none⟩) rfl _ _ _ ?h1 ?h2 l1 l2]
      · rw [HE.out]
      · rfl
      · rfl
    · exact ((HS2.out.putObj (i := 9) rfl (.deferred none)).dropN 4).take 1
  case stop =>
    rintro D c L r2 W' ⟨rfl, rfl, he⟩ hs
    simp only [Exit.inBlock, Exit.then]
    refine wpFr_of_wp ?_
    have HS2 := Lib.hid hs
    have HE := Lib.hid he
    clear hs he
    go_wp2
    refine leave_mark (HS2.out.all 9 _ rfl) ?_ ⟨mr, rfl, ?_⟩
    · have hp := HS2.out.putObj (i := 9) rfl (.deferred none)
      have l1 := loadVar_one (P := Try.prog) (ty := 50) (a := ⟨g6, 0, none⟩) (v := .map (some mr)) u_starts rfl (by rw [(hp.blk 2 rfl).cell 0]; rfl)
      have l2 := loadVar_one (P := Try.prog) (ty := 38) (a := ⟨g7, 0, none⟩) (v := .int .i64 8) (d := .int .i64) (by kernel_rfl) rfl (by rw [(hp.blk 3 rfl).cell 0]; rfl)
      rw [results_cc (fn := Try.f21) (p := 6) (q := 7) (ty := 50) (tz := 38) (a1 := ⟨g6, 0, none⟩) (a2 := ⟨g7, 0, none⟩) rfl _ _ _ ?h3 ?h4 l1 l2]
      · rw [HE.out]
      · rfl
      · rfl
    · exact ((HS2.out.putObj (i := 9) rfl (.deferred none)).dropN 4).take 1
end Go.Proofs.Ythdiehcmjknhiaa
