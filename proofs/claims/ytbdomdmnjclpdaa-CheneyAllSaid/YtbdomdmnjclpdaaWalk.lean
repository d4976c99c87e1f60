/-
  Package walk: Objects.
  Package walk: Starts.
-/
import Derived.Deep.CutRange
import Derived.Test.YtbdomdmnjclpdaaRangeX
import Derived.Test.YtbdomdmnjclpdaaWalkP
import Derived.Test.YtbdomdmnjclpdaaNames
set_option linter.unusedSimpArgs false
set_option linter.unusedVariables false
set_option maxRecDepth 100000
namespace Go.Proofs.Ytbdomdmnjclpdaa
open Go.RowKit Go.Shelf

theorem get_last (A : List Res) (r : Res) : (A ++ [r])[A.length]? = some r := by simp
theorem Sep.last {W w : World} {S : List Nat} {A : List Res} {g : Nat} {t : TypeId} {cs : Array Value} (h : Sep W S (A ++ [blkR g t cs]) w) : Blk w g t cs := h.all _ _ (get_last A _)
theorem Sep.init {W w : World} {S : List Nat} {A : List Res} {r : Res} (h : Sep W S (A ++ [r]) w) : Sep W S A w := by
  have := h.take A.length
  rwa [List.take_left] at this
theorem Sep.putLast {W w : World} {S : List Nat} {A : List Res} {g : Nat} {t : TypeId} {cs : Array Value} (h : Sep W S (A ++ [blkR g t cs]) w) (o : Nat) (u : Value) : Sep W S (A ++ [blkR g t (cs.setIfInBounds o u)]) (w.setCell ⟨g, o, none⟩ u) := by
  have := h.put (get_last A _) o u
  simpa [List.set_append] using this

def It0 : It := ⟨0, 0, 0, 0⟩
def itV (x : It) : Array Value := #[obV x.m x.b (x.p : Int), .int .i64 x.err]

set_option maxHeartbeats 4000000 in
theorem objects_any (v c0 c1 c2 a u rv : Value) (w : World) (hv : ∃ a, v = .pointer a) (hc : ∃ x y z, c0 = .int .i64 x ∧ c1 = .int .i64 y ∧ c2 = .int .i64 z) (hb : ∃ x y A n c, a = .int .i64 x ∧ u = .int .i64 y ∧ rv = .slice A n c) :
    Calls Try.prog 64 #[v, .agg #[c0, c1, c2], .agg #[a, u, rv]] w fun e w' => e = .returned (.func (.func 73) #[] #[.pointer (some ⟨w.heap.size + 1 + 1, 0, none⟩), .pointer (some ⟨w.heap.size + 1, 0, none⟩), .pointer (some ⟨w.heap.size, 0, none⟩)]) ∧ w' = ((w.alloc (.cells #[v] 28)).alloc (.cells #[c0, c1, c2] 30)).alloc (.cells #[a, u, rv] 33) := by
  obtain ⟨p, rfl⟩ := hv
  obtain ⟨x, y, z, rfl, rfl, rfl⟩ := hc
  obtain ⟨x', y', A, n, c, rfl, rfl, rfl⟩ := hb
  go_enter Try.func64, Try.ntmps64
  go_wp2
  go_ret
  exact ⟨rfl, rfl⟩

set_option maxRecDepth 100000 in
set_option maxHeartbeats 8000000 in
theorem objs_seq (d : DevI) (t : St) (k : Kfg) (a u e f gb gk gd : Nat) (RA : Option Addr) (RL RC : Nat) (hk : k.Ok) (ha : a ≤ 1) (hu : u ≤ k.S) (hf : k.from_ a = f) (he : f + u = e) (hrg : t.rng) :
    SeqS 73 #[.pointer (some ⟨gb, 0, none⟩), .pointer (some ⟨gk, 0, none⟩), .pointer (some ⟨gd, 0, none⟩)] (fun j => itV ((scan t e f).getD j It0)) (scan t e f).length
      (fun _ W => Blk W gb 33 #[.int .i64 (a : Int), .int .i64 (u : Int), .slice RA RL RC] ∧ Blk W gk 30 #[.int .i64 (k.L : Int), .int .i64 (k.R : Int), .int .i64 (k.S : Int)] ∧ Blk W gd 28 #[.pointer (some ⟨d.b, 0, none⟩)] ∧ Dev W d t) := by
  intro l W0 S B Bx Bp w hRR hY h0
  obtain ⟨L0, hb0, hs0⟩ := h0
  have HRR := Lib.hid hRR
  have HY := Lib.hid hY
  have HB0 := Lib.hid hb0
  have HS := Lib.hid hs0
  have HK := Lib.hid hk
  have HRG := Lib.hid hrg
  have hkS : k.S ≤ 4096 := hk.s1
  have hfw := Kfg.from_words hk (a := a) (by omega)
  rw [hf] at hfw
  have hpl0 := fun w => place_is k a u 0 f (.slice RA RL RC) w hk (by omega) (by rw [hf]; rfl) (by omega)
  have hplu := fun w => place_is k a u u e (.slice RA RL RC) w hk (by omega) (by rw [hf]; exact he) (by omega)
  simp only [Kfg.cells, rbC] at hpl0 hplu
  have HPL0 := Lib.hid hpl0
  have HPLU := Lib.hid hplu
  have HF := Lib.hid hf
  have HE := Lib.hid he
  clear hRR hY hb0 hs0 hk hrg hpl0 hplu hf
  obtain ⟨r1, r2, r3, r4⟩ := HRR.out 0 L0 [] w (by omega) HB0.out (by simpa using HS.out)
  have b0 : ∀ x : Ext w, x.now.cell? ⟨gb, 0, none⟩ = some (.int .i64 (a : Int)) := fun x => x.cell (by simpa using r1.cell 0)
  have b1 : ∀ x : Ext w, x.now.cell? ⟨gb, 1, none⟩ = some (.int .i64 (u : Int)) := fun x => x.cell (by simpa using r1.cell 1)
  have b2 : ∀ x : Ext w, x.now.cell? ⟨gb, 2, none⟩ = some (.slice RA RL RC) := fun x => x.cell (by simpa using r1.cell 2)
  have c0 : ∀ x : Ext w, x.now.cell? ⟨gk, 0, none⟩ = some (.int .i64 (k.L : Int)) := fun x => x.cell (by simpa using r2.cell 0)
  have c1 : ∀ x : Ext w, x.now.cell? ⟨gk, 1, none⟩ = some (.int .i64 (k.R : Int)) := fun x => x.cell (by simpa using r2.cell 1)
  have c2 : ∀ x : Ext w, x.now.cell? ⟨gk, 2, none⟩ = some (.int .i64 (k.S : Int)) := fun x => x.cell (by simpa using r2.cell 2)
  clear r1 r2 r3 r4
  go_enter Try.func73, Try.ntmps73
  go_upto_region 0 with fail
  refine wp_region_ext (by kernel_rfl) (by kernel_rfl) ?_
  repeat (go_big_quiet_step ((first | (go_at_call 36; with_reducible exact Calls.ext (HPL0.out _)) | (go_at_call 36; with_reducible exact Calls.ext (HPLU.out _)))))
  refine wpQuiet_nil ?_
  rintro _ ⟨x, rfl⟩
  replace HS := Lib.hid (HS.out.grow x.keep)
  clear b0 b1 b2 c0 c1 c2
  generalize x.now = w1 at *
  clear x
  have heI : (e : Int) ≤ 20000 := by omega
  go_wp2_with fail
  go_loopw [5, 7, 8] (fun v5 _ _ wr => ∃ (dn : List It) (p : Nat) (L : List Res), v5 = .int .i64 (p : Int) ∧ scan t e f = dn ++ scan t e p ∧ f ≤ p ∧ p ≤ e ∧ B dn.length L ∧ Sep W0 S L wr) (fun v5 _ _ _ => e - (intOf v5).toNat)
  case atStart => exact ⟨[], f, L0, rfl, rfl, by omega, by omega, HB0.out, HS.out⟩
  case round =>
    clear HS HB0
    obtain ⟨dn, p, L, rfl, hsc, hfp, hpe, hb, hs⟩ := hrel
    have HS := Lib.hid hs
    have HB := Lib.hid hb
    have HSC := Lib.hid hsc
    clear hs hb hsc
    by_cases hlt : p < e
    · have hltI : (p : Int) < (e : Int) := by omega
      have hnle : dn.length ≤ (scan t e f).length := by rw [HSC.out]; simp
      obtain ⟨q1, q2, q3, q4⟩ := HRR.out dn.length L [] wr hnle HB.out (by simpa using HS.out)
      have hpin : k.from_ a ≤ p ∧ p < k.from_ a + u := by rw [HF.out]; omega
      have HPIN := Lib.hid hpin
      have HEE : Hid (k.from_ a + u = e) := Lib.hid (by rw [HF.out]; exact HE.out)
      have hx := HRG.out.nw p
      have HX := Lib.hid hx
      have HD := Lib.hid q4
      have b0 := q1.cell 0
      have b1 := q1.cell 1
      have b2 := q1.cell 2
      have c0 := q2.cell 0
      have c1 := q2.cell 1
      have c2 := q2.cell 2
      have d0 := q3.cell 0
      simp at b0 b1 b2 c0 c1 c2 d0
      clear q1 q2 q3 q4 hx hpin
      by_cases hg : goodAt t e p
      · have hsc2 := scan_ok hlt hg
        obtain ⟨hn1, hn2, hok⟩ := next_le hlt HRG.out hg
        obtain ⟨m, hm⟩ : ∃ m, (headOf (t.nw p)).1 = m := ⟨_, rfl⟩
        obtain ⟨b, hb⟩ : ∃ b, (headOf (t.nw p)).2.1 = b := ⟨_, rfl⟩
        have hit : itAt t p = ⟨p, m, b, 0⟩ := by unfold itAt; rw [hm, hb]
        have hh : headOf (t.nw p) = (m, b, true) := by rw [← hm, ← hb, ← hg.1]
        have hfit : m + 1 ≤ (e : Int) - (p : Int) := by rw [← hm]; exact hg.2
        obtain ⟨q, hq⟩ : ∃ q, nextAt t p = q := ⟨_, rfl⟩
        have hqe : (p : Int) + (m + 1) = (q : Int) := by
          rw [← hq]
          unfold nextAt
          rw [hm]
          have := hok.1
          rw [hm] at this
          omega
        rw [hm, hb] at hok
        rw [hq] at hsc2 hn1 hn2
        rw [hit] at hsc2
        have hgd : (scan t e f).getD dn.length It0 = ⟨p, m, b, 0⟩ := by rw [HSC.out, hsc2]; simp
        have hnl : dn.length < (scan t e f).length := by rw [HSC.out, hsc2]; simp
        have HSC2 : Hid (scan t e f = (dn ++ [⟨p, m, b, 0⟩]) ++ scan t e q) := Lib.hid (by rw [HSC.out, hsc2]; simp)
        have HOK := Lib.hid hok
        have hm0 : 0 ≤ m ∧ m ≤ 64 := ⟨hok.1, hok.2.1⟩
        clear hsc2 hm hb hit hq hg hok
        go_wp2_with fail
        refine (of_yes d t k a u p e _ m b (.slice RA RL RC) _ HD.out HK.out ha hu HPIN.out HEE.out rfl HX.out.1 HX.out.2 hh hfit).mono ?_
        rintro e1 w2 ⟨rfl, hkk⟩
        clear hh hfit b0 b1 b2 c0 c1 c2 d0
        go_upto_region 5 with fail
        have hsn := (HS.out.grow hkk).new 53 #[.int .i64 m, .int .i64 b, .int .i64 (p : Int)]
        clear hkk
        generalize w2.alloc _ = wz at *
        generalize w2.heap.size = go at *
        replace HS := Lib.hid hsn
        clear hsn
        have o0 := HS.out.last.cell 0
        have o1 := HS.out.last.cell 1
        have o2 := HS.out.last.cell 2
        simp at o0 o1 o2
        have hY := HY.out dn.length L [blkR go 53 #[.int .i64 m, .int .i64 b, .int .i64 (p : Int)]] wz hnl HB.out HS.out
        rw [hgd] at hY
        simp only [itV] at hY
        obtain ⟨fn, tmps, assign, body, hy, hR⟩ := hY
        refine (wpIn_wide (n := 0)).1 (wpIn_region_lit ?_)
        gi_wp2
        refine ⟨rfl, hR.mono ?_⟩
        rintro e2 wy (⟨rfl, L', hb', hs'⟩ | ⟨rfl, L', hb', hs'⟩ | ⟨ch, rfl, L', hb', hs'⟩)
        rotate_left
        · have hs2 := hs'.init
          clear hR hy
          gi_wp2
          go_wp2
          exact bodyPost_ret (results_none rfl _ _ _) rfl (.inl ⟨_, rfl, .inr ⟨L', hb', hs2⟩⟩)
        · have hs2 := hs'.init
          clear hR hy
          gi_wp2
          exact ⟨rfl, .inr ⟨ch, rfl, L', hb', hs2⟩⟩
        clear hR hy
        have o0' := hs'.last.cell 0
        have o1' := hs'.last.cell 1
        simp at o0' o1'
        have hs2 := hs'.init
        have HS2 := Lib.hid hs2
        have HB2 := Lib.hid hb'
        clear hs' hs2 hb' hgd hnl o0 o1 o2
        have hsz := fun w => hsize_eq m b (m + 1) w hm0.1 (by omega) rfl
        have HSZ := Lib.hid hsz
        have hadd : IntKind.i64.wrap ((p : Int) + (m + 1)) = (q : Int) := by rw [IntWalk.i64_in _ (by omega)]; exact hqe
        clear hsz
        gi_wp2
        go_wp2_with fail
        refine (HSZ.out _).mono ?_
        rintro e3 w4 ⟨rfl, hkk⟩
        have hs3 := HS2.out.grow hkk
        have HS3 := Lib.hid hs3
        clear hkk hs3
        go_wp2
        exact ⟨⟨dn ++ [⟨p, m, b, 0⟩], q, L', by first | rfl | go_num | simp, HSC2.out, by omega, hn2, by rw [List.length_append]; exact HB2.out, HS3.out⟩, by simp [intOf]; omega⟩
      · have hsc2 := scan_bad hlt hg
        have hgd : (scan t e f).getD dn.length It0 = ⟨p, 0, 0, 8⟩ := by rw [HSC.out, hsc2]; simp
        have hnl : dn.length < (scan t e f).length := by rw [HSC.out, hsc2]; simp
        have HN : Hid (dn.length + 1 = (scan t e f).length) := Lib.hid (by rw [HSC.out, hsc2]; simp)
        obtain ⟨m, b, ok, hh⟩ : ∃ m b ok, headOf (t.nw p) = (m, b, ok) := ⟨_, _, _, rfl⟩
        have hbad : ok = false ∨ (e : Int) - (p : Int) < m + 1 := by
          unfold goodAt at hg
          rw [hh] at hg
          by_cases ho : ok = true
          · have h9 : ¬ m + 1 ≤ (e : Int) - (p : Int) := fun h => hg ⟨ho, h⟩
            exact .inr (by omega)
          · exact .inl (by simpa using ho)
        clear hsc2 hg
        go_wp2_with fail
        refine (of_bad d t k a u p e _ m b ok (.slice RA RL RC) _ HD.out HK.out ha hu HPIN.out HEE.out rfl HX.out.1 HX.out.2 hh hbad).mono ?_
        rintro e1 w2 ⟨rfl, hkk⟩
        clear hh hbad b0 b1 b2 c0 c1 c2 d0
        go_upto_region 4 with fail
        have hsn := (HS.out.grow hkk).new 53 #[.int .i64 0, .int .i64 0, .int .i64 0]
        clear hkk
        generalize w2.alloc _ = wz at *
        generalize w2.heap.size = go at *
        have o0 := hsn.last.cell 0
        have o1 := hsn.last.cell 1
        have o2 := hsn.last.cell 2
        simp at o0 o1 o2
        have z0 := hsn.last.frozen 0
        have z1 := hsn.last.frozen 1
        have z2 := hsn.last.frozen 2
        have hsn2 := ((hsn.putLast 0 (.int .i64 0)).putLast 1 (.int .i64 0)).putLast 2 (.int .i64 (p : Int))
        replace HS := Lib.hid hsn2
        clear hsn hsn2
        go_upto_region 5 with fail
        generalize ((wz.setCell _ _).setCell _ _).setCell _ _ = wz at *
        replace HS : Hid (Sep W0 S (L ++ [blkR go 53 #[.int .i64 0, .int .i64 0, .int .i64 (p : Int)]]) wz) := HS
        clear o0 o1 o2 z0 z1 z2
        have o0 := HS.out.last.cell 0
        have o1 := HS.out.last.cell 1
        have o2 := HS.out.last.cell 2
        simp at o0 o1 o2
        have hY := HY.out dn.length L [blkR go 53 #[.int .i64 0, .int .i64 0, .int .i64 (p : Int)]] wz hnl HB.out HS.out
        rw [hgd] at hY
        simp only [itV] at hY
        obtain ⟨fn, tmps, assign, body, hy, hR⟩ := hY
        refine (wpIn_wide (n := 0)).1 (wpIn_region_lit ?_)
        gi_wp2
        refine ⟨rfl, hR.mono ?_⟩
        rintro e2 wy (⟨rfl, L', hb', hs'⟩ | ⟨rfl, L', hb', hs'⟩ | ⟨ch, rfl, L', hb', hs'⟩)
        rotate_left
        · have hs2 := hs'.init
          clear hR hy
          gi_wp2
          go_wp2
          exact bodyPost_ret (results_none rfl _ _ _) rfl (.inl ⟨_, rfl, .inr ⟨L', hb', hs2⟩⟩)
        · have hs2 := hs'.init
          clear hR hy
          gi_wp2
          exact ⟨rfl, .inr ⟨ch, rfl, L', hb', hs2⟩⟩
        clear hR hy
        have hs2 := hs'.init
        rw [HN.out] at hb'
        gi_wp2
        go_wp2
        exact bodyPost_ret (results_none rfl _ _ _) rfl (.inl ⟨_, rfl, .inl ⟨L', hb', hs2⟩⟩)
    · have hpe2 : p = e := by omega
      have hltI : ¬ (p : Int) < (e : Int) := by omega
      have hN : dn.length = (scan t e f).length := by rw [HSC.out, scan_end (by omega)]; simp
      have HB3 := HB.out
      rw [hN] at HB3
      have HB4 := Lib.hid HB3
      clear HB3 hN
      go_wp2
      go_end0
      exact .inl ⟨⟨_, rfl⟩, .inl ⟨L, HB4.out, HS.out⟩⟩
end Go.Proofs.Ytbdomdmnjclpdaa
set_option linter.unusedSimpArgs false
set_option linter.unusedVariables false
set_option maxRecDepth 100000
namespace Go.Proofs.Ytbdomdmnjclpdaa
open Go.RowKit Go.Shelf

attribute [local go_sem] Oper.semAt_some

theorem map_len {P : Program} {w : World} {r : Nat} {kd : IntKind} {m : Int → Option Value} {T K E ty : TypeId} (h : IMap w r kd m) (hT : P.underlying T = some (.map K E)) (ks : List Int) (hn : ks.Nodup) (hk : ∀ j, (m j).isSome = true ↔ j ∈ ks) :
    (Builtin.len_ #[T] ty #[.map (some r)]).run P w = .ok (.int .i64 (ks.length : Int)) w := by
  obtain ⟨L, clk, hb, hm⟩ := h
  have hg : (getObj r).run P w = .ok (.map (L.map (ment kd)).toArray clk) w := by simp [getObj, Sem.run, hb]
  have hlen : L.length = ks.length := by
    have hp : (L.map (·.1)).Perm ks := by
      refine (List.perm_ext_iff_of_nodup hm.keys hn).2 fun j => ?_
      rw [← hk j]
      constructor
      · intro hj
        obtain ⟨⟨a, u, b⟩, hx, rfl⟩ := List.mem_map.1 hj
        rw [(hm.has a u).2 ⟨b, hx⟩]; rfl
      · intro hj
        obtain ⟨u, hu⟩ := Option.isSome_iff_exists.1 hj
        obtain ⟨b, hx⟩ := (hm.has j u).1 hu
        exact List.mem_map.2 ⟨_, hx, rfl⟩
    have := hp.length_eq
    simpa using this
  simp [Builtin.len_, run_underlying hT, hg, hlen, goInt]
theorem zero_ob (w : World) : (zeroValue 53).run Try.prog w = .ok (.agg #[.int .i64 0, .int .i64 0, .int .i64 0]) w := by kernel_rfl
theorem u_starts : Try.prog.underlying 122 = some (.map 3 53) := by kernel_rfl

set_option maxRecDepth 100000 in
set_option maxHeartbeats 8000000 in
theorem starts_any (d : DevI) (t : St) (k : Kfg) (a u e f : Nat) (RA : Option Addr) (RL RC : Nat) (w : World) (hd : Dev w d t) (hk : k.Ok) (ha : a ≤ 1) (hu : u ≤ k.S) (hf : k.from_ a = f) (he : f + u = e) (hrg : t.rng) :
    Calls Try.prog 65 #[.pointer (some ⟨d.b, 0, none⟩), .agg #[.int .i64 (k.L : Int), .int .i64 (k.R : Int), .int .i64 (k.S : Int)], .agg #[.int .i64 (a : Int), .int .i64 (u : Int), .slice RA RL RC]] w fun e' w' => ∃ mr, e' = .returned (.tuple #[.map (some mr), .int .i64 (errAt (scan t e f))]) ∧ Sep w [] [mapR mr (mapOf (scan t e f))] w' := by
  have HD := Lib.hid hd
  have HK := Lib.hid hk
  have HRG := Lib.hid hrg
  have HSEQ := Lib.hid (fun gb gk gd => objs_seq d t k a u e f gb gk gd RA RL RC hk ha hu hf he hrg)
  obtain ⟨its, hits⟩ : ∃ its, scan t e f = its := ⟨_, rfl⟩
  rw [hits] at HSEQ
  have hsr : ∀ (m : Nat) (x : It), its[m]? = some x → x.err ≠ 0 → m + 1 = its.length ∧ x.err = 8 := by rw [← hits]; exact fun m x h hx => scan_err h hx
  have hez : (∀ x ∈ its, x.err = 0) → errAt its = 0 := by rw [← hits]; exact errAt_zero
  have hes : ∀ (m : Nat) (x : It), its[m]? = some x → x.err ≠ 0 → errAt its = x.err := by rw [← hits]; exact fun m x h hx => errAt_some h hx
  rw [hits]
  have HSR := Lib.hid hsr
  have HEZ := Lib.hid hez
  have HES := Lib.hid hes
  clear hd hk hrg hits hsr hez hes
  have HS := Lib.hid (Sep.start w [])
  refine calls_of_wpFr Try.func65 rfl ?_
  simp only [Try.ntmps65, List.size_toArray, List.length_cons, List.length_nil, Nat.reduceAdd, Nat.reduceSub, Array.replicate_succ,
     Array.replicate_zero, List.push_toArray, List.append_toArray, List.nil_append, List.cons_append]
  refine wpFr_seq ?_
  refine wpFr_of_wp ?_
  go_wp2
  replace HS := Lib.hid ((((HS.out.new 30 #[.int .i64 (k.L : Int), .int .i64 (k.R : Int), .int .i64 (k.S : Int)]).new 33 #[.int .i64 (a : Int), .int .i64 (u : Int), .slice RA RL RC]).new 122 #[.map none]).new 54 #[.int .i64 0])
  simp only [World.size_alloc] at HS
  generalize (((w.alloc _).alloc _).alloc _).alloc _ = w1 at *
  generalize w.heap.size = g4 at *
  generalize g4 + 1 = g5 at *
  generalize g5 + 1 = g6 at *
  generalize g6 + 1 = g7 at *
  refine wpFr_seq (wpFr_of_wp ?_)
  have hmm := @run_makeMap Try.prog
  go_wp2
  clear hmm
  replace HS := Lib.hid ((HS.out.add ((Keep.refl _ _ _).alloc (Nat.le_refl _) _) (r := mapR w1.heap.size (fun _ => none)) (IMap.new w1 .i64) (by simp [mapR])).new 122 #[.map (some w1.heap.size)])
  simp only [World.size_alloc] at HS
  generalize (w1.alloc _).alloc _ = w2 at *
  generalize w1.heap.size = mr at *
  generalize mr + 1 = g8 at *
  refine wpFr_seq (wpFr_seq (wpFr_of_wp ?_))
  have c0 := (HS.out.blk 0 rfl).cell 0
  simp at c0
  have c1 := (HS.out.blk 0 rfl).cell 1
  simp at c1
  have c2 := (HS.out.blk 0 rfl).cell 2
  simp at c2
  have b0 := (HS.out.blk 1 rfl).cell 0
  simp at b0
  have b1 := (HS.out.blk 1 rfl).cell 1
  simp at b1
  have b2 := (HS.out.blk 1 rfl).cell 2
  simp at b2
  go_wp2_with fail
  refine (objects_any _ _ _ _ _ _ _ _ ⟨_, rfl⟩ ⟨_, _, _, rfl, rfl, rfl⟩ ⟨_, _, _, _, _, rfl, rfl, rfl⟩).mono ?_
  rintro e1 w3 ⟨rfl, rfl⟩
  replace HS := Lib.hid (((HS.out.new 28 #[.pointer (some ⟨d.b, 0, none⟩)]).new 30 #[.int .i64 (k.L : Int), .int .i64 (k.R : Int), .int .i64 (k.S : Int)]).new 33 #[.int .i64 (a : Int), .int .i64 (u : Int), .slice RA RL RC])
  simp only [World.size_alloc] at HS
  generalize ((w2.alloc _).alloc _).alloc _ = w3 at *
  generalize w2.heap.size = gd at *
  generalize gd + 1 = gk at *
  generalize gk + 1 = gb at *
  replace HS : Hid (Sep w [] [blkR g4 30 #[.int .i64 (k.L : Int), .int .i64 (k.R : Int), .int .i64 (k.S : Int)], blkR g5 33 #[.int .i64 (a : Int), .int .i64 (u : Int), .slice RA RL RC], blkR g6 122 #[.map none], blkR g7 54 #[.int .i64 0], mapR mr (fun _ => none), blkR g8 122 #[.map (some mr)], blkR gd 28 #[.pointer (some ⟨d.b, 0, none⟩)], blkR gk 30 #[.int .i64 (k.L : Int), .int .i64 (k.R : Int), .int .i64 (k.S : Int)], blkR gb 33 #[.int .i64 (a : Int), .int .i64 (u : Int), .slice RA RL RC]] w3) := HS
  clear c0 c1 c2 b0 b1 b2
  go_wp2
  refine wpFr_block ?_
  refine wpFr_rangeX HS.out rfl (enters_of Try.func73 (by kernel_rfl) rfl) (HSEQ.out gb gk gd) (fun _ => rfl)
    (fun m L => L = [blkR g4 30 #[.int .i64 (k.L : Int), .int .i64 (k.R : Int), .int .i64 (k.S : Int)], blkR g5 33 #[.int .i64 (a : Int), .int .i64 (u : Int), .slice RA RL RC], blkR g6 122 #[.map none], blkR g7 54 #[.int .i64 0], mapR mr (mapOf (its.take m)), blkR g8 122 #[.map (some mr)], blkR gd 28 #[.pointer (some ⟨d.b, 0, none⟩)], blkR gk 30 #[.int .i64 (k.L : Int), .int .i64 (k.R : Int), .int .i64 (k.S : Int)], blkR gb 33 #[.int .i64 (a : Int), .int .i64 (u : Int), .slice RA RL RC]] ∧ ∀ (i : Nat) (x : It), i < m → its[i]? = some x → x.err = 0)
    (fun c L => c = .ret ∧ L = [blkR g4 30 #[.int .i64 (k.L : Int), .int .i64 (k.R : Int), .int .i64 (k.S : Int)], blkR g5 33 #[.int .i64 (a : Int), .int .i64 (u : Int), .slice RA RL RC], blkR g6 122 #[.map (some mr)], blkR g7 54 #[.int .i64 8], mapR mr (mapOf its), blkR g8 122 #[.map (some mr)], blkR gd 28 #[.pointer (some ⟨d.b, 0, none⟩)], blkR gk 30 #[.int .i64 (k.L : Int), .int .i64 (k.R : Int), .int .i64 (k.S : Int)], blkR gb 33 #[.int .i64 (a : Int), .int .i64 (u : Int), .slice RA RL RC]] ∧ errAt its = 8)
    (fun _ _ => False) ⟨rfl, fun i x hi => by omega⟩ ?rr (fun fn hfn => .inr (fun ch L h => h)) ?round ?done ?stop (fun _ _ _ _ _ h _ => h.elim)
  case rr =>
    rintro m L X W' hm ⟨rfl, _⟩ hs
    exact ⟨hs.blk 8 rfl, hs.blk 7 rfl, hs.blk 6 rfl, HD.out.of_new hs.keep⟩
  case round =>
    rintro l m L X r1 r2 W' hm ⟨rfl, hz⟩ hs
    obtain ⟨x, hx⟩ : ∃ x, its[m]? = some x := ⟨_, List.getElem?_eq_getElem hm⟩
    have hgd : its.getD m It0 = x := by rw [List.getD_eq_getElem?_getD, hx]; rfl
    rw [hgd]
    have hmt := mapOf_take hx
    have HX := Lib.hid hx
    have HZ := Lib.hid hz
    clear hgd HS hx hz
    obtain ⟨p, xm, xb, xe⟩ := x
    simp only [itV, obV]
    gi_wp2
    refine ⟨[blkR g4 30 #[.int .i64 (k.L : Int), .int .i64 (k.R : Int), .int .i64 (k.S : Int)], blkR g5 33 #[.int .i64 (a : Int), .int .i64 (u : Int), .slice RA RL RC], blkR g6 122 #[.map none], blkR g7 54 #[.int .i64 0], mapR mr (mapOf (its.take m)), blkR g8 122 #[.map (some mr)], blkR gd 28 #[.pointer (some ⟨d.b, 0, none⟩)], blkR gk 30 #[.int .i64 (k.L : Int), .int .i64 (k.R : Int), .int .i64 (k.S : Int)], blkR gb 33 #[.int .i64 (a : Int), .int .i64 (u : Int), .slice RA RL RC]] ++ [blkR W'.heap.size 53 #[.int .i64 xm, .int .i64 xb, .int .i64 (p : Int)]], Sep.bring _ _ (hs.new 53 #[.int .i64 xm, .int .i64 xb, .int .i64 (p : Int)]), ?_⟩
    clear hs
    generalize W'.heap.size = go at *
    rintro q2 W2 hs
    have HS := Lib.hid hs
    clear hs
    by_cases he0 : xe = 0
    · subst he0
      have hmt2 : mapOf (its.take (m + 1)) = mset (mapOf (its.take m)) (p : Int) (.agg #[.int .i64 xm, .int .i64 xb, .int .i64 (p : Int)]) := hmt
      have HMT := Lib.hid hmt2
      clear hmt hmt2
      obtain ⟨w4, hup, hm4, hk4, _⟩ := update_keep (P := Try.prog) (w := W2) (HS.out.all 4 _ rfl : IMap W2 mr .i64 (mapOf (its.take m))) u_starts underlying_int (p : Int) (.agg #[.int .i64 xm, .int .i64 xb, .int .i64 (p : Int)])
      have hs2 := HS.out.step (i := 4) rfl hk4 (r' := mapR mr (mapOf (its.take (m + 1)))) (by rw [HMT.out]; exact hm4) (fun _ h => .inl h)
      have HS2 := Lib.hid hs2
      clear hm4 hk4 hs2
      have m0 := (HS.out.blk 5 rfl).cell 0
      simp at m0
      have o0 := (HS.out.blk 9 rfl).cell 0
      simp at o0
      have o1 := (HS.out.blk 9 rfl).cell 1
      simp at o1
      have o2 := (HS.out.blk 9 rfl).cell 2
      simp at o2
      gi_wp2
      refine ⟨_, ⟨rfl, fun i x hi hx => ?_⟩, Sep.dropMid (r := blkR go 53 #[.int .i64 xm, .int .i64 xb, .int .i64 (p : Int)]) _ _ HS2.out⟩
      rcases Nat.lt_or_ge i m with h1 | h1
      · exact HZ.out i x h1 hx
      · obtain rfl : i = m := by omega
        rw [HX.out] at hx
        cases hx
        rfl
    · obtain ⟨hlast, h8⟩ := HSR.out m _ HX.out he0
      simp only at h8
      subst h8
      have hmt2 : mapOf its = mapOf (its.take m) := by
        have : mapOf (its.take (m + 1)) = mapOf (its.take m) := hmt
        rwa [hlast, List.take_length] at this
      have hes : errAt its = 8 := HES.out m _ HX.out he0
      have HMT := Lib.hid hmt2
      have HE8 := Lib.hid hes
      clear hmt hmt2 hes he0 hlast
      have m0 := (HS.out.blk 5 rfl).cell 0
      simp at m0
      have e6 := (HS.out.blk 2 rfl).cell 0
      simp at e6
      have e7 := (HS.out.blk 3 rfl).cell 0
      simp at e7
      have z6 := (HS.out.blk 2 rfl).frozen 0
      have z7 := (HS.out.blk 3 rfl).frozen 0
      have n67 := HS.out.ne 2 3 rfl rfl (by decide)
      have n76 := n67.symm
      have hs2 := ((HS.out.put (i := 2) rfl 0 (.map (some mr))).put (i := 3) rfl 0 (.int .i64 8))
      have HS2 := Lib.hid hs2
      clear hs2
      gi_wp2
      refine ⟨_, ⟨rfl, HE8.out⟩, ?_⟩
      rw [HMT.out]
      exact Sep.dropMid (r := blkR go 53 #[.int .i64 xm, .int .i64 xb, .int .i64 (p : Int)]) _ _ HS2.out
  case done =>
    rintro D L r2 W' ⟨rfl, hz⟩ hs
    simp only [Exit.inBlock, Exit.then]
    refine wpFr_of_wp ?_
    rw [List.take_length] at hs
    have HS := Lib.hid hs
    have HE := Lib.hid (HEZ.out (fun x hx => by obtain ⟨i, hi, he⟩ := List.mem_iff_getElem.1 hx; exact hz i x hi (by rw [List.getElem?_eq_getElem hi, he])))
    clear hs hz
    have m0 := (HS.out.blk 5 rfl).cell 0
    simp at m0
    have e6 := (HS.out.blk 2 rfl).cell 0
    simp at e6
    have e7 := (HS.out.blk 3 rfl).cell 0
    simp at e7
    have z6 := (HS.out.blk 2 rfl).frozen 0
    have z7 := (HS.out.blk 3 rfl).frozen 0
    have n67 := HS.out.ne 2 3 rfl rfl (by decide)
    have n76 := n67.symm
    have hs2 := ((HS.out.put (i := 2) rfl 0 (.map (some mr))).put (i := 3) rfl 0 (.int .i64 0))
    have HS2 := Lib.hid hs2
    clear hs2
    go_wp2
    refine leave_mark (HS2.out.all 9 _ rfl) ?_ ⟨mr, rfl, ?_⟩
    · have hp := HS2.out.putObj (i := 9) rfl (.deferred none)
      have l1 := loadVar_one (P := Try.prog) (ty := 122) (a := ⟨g6, 0, none⟩) (v := .map (some mr)) u_starts rfl (by rw [(hp.blk 2 rfl).cell 0]; rfl)
      have l2 := loadVar_one (P := Try.prog) (ty := 54) (a := ⟨g7, 0, none⟩) (v := .int .i64 0) (d := .int .i64) (by kernel_rfl) rfl (by rw [(hp.blk 3 rfl).cell 0]; rfl)
      rw [results_cc (fn := Try.f65) (p := 6) (q := 7) (ty := 122) (tz := 54) (a1 := ⟨g6, 0, none⟩) (a2 := ⟨g7, 0, none⟩) rfl _ _ _ ?h1 ?h2 l1 l2]
      · rw [HE.out]
      · rfl
      · rfl
    · exact ((HS2.out.putObj (i := 9) rfl (.deferred none)).dropN 4).take 1
  case stop =>
    rintro D c L r2 W' ⟨rfl, rfl, he⟩ hs
    simp only [Exit.inBlock, Exit.then]
    refine wpFr_of_wp ?_
    have HS2 := Lib.hid hs
    have HE := Lib.hid he
    clear hs he
    go_wp2
    refine leave_mark (HS2.out.all 9 _ rfl) ?_ ⟨mr, rfl, ?_⟩
    · have hp := HS2.out.putObj (i := 9) rfl (.deferred none)
      have l1 := loadVar_one (P := Try.prog) (ty := 122) (a := ⟨g6, 0, none⟩) (v := .map (some mr)) u_starts rfl (by rw [(hp.blk 2 rfl).cell 0]; rfl)
      have l2 := loadVar_one (P := Try.prog) (ty := 54) (a := ⟨g7, 0, none⟩) (v := .int .i64 8) (d := .int .i64) (by kernel_rfl) rfl (by rw [(hp.blk 3 rfl).cell 0]; rfl)
      rw [results_cc (fn := Try.f65) (p := 6) (q := 7) (ty := 122) (tz := 54) (a1 := ⟨g6, 0, none⟩) (a2 := ⟨g7, 0, none⟩) rfl _ _ _ ?h3 ?h4 l1 l2]
      · rw [HE.out]
      · rfl
      · rfl
    · exact ((HS2.out.putObj (i := 9) rfl (.deferred none)).dropN 4).take 1
end Go.Proofs.Ytbdomdmnjclpdaa
