/-
  Device.Fence: what is to be kept is kept, in whatever order the map gives it.
-/
import Derived.Test.YtaophnicdbmojaaNvm2
set_option maxRecDepth 100000
namespace Go.Proofs.Ytaophnicdbmojaa
open Go.RowKit Go.Shelf

/-- What is kept behind a fence. -/
def fenced (kept : List Int) (q : Nat → Option (List Int)) : List Int :=
  (List.range kept.length).map fun i => match q (i / 8) with
    | some l => l.getD (i % 8) 0
    | none => kept.getD i 0
def St.fence (s : St) : St := { s.tick with kept := fenced s.kept s.q, q := fun _ => none }

theorem fenced_length (kept : List Int) (q : Nat → Option (List Int)) : (fenced kept q).length = kept.length := by simp [fenced]

/-- Of the queue, the lines of these entries. -/
def qpart (q : Nat → Option (List Int)) (pre : List (Int × Value × Nat)) : Nat → Option (List Int) := fun j => if (pre.map (·.1)).contains (j : Int) then q j else none

theorem fenced_none (kept : List Int) : fenced kept (fun _ => none) = kept := by
  apply List.ext_getElem?
  intro i
  simp only [fenced, List.getElem?_map]
  by_cases h : i < kept.length
  · simp [h]
  · simp [h]

theorem splice_get {α : Type} (L : List α) (off : Nat) (cs : List α) (h : off + cs.length ≤ L.length) (i : Nat) :
    (splice L off cs)[i]? = if i < off then L[i]? else if i < off + cs.length then cs[i - off]? else L[i]? := by
  unfold splice
  have ht : (L.take off).length = off := by rw [List.length_take]; omega
  split
  · rw [List.getElem?_append_left (by omega), List.getElem?_take, if_pos (by omega)]
  · rw [List.getElem?_append_right (by omega), ht]
    split
    · rw [List.getElem?_append_left (by omega)]
    · rw [List.getElem?_append_right (by omega), List.getElem?_drop]
      congr 1
      omega

theorem fenced_get (kept : List Int) (q : Nat → Option (List Int)) (i : Nat) : (fenced kept q)[i]? = if i < kept.length then some (match q (i / 8) with | some l => l.getD (i % 8) 0 | none => kept.getD i 0) else none := by
  simp only [fenced, List.getElem?_map]
  by_cases h : i < kept.length
  · simp [h]
  · simp [h]

theorem fenced_step (kept : List Int) (q q' : Nat → Option (List Int)) (m : Nat) (l : List Int) (hl : l.length = 8) (hm : 8 * m + 8 ≤ kept.length) (h1 : q' m = some l) (h2 : ∀ j, j ≠ m → q' j = q j) :
    splice (fenced kept q) (8 * m) l = fenced kept q' := by
  apply List.ext_getElem?
  intro i
  rw [splice_get _ _ _ (by rw [fenced_length]; omega), fenced_get, fenced_get, hl]
  by_cases hc1 : i < 8 * m
  · rw [if_pos hc1, h2 (i / 8) (by omega)]
  · rw [if_neg hc1]
    by_cases hc2 : i < 8 * m + 8
    · rw [if_pos hc2, if_pos (by omega), show i / 8 = m by omega, h1, show i % 8 = i - 8 * m by omega, List.getElem?_eq_getElem (by omega)]
      simp [List.getElem?_eq_getElem (show i - 8 * m < l.length by omega)]
    · rw [if_neg hc2, h2 (i / 8) (by omega)]

theorem list8 {α : Type} {l : List α} (h : l.length = 8) : ∃ a b c d e f g i, l = [a, b, c, d, e, f, g, i] := by
  match l, h with
  | [a, b, c, d, e, f, g, i], _ => exact ⟨a, b, c, d, e, f, g, i, rfl⟩

theorem Dev.setKept {w w' : World} {d : DevI} {s : St} (h : Dev w d s) {kept : List Int} (hk : Keep w.heap.size [d.kb] w w') (hb : Blk w' d.kb 25 (uw kept ++ d.kx).toArray) (hl : kept.length = s.now.length) : Dev w' d { s with kept } := by
  have hn := h.nodup
  simp only [DevI.blocks, List.nodup_cons, List.mem_cons, not_or, List.not_mem_nil, not_false_eq_true, and_true] at hn
  have e : ∀ k ∈ d.blocks, k ≠ d.kb → w'.heap[k]? = w.heap[k]? := fun k hm hne => hk.block k (h.lt k hm) (by simpa using hne)
  have e := fun k hk => e k (by simp only [DevI.blocks, List.mem_cons, List.not_mem_nil, or_false]; exact hk)
  exact { h with
    pow := (e d.p (by simp) (by omega)).trans h.pow
    blk := (e d.b (by simp) (by omega)).trans h.blk
    now := (e d.nb (by simp) (by omega)).trans h.now
    kept := hb
    queue := ⟨h.queue.1.same (e d.qb (by simp) (by omega)), h.queue.2⟩
    lk := hl }

theorem splice_uw (kept : List Int) (ex : List Value) (o : Nat) (l : List Int) (h : o + l.length ≤ kept.length) : splice (uw kept ++ ex) o (uw l) = uw (splice kept o l) ++ ex := by
  have h1 : o ≤ (uw kept).length := by simp [uw]; omega
  have h2 : o + (uw l).length ≤ (uw kept).length := by simp [uw]; omega
  unfold splice
  rw [List.take_append_of_le_length h1, List.drop_append_of_le_length h2]
  simp [uw, List.map_take, List.map_drop]

theorem qpart_nil (q : Nat → Option (List Int)) : qpart q [] = fun _ => none := by funext j; simp [qpart]

theorem qpart_all {q : Nat → Option (List Int)} {L pre : List (Int × Value × Nat)} {clk : Nat} (hm : MOk L clk (qmap q)) (hs : ∀ x ∈ pre, x ∈ L) (h : ∀ x ∈ L, x.2.2 ∈ (pre.map (·.2.2)).toArray) : qpart q pre = q := by
  funext j
  unfold qpart
  split
  · rfl
  · rename_i hc
    cases hq : q j with
    | none => rfl
    | some l =>
      exfalso
      apply hc
      obtain ⟨b, hb⟩ := (hm.has j (.agg (uw l).toArray)).1 (by simp [qmap, hq])
      have h1 := h _ hb
      simp only [List.mem_toArray, List.mem_map] at h1
      obtain ⟨y, hy, hyb⟩ := h1
      have : y = ((j : Int), Value.agg (uw l).toArray, b) := by
        obtain ⟨i1, h1, e1⟩ := List.mem_iff_getElem.1 (hs y hy)
        obtain ⟨i2, h2, e2⟩ := List.mem_iff_getElem.1 hb
        have e : (L.map (·.2.2))[i1]'(by simpa using h1) = (L.map (·.2.2))[i2]'(by simpa using h2) := by simp [e1, e2, hyb]
        have := nodup_inj hm.borns e
        subst this
        rw [← e1, ← e2]
      subst this
      simp only [List.contains_iff_mem, List.mem_map]
      exact ⟨_, hy, rfl⟩

theorem qpart_snoc (q : Nat → Option (List Int)) (pre : List (Int × Value × Nat)) (j : Nat) (v : Value) (b i : Nat) : qpart q (pre ++ [((j : Int), v, b)]) i = if i = j then q j else qpart q pre i := by
  unfold qpart
  by_cases h : i = j
  · subst h
    rw [if_pos (by rw [List.contains_iff_mem]; simp), if_pos rfl]
  · have e : ((pre ++ [((j : Int), v, b)]).map (·.1)).contains (i : Int) = (pre.map (·.1)).contains (i : Int) := by
      rw [Bool.eq_iff_iff, List.contains_iff_mem, List.contains_iff_mem, List.map_append, List.mem_append]
      simp only [List.map_cons, List.map_nil, List.mem_singleton]
      constructor
      · rintro (h1 | h1)
        · exact h1
        · omega
      · exact .inl
    rw [e, if_neg h]

structure FInv (w1 : World) (d : DevI) (s : St) (L : List (Int × Value × Nat)) (clk it : Nat) (pre : List (Int × Value × Nat)) (wr : World) : Prop where
  it : wr.heap[it]? = some (.mapIter (some d.qb) clk (pre.map (·.2.2)).toArray clk)
  q : wr.heap[d.qb]? = some (.map (L.map (ment .i64)).toArray clk)
  dev : Dev wr d { s.tick with kept := fenced s.kept (qpart s.q pre) }
  keep : Keep w1.heap.size d.blocks w1 wr
  sub : ∀ x ∈ pre, x ∈ L

set_option maxRecDepth 10000 in
set_option maxHeartbeats 1000000 in
theorem fence_any (d : DevI) (s : St) (w : World) (h : Dev w d s) :
    Calls Try.prog 73 #[.pointer (some ⟨d.b, 0, none⟩)] w fun e w' =>
      (¬ s.goes ∧ Did w d (.tuple #[]) s.fence e w') ∨ (s.goes ∧ Cut w d s e w') := by
  obtain ⟨hc0, hc1, hc2, hc3⟩ := h.cells
  have H := Lib.hid h
  clear h
  go_enter Try.func73, Try.ntmps73
  go_wp2_with fail
  refine (tick_dev d s w H.out).mono ?_
  rintro e w1 (⟨hg, rfl, h1, hk1⟩ | ⟨hg, rfl, h1, hk1⟩)
  · obtain ⟨hd0, hd1, hd2, hd3⟩ := h1.cells
    simp only [St.tick] at hd1 hd2
    have hsm := h1.small
    obtain ⟨⟨L, clk, hq, hm⟩, hqq⟩ := h1.queue
    have hrr := range_run (P := Try.prog) hq underlying_queue
    have H1 := Lib.hid h1
    have HK := Lib.hid hk1
    have HQ := Lib.hid hq
    have HM := Lib.hid hm
    have HQQ := Lib.hid hqq
    clear h1 hk1 H hc0 hc1 hc2 hc3 hq hm hqq
    have HR := Lib.hid hrr
    go_wp2_with fail
    clear hrr
    go_loopw [] (fun wr => ∃ pre, FInv w1 d s L clk w1.heap.size pre wr) (fun wr => unseen wr w1.heap.size d.qb)
    case atStart =>
      refine ⟨[], ?_, ?_, ?_, ?_, by simp⟩
      · exact heap_alloc_new w1 _
      · rw [Below.heap_alloc _ _ _ (H1.out.qlt)]; exact HQ.out
      · rw [qpart_nil, fenced_none]
        exact H1.out.same fun k hk => Below.heap_alloc _ _ _ (H1.out.lt k hk)
      · exact (Keep.refl _ _ _).alloc (Nat.le_refl _) _
    case round =>
      obtain ⟨pre, hI⟩ := hrel
      rcases next_run (P := Try.prog) HM.out hI.it hI.q 0 with ⟨hall, hnx⟩ | ⟨x, hx, hns, w2, hnx, hit2, hk2, hs2, hless⟩
      · obtain ⟨_, _, _, hr3⟩ := hI.dev.cells
        have hq2 := hI.dev.queue.1
        obtain ⟨w3, hcl, hm3, hk3, hs3⟩ := clear_keep (P := Try.prog) hq2 underlying_queue 0
        have hqp := qpart_all HM.out hI.sub hall
        have HI := Lib.hid hI
        have HM3 := Lib.hid hm3
        have HK3 := Lib.hid hk3
        have HQP := Lib.hid hqp
        have HALL := Lib.hid hall
        clear hI hq2 hm3 hk3 hqp hall hs3 hd0 hd1 hd2 hd3
        go_wp2
        go_end0
        refine ⟨rfl, ?_, ?_⟩
        · have hd := HI.out.dev
          have e0 : qpart s.q pre = s.q := HQP.out
          rw [e0] at hd
          have := hd.setQueue (q := fun _ => none) HK3.out ⟨?_, by intro j l hj; cases hj⟩
          · exact this
          · have h0 : qmap (fun _ => none) = fun _ => none := by funext k; simp [qmap]
            rw [h0]
            exact HM3.out
        · exact (HK.out.join HI.out.keep (by exact HK.out.size) (fun k _ hm => hm)).join HK3.out (by exact Nat.le_trans HK.out.size HI.out.keep.size) (by intro k _ hm; simp at hm; simp [DevI.blocks, hm])
      · obtain ⟨x1, x2, x3⟩ := x
        have hmx := (HM.out.has x1 x2).2 ⟨x3, hx⟩
        unfold qmap at hmx
        split at hmx
        · rename_i h0
          obtain ⟨j, rfl⟩ := Int.eq_ofNat_of_zero_le h0
          simp only [Int.toNat_natCast, Option.map_eq_some_iff] at hmx
          obtain ⟨l, hql, rfl⟩ := hmx
          obtain ⟨hl8, hj8⟩ := HQQ.out j l hql
          obtain ⟨a0, a1, a2, a3, a4, a5, a6, a7, rfl⟩ := list8 hl8
          simp only [uw, List.map_cons, List.map_nil] at hnx
          have hen := entry_run (P := Try.prog) HM.out hx hit2 (by rw [hk2.block d.qb (by exact (Array.getElem?_eq_some_iff.1 hI.q).1) (by simp; intro e; have := hI.it; rw [← e, hI.q] at this; cases this)]; exact hI.q)
          simp only [uw, List.map_cons, List.map_nil] at hen
          have hd2' : Dev w2 d { s.tick with kept := fenced s.kept (qpart s.q pre) } :=
            hI.dev.keep hk2 fun k hk => ⟨hI.dev.lt k hk, by simp; have := H1.out.lt k hk; omega⟩
          obtain ⟨hw0, hw1, hw2, hw3⟩ := hd2'.cells
          have HI := Lib.hid hI
          have HD2 := Lib.hid hd2'
          have HLESS := Lib.hid hless
          have HX := Lib.hid hx
          have HIT2 := Lib.hid hit2
          have HK2 := Lib.hid hk2
          have HQL := Lib.hid hql
          have HJ8 := Lib.hid hj8
          clear hI hd2' hless hx hit2 hk2 hql hns hl8 hd0 hd1 hd2 hd3 h0 hs2
          go_wp2
          have hb8 := Blk.new w2 136 #[Value.int .u64 a0, .int .u64 a1, .int .u64 a2, .int .u64 a3, .int .u64 a4, .int .u64 a5, .int .u64 a6, .int .u64 a7]
          have hd4 : Dev (w2.alloc (.cells #[Value.int .u64 a0, .int .u64 a1, .int .u64 a2, .int .u64 a3, .int .u64 a4, .int .u64 a5, .int .u64 a6, .int .u64 a7] 136)) d { s.tick with kept := fenced s.kept (qpart s.q pre) } :=
            HD2.out.of_new ((Keep.refl _ _ _).alloc (Nat.le_refl _) _)
          have hk4 : Keep w2.heap.size [] w2 (w2.alloc (.cells #[Value.int .u64 a0, .int .u64 a1, .int .u64 a2, .int .u64 a3, .int .u64 a4, .int .u64 a5, .int .u64 a6, .int .u64 a7] 136)) := (Keep.refl _ _ _).alloc (Nat.le_refl _) _
          generalize w2.alloc (.cells #[Value.int .u64 a0, .int .u64 a1, .int .u64 a2, .int .u64 a3, .int .u64 a4, .int .u64 a5, .int .u64 a6, .int .u64 a7] 136) = W4 at *
          obtain ⟨hv0, hv1, hv2, hv3⟩ := hd4.cells
          simp only [St.tick] at hv1 hv2
          obtain ⟨o, ho⟩ : ∃ o, o = 8 * j := ⟨_, rfl⟩
          have hj8 := HJ8.out
          simp only [St.tick] at hj8 hsm
          have e1 : IntKind.i64.wrap ((j : Int) * 8) = (o : Int) := by rw [IntWalk.i64_in _ (by omega)]; omega
          have hsl := fun w => slice_l (P := Try.prog) underlying_words size_word d.kb 0 s.now.length (s.now.length + d.kx.length) o .i64 o rfl (by omega) (by omega) w
          simp only [Nat.zero_add] at hsl
          obtain ⟨w5, hcp, hb5, hk5, hs5⟩ := copy_blk (P := Try.prog) (dT := 26) (sT := 26) (ty := 3) underlying_words size_word (w := W4.drew) (Blk.drew hd4.kept) (some ⟨d.kb, o, none⟩) (some ⟨w2.heap.size, 0, none⟩) (s.now.length - o) (s.now.length + d.kx.length - o) 8 8 o
            (uw [a0, a1, a2, a3, a4, a5, a6, a7]) (by simp [uw]; omega) (fun _ => ⟨rfl, _, _, rfl, fun j v hv => by rw [Nat.zero_add]; exact (hb8.cell j).trans (by simpa [uw] using hv)⟩)
            (by have := hd4.lk; simp [uw, St.tick] at this ⊢; omega) (uw_one _)
          have HD4 := Lib.hid hd4
          have HK4 := Lib.hid hk4
          have HB8 := Lib.hid hb8
          have HB5 := Lib.hid hb5
          have HK5 := Lib.hid hk5
          have HO := Lib.hid ho
          have HJ := Lib.hid hj8
          clear hd4 hk4 hb8 hb5 hk5 hs5 ho hj8 hw0 hw1 hw2 hw3 hnx hen
          refine wp_region_still_tail 8 (by kernel_rfl) (by kernel_rfl) ?_
          simp only [List.take_succ_cons, List.take_zero, List.drop_succ_cons, List.drop_zero]
          repeat still_step
          refine wpStill_nil ?_
          go_wp2
          have hI := HI.out
          have hd2 := HD2.out
          have hk4 := HK4.out
          have hk5 : Keep W4.heap.size [d.kb] W4 w5 := HK5.out.undrew
          have hlt := H1.out.lt
          have hkb : d.kb < w1.heap.size := hlt _ (by simp [DevI.blocks])
          have hqb : d.qb < w1.heap.size := hlt _ (by simp [DevI.blocks])
          have hnd := H1.out.nodup
          simp only [DevI.blocks, List.nodup_cons, List.mem_cons, not_or, List.not_mem_nil, not_false_eq_true, and_true] at hnd
          have hitl : w1.heap.size < w2.heap.size := (Array.getElem?_eq_some_iff.1 HIT2.out).1
          have hs4 := hk4.size
          have f1 : w5.heap[w1.heap.size]? = w2.heap[w1.heap.size]? := (hk5.block _ (by omega) (by simp; omega)).trans (hk4.block _ (by omega) (by simp))
          have f2 : w5.heap[d.qb]? = w2.heap[d.qb]? := (hk5.block _ (by omega) (by simp; omega)).trans (hk4.block _ (by omega) (by simp))
          have f3 : w2.heap[d.qb]? = wr.heap[d.qb]? := HK2.out.block _ (by have := (Array.getElem?_eq_some_iff.1 hI.q).1; omega) (by simp; omega)
          refine ⟨⟨pre ++ [((j : Int), .agg (uw [a0, a1, a2, a3, a4, a5, a6, a7]).toArray, x3)], ?_, ?_, ?_, ?_, ?_⟩, ?_⟩
          · rw [f1, HIT2.out]; simp
          · rw [f2, f3, hI.q]
          · have hlk := hd2.lk
            rw [fenced_length] at hlk
            have hjj := HJ.out
            have hn : (fenced s.kept (qpart s.q (pre ++ [((j : Int), .agg (uw [a0, a1, a2, a3, a4, a5, a6, a7]).toArray, x3)]))).length = s.tick.now.length := by rw [fenced_length]; exact hlk
            refine HD4.out.setKept hk5 ?_ hn
            have hb := HB5.out
            simp only at hb
            rw [splice_uw _ _ _ _ (by rw [fenced_length]; have := HO.out; simp only [St.tick] at hlk; simp; omega), HO.out, fenced_step s.kept _ (qpart s.q (pre ++ [((j : Int), .agg (uw [a0, a1, a2, a3, a4, a5, a6, a7]).toArray, x3)])) j _ rfl (by simp only [St.tick] at hlk; omega)] at hb
            · exact hb
            · have := HQL.out
              simp only [St.tick] at this
              rw [qpart_snoc, if_pos rfl, this]
            · intro i hi
              rw [qpart_snoc, if_neg hi]
          · have hz := hI.keep.size
            exact hI.keep.trans ((HK2.out.mono hz (by intro k hk hm; simp at hm; omega)).trans ((hk4.mono (by omega) (by simp)).trans (hk5.mono (by omega) (by intro k hk hm; simp at hm; simp [DevI.blocks, hm]))))
          · intro y hy
            rcases List.mem_append.1 hy with hy | hy
            · exact hI.sub y hy
            · simp at hy; subst hy; exact HX.out
          · have := HLESS.out
            unfold unseen at this ⊢
            rw [f1, f2]
            exact this
        · cases hmx
  · have H1 := Lib.hid h1
    have HK := Lib.hid hk1
    clear h1 hk1 H hc0 hc1 hc2 hc3
    unfold offE
    go_wp2
    exact ⟨rfl, .inr ⟨hg, rfl, H1.out, HK.out⟩⟩
end Go.Proofs.Ytaophnicdbmojaa
