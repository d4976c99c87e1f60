/-
  Package nvm: what a device is in memory, and the contracts of its methods.
-/
import Derived.WalkKit
import Derived.BigQuiet
import Derived.Deep.QuietTactic
import Derived.WalkLawsBesides
import Derived.WalkSpells
import Derived.StillTailTactics
import Derived.Lib.Hide
import Derived.IntWalk
import Derived.Test.YtaophnicdbmojaaPow
import Derived.Test.YtaophnicdbmojaaMap
import Derived.Test.YtaophnicdbmojaaLaws
set_option maxRecDepth 100000
namespace Go.Proofs.Ytaophnicdbmojaa
open Go.RowKit Go.Shelf

/-- Words as values. -/
def uw (xs : List Int) : List Value := xs.map (Value.int .u64)

/-- Where a device's parts lie. -/
structure DevI where
  b : Nat
  p : Nat
  nb : Nat
  kb : Nat
  qb : Nat
  kx : List Value

def DevI.blocks (d : DevI) : List Nat := [d.b, d.p, d.nb, d.kb, d.qb]

/-- How a device stands: its power; what stands, what is kept, what is to be kept. -/
structure St where
  l : Int
  u : Int
  now : List Int
  kept : List Int
  q : Nat → Option (List Int)

/-- The queue as a map. -/
def qmap (q : Nat → Option (List Int)) : Int → Option Value := fun k => if 0 ≤ k then (q k.toNat).map fun l => .agg (uw l).toArray else none

def Queue (w : World) (qb n : Nat) (q : Nat → Option (List Int)) : Prop :=
  IMap w qb .i64 (qmap q) ∧ ∀ j l, q j = some l → l.length = 8 ∧ 8 * j + 8 ≤ n

structure Dev (w : World) (d : DevI) (s : St) : Prop where
  pow : Pow w d.p s.l s.u
  blk : Blk w d.b 107 #[.pointer (some ⟨d.p, 0, none⟩), .slice (some ⟨d.nb, 0, none⟩) s.now.length s.now.length, .slice (some ⟨d.kb, 0, none⟩) s.now.length (s.now.length + d.kx.length), .map (some d.qb)]
  now : Blk w d.nb 25 (uw s.now).toArray
  kept : Blk w d.kb 25 (uw s.kept ++ d.kx).toArray
  queue : Queue w d.qb s.now.length s.q
  lk : s.kept.length = s.now.length
  l8 : ∃ m, s.now.length = 8 * m
  small : s.now.length ≤ 1099511627776
  nodup : d.blocks.Nodup

theorem getElem?_toArray_uw (xs : List Int) (i : Nat) : (uw xs).toArray[i]? = xs[i]?.map (Value.int .u64) := by simp [uw]

section
variable {w w' : World} {d : DevI} {s : St}
theorem Dev.cells (h : Dev w d s) : w.cell? ⟨d.b, 0, none⟩ = some (.pointer (some ⟨d.p, 0, none⟩)) ∧ w.cell? ⟨d.b, 1, none⟩ = some (.slice (some ⟨d.nb, 0, none⟩) s.now.length s.now.length) ∧
    w.cell? ⟨d.b, 2, none⟩ = some (.slice (some ⟨d.kb, 0, none⟩) s.now.length (s.now.length + d.kx.length)) ∧ w.cell? ⟨d.b, 3, none⟩ = some (.map (some d.qb)) := by
  have h0 := h.blk.cell 0
  have h1 := h.blk.cell 1
  have h2 := h.blk.cell 2
  have h3 := h.blk.cell 3
  simp at h0 h1 h2 h3
  exact ⟨h0, h1, h2, h3⟩
theorem Dev.qlt (h : Dev w d s) : d.qb < w.heap.size := by
  exact h.queue.1.lt
theorem Dev.lt (h : Dev w d s) : ∀ k ∈ d.blocks, k < w.heap.size := by
  intro k hk
  simp only [DevI.blocks, List.mem_cons, List.not_mem_nil, or_false] at hk
  rcases hk with rfl | rfl | rfl | rfl | rfl
  · exact h.blk.lt
  · exact Blk.lt h.pow
  · exact h.now.lt
  · exact h.kept.lt
  · exact h.qlt
/-- A device whose blocks are as they were. -/
theorem Dev.same (h : Dev w d s) (hb : ∀ k ∈ d.blocks, w'.heap[k]? = w.heap[k]?) : Dev w' d s := by
  have e := fun k hk => hb k (by simp only [DevI.blocks, List.mem_cons, List.not_mem_nil, or_false]; exact hk)
  exact { h with
    pow := (e d.p (by simp)).trans h.pow
    blk := (e d.b (by simp)).trans h.blk
    now := (e d.nb (by simp)).trans h.now
    kept := (e d.kb (by simp)).trans h.kept
    queue := ⟨h.queue.1.same (e d.qb (by simp)), h.queue.2⟩ }
theorem Dev.keep (h : Dev w d s) {n : Nat} {S : List Nat} (hk : Keep n S w w') (hn : ∀ k ∈ d.blocks, k < n ∧ k ∉ S) : Dev w' d s :=
  h.same fun k hm => hk.block k (hn k hm).1 (hn k hm).2
/-- The heap alone counts. -/
theorem Dev.heap (h : Dev w d s) (he : w'.heap = w.heap) : Dev w' d s := h.same fun k _ => by rw [he]
theorem Dev.power (h : Dev w d s) {l u : Int} (hp : Pow w' d.p l u) (hk : Keep w.heap.size [d.p] w w') : Dev w' d { s with l, u } := by
  have hn := h.nodup
  simp only [DevI.blocks, List.nodup_cons, List.mem_cons, not_or, List.not_mem_nil, not_false_eq_true, and_true] at hn
  have e : ∀ k ∈ d.blocks, k ≠ d.p → w'.heap[k]? = w.heap[k]? := fun k hm hne => hk.block k (h.lt k hm) (by simpa using hne)
  have e := fun k hk => e k (by simp only [DevI.blocks, List.mem_cons, List.not_mem_nil, or_false]; exact hk)
  exact { h with
    pow := hp
    blk := (e d.b (by simp) (by omega)).trans h.blk
    now := (e d.nb (by simp) (by omega)).trans h.now
    kept := (e d.kb (by simp) (by omega)).trans h.kept
    queue := ⟨h.queue.1.same (e d.qb (by simp) (by omega)), h.queue.2⟩ }
end

set_option maxHeartbeats 400000 in
theorem len_any (d : DevI) (s : St) (w : World) (h : Dev w d s) :
    Calls Try.prog 71 #[.pointer (some ⟨d.b, 0, none⟩)] w fun e w' => e = .returned (.int .i64 s.now.length) ∧ w = w' := by
  obtain ⟨_, hc, _, _⟩ := h.cells
  clear h
  go_enter Try.func71, Try.ntmps71
  go_wp2
  go_ret
  exact ⟨rfl, rfl⟩

/-- Is there such a word? -/
def inN (n : Nat) (i : Int) : Bool := decide (0 ≤ i) && decide (i < n)

set_option maxHeartbeats 400000 in
theorem has_any (d : DevI) (s : St) (i : Int) (w : World) (h : Dev w d s) :
    Calls Try.prog 53 #[.pointer (some ⟨d.b, 0, none⟩), .int .i64 i] w fun e w' => e = .returned (.bool (inN s.now.length i)) ∧ w = w' := by
  obtain ⟨_, hc, _, _⟩ := h.cells
  clear h
  by_cases h0 : 0 ≤ i
  · by_cases h1 : i < s.now.length
    · have e : inN s.now.length i = true := by simp [inN, h0, h1]
      rw [e]
      go_enter Try.func53, Try.ntmps53
      go_wp2
      go_ret
      simp
    · have e : inN s.now.length i = false := by simp [inN, h0, h1]
      rw [e]
      go_enter Try.func53, Try.ntmps53
      go_wp2
      go_ret
      simp
  · have e : inN s.now.length i = false := by simp [inN, h0]
    rw [e]
    go_enter Try.func53, Try.ntmps53
    go_wp2
    go_ret
    simp

theorem len_small {w : World} {d : DevI} {s : St} (h : Dev w d s) : s.now.length ≤ 1099511627776 := h.small
theorem now_cell {w : World} {d : DevI} {s : St} (h : Dev w d s) {i : Nat} (hi : i < s.now.length) : w.cell? ⟨d.nb, i, none⟩ = some (.int .u64 (s.now[i])) := by
  rw [h.now.cell, getElem?_toArray_uw]; simp [hi]

/-- What a word is, 0 of none. -/
def wordAt (xs : List Int) (i : Int) : Int := if 0 ≤ i then xs.getD i.toNat 0 else 0

set_option maxHeartbeats 400000 in
theorem load_any (d : DevI) (s : St) (i : Int) (w : World) (h : Dev w d s) :
    Calls Try.prog 29 #[.pointer (some ⟨d.b, 0, none⟩), .int .i64 i] w fun e w' => e = .returned (.int .u64 (wordAt s.now i)) ∧ w = w' := by
  obtain ⟨_, hc, _, _⟩ := h.cells
  have hhas := has_any d s i w h
  by_cases hi : 0 ≤ i ∧ i < s.now.length
  · obtain ⟨k, rfl⟩ := Int.eq_ofNat_of_zero_le hi.1
    have hk : k < s.now.length := by omega
    have hw := now_cell h hk
    have hsm := h.small
    have e : inN s.now.length k = true := by simp [inN, hk]
    have e2 : wordAt s.now (k : Int) = s.now[k] := by simp [wordAt, hk]
    rw [e] at hhas
    rw [e2]
    have h1 : (k : Int) < s.now.length := by omega
    clear h hi e e2
    go_enter Try.func29, Try.ntmps29
    go_wp2_with fail
    refine hhas.mono ?_
    rintro e w' ⟨rfl, rfl⟩
    go_wp2
    go_ret
    simp
  · have e : inN s.now.length i = false := by simp only [inN, Bool.and_eq_false_iff, decide_eq_false_iff_not]; omega
    have e2 : wordAt s.now i = 0 := by
      unfold wordAt
      split
      · rw [List.getD, List.getElem?_eq_none (by omega)]; rfl
      · rfl
    rw [e] at hhas
    rw [e2]
    clear h hi e e2
    go_enter Try.func29, Try.ntmps29
    go_wp2_with fail
    refine hhas.mono ?_
    rintro e w' ⟨rfl, rfl⟩
    go_wp2
    go_ret
    simp

def St.tick (s : St) : St := { s with u := wrap64 (s.u + 1) }
def St.store (s : St) (k : Nat) (v : Int) : St := { s.tick with now := s.now.set k v }
abbrev St.goes (s : St) : Prop := Go.Proofs.Ytaophnicdbmojaa.goes s.l s.u

def Did (w : World) (d : DevI) (v : Value) (s' : St) (e : Ending) (w' : World) : Prop := e = .returned v ∧ Dev w' d s' ∧ Keep w.heap.size d.blocks w w'
def Cut (w : World) (d : DevI) (s' : St) (e : Ending) (w' : World) : Prop := e = offE ∧ Dev w' d s' ∧ Keep w.heap.size d.blocks w w'

theorem tick_dev (d : DevI) (s : St) (w : World) (h : Dev w d s) :
    Calls Try.prog 54 #[.pointer (some ⟨d.p, 0, none⟩)] w fun e w' =>
      (¬ s.goes ∧ Did w d (.tuple #[]) s.tick e w') ∨ (s.goes ∧ Cut w d s e w') := by
  refine (tick_any d.p s.l s.u w h.pow).mono ?_
  rintro e w' (⟨hg, rfl, n, rfl⟩ | ⟨hg, rfl, n, rfl⟩)
  · refine .inl ⟨hg, rfl, ?_⟩
    have hk : Keep w.heap.size [d.p] w ((w.drewN n).setCell ⟨d.p, 1, none⟩ (.int .i64 (wrap64 (s.u + 1)))) := ((Keep.refl _ _ _).drewN n).setCell (by simp) _
    refine ⟨Dev.power h ?_ hk, hk.sub (by intro k _ hm; simp at hm; simp [DevI.blocks, hm])⟩
    have := (Blk.drewN h.pow n).set_ 1 (.int .i64 (wrap64 (s.u + 1)))
    simpa [Pow] using this
  · exact .inr ⟨hg, rfl, h.heap rfl, (Keep.refl _ _ _).drewN n⟩

/-- A word of now is another one. -/
theorem Dev.setNow {w : World} {d : DevI} {s : St} (h : Dev w d s) {k : Nat} (_hk : k < s.now.length) (v : Int) :
    Dev (w.setCell ⟨d.nb, k, none⟩ (.int .u64 v)) d { s with now := s.now.set k v } := by
  have hn := h.nodup
  simp only [DevI.blocks, List.nodup_cons, List.mem_cons, not_or, List.not_mem_nil, not_false_eq_true, and_true] at hn
  exact { h with
    pow := Blk.far h.pow (by simp; omega) _
    blk := by simpa using h.blk.far (p := ⟨d.nb, k, none⟩) (by simp; omega) _
    now := by simpa [uw, List.map_set] using h.now.set_ k (.int .u64 v)
    kept := by simpa using h.kept.far (p := ⟨d.nb, k, none⟩) (by simp; omega) _
    queue := ⟨h.queue.1.same (Below.heap_setCell _ _ _ _ (by simp; omega)), by simpa using h.queue.2⟩
    lk := by simpa using h.lk
    l8 := by simpa using h.l8
    small := by simpa using h.small }

set_option maxHeartbeats 400000 in
theorem store_out (d : DevI) (s : St) (i v : Int) (w : World) (h : Dev w d s) (hi : ¬ (0 ≤ i ∧ i < s.now.length)) :
    Calls Try.prog 19 #[.pointer (some ⟨d.b, 0, none⟩), .int .i64 i, .int .u64 v] w fun e w' => e = .returned (.int .i64 1) ∧ w = w' := by
  have hhas := has_any d s i w h
  have e : inN s.now.length i = false := by simp only [inN, Bool.and_eq_false_iff, decide_eq_false_iff_not]; omega
  rw [e] at hhas
  clear h hi e
  go_enter Try.func19, Try.ntmps19
  go_wp2_with fail
  refine hhas.mono ?_
  rintro e w' ⟨rfl, rfl⟩
  go_wp2
  go_ret
  simp

set_option maxHeartbeats 400000 in
theorem store_in (d : DevI) (s : St) (k : Nat) (v : Int) (w : World) (h : Dev w d s) (hk : k < s.now.length) :
    Calls Try.prog 19 #[.pointer (some ⟨d.b, 0, none⟩), .int .i64 k, .int .u64 v] w fun e w' =>
      (¬ s.goes ∧ Did w d (.int .i64 0) (s.store k v) e w') ∨ (s.goes ∧ Cut w d s e w') := by
  have hhas := has_any d s k w h
  have e : inN s.now.length k = true := by simp [inN, hk]
  rw [e] at hhas
  obtain ⟨hc0, hc1, _, _⟩ := h.cells
  have H := Lib.hid h
  clear h e
  go_enter Try.func19, Try.ntmps19
  go_wp2_with fail
  refine hhas.mono ?_
  rintro e w' ⟨rfl, rfl⟩
  clear hhas
  go_wp2_with fail
  refine (tick_dev d s w H.out).mono ?_
  rintro e w1 (⟨hg, rfl, h1, hk1⟩ | ⟨hg, rfl, h1, hk1⟩)
  · obtain ⟨_, hd1, _, _⟩ := h1.cells
    have hw := now_cell h1 hk
    have hz := h1.now.frozen k
    have hsm := h1.small
    simp only [St.tick] at hw hd1 hsm
    have H1 := Lib.hid h1
    have HK := Lib.hid hk1
    clear h1 hk1 H hc0 hc1
    have hlt : (k : Int) < s.now.length := by omega
    go_wp2
    go_ret
    refine .inl ⟨hg, rfl, H1.out.setNow hk v, HK.out.setCell ?_ _⟩
    simp [DevI.blocks]
  · have H1 := Lib.hid h1
    have HK := Lib.hid hk1
    clear h1 hk1 H hc0 hc1
    unfold offE
    go_wp2
    exact ⟨rfl, .inr ⟨hg, rfl, H1.out, HK.out⟩⟩

def line (xs : List Int) (m : Nat) : List Int := (xs.drop (8 * m)).take 8
def St.flush (s : St) (k : Nat) : St := { s.tick with q := fun j => if j = k / 8 then some (line s.now (k / 8)) else s.q j }

theorem line_length (xs : List Int) (m : Nat) (h : 8 * m + 8 ≤ xs.length) : (line xs m).length = 8 := by simp [line]; omega

theorem qmap_set (q : Nat → Option (List Int)) (j : Nat) (l : List Int) : mset (qmap q) j (.agg (uw l).toArray) = qmap fun i => if i = j then some l else q i := by
  funext k
  unfold mset qmap
  by_cases hk : 0 ≤ k
  · obtain ⟨n, rfl⟩ := Int.eq_ofNat_of_zero_le hk
    by_cases hn : n = j
    · subst hn; simp
    · have : ¬ ((n : Int) = j) := by omega
      simp [this, hn]
  · have : ¬ k = j := by omega
    simp [hk, this]

theorem Dev.setQueue {w w' : World} {d : DevI} {s : St} (h : Dev w d s) {q : Nat → Option (List Int)} (hk : Keep w.heap.size [d.qb] w w') (hq : Queue w' d.qb s.now.length q) : Dev w' d { s with q } := by
  have hn := h.nodup
  simp only [DevI.blocks, List.nodup_cons, List.mem_cons, not_or, List.not_mem_nil, not_false_eq_true, and_true] at hn
  have e : ∀ k ∈ d.blocks, k ≠ d.qb → w'.heap[k]? = w.heap[k]? := fun k hm hne => hk.block k (h.lt k hm) (by simpa using hne)
  have e := fun k hk => e k (by simp only [DevI.blocks, List.mem_cons, List.not_mem_nil, or_false]; exact hk)
  exact { h with
    pow := (e d.p (by simp) (by omega)).trans h.pow
    blk := (e d.b (by simp) (by omega)).trans h.blk
    now := (e d.nb (by simp) (by omega)).trans h.now
    kept := (e d.kb (by simp) (by omega)).trans h.kept
    queue := hq }

theorem underlying_queue : Try.prog.underlying 105 = some (.map 3 136) := by kernel_rfl
theorem underlying_words : Try.prog.underlying 26 = some (.slice 25) := by kernel_rfl
theorem size_word : (Try.prog.info? 25).map (·.size) = some 1 := by kernel_rfl
theorem underlying_int : Try.prog.underlying 3 = some (.int .i64) := by kernel_rfl
theorem underlying_line : Try.prog.underlying 136 = some (.array 8 25) := by kernel_rfl
theorem size_line : (Try.prog.info? 136).map (·.size) = some 8 := by kernel_rfl

theorem now_range {w : World} {d : DevI} {s : St} (h : Dev w d s) {m : Nat} (_hm : 8 * m + 8 ≤ s.now.length) : w.rangeAt d.nb (8 * m) (uw (line s.now m)) := by
  intro j v hv
  rw [h.now.cell, getElem?_toArray_uw]
  simp only [uw, line, List.getElem?_map, List.getElem?_take, List.getElem?_drop] at hv
  split at hv
  · exact hv
  · cases hv

set_option maxHeartbeats 400000 in
theorem flush_in (d : DevI) (s : St) (k : Nat) (w : World) (h : Dev w d s) (hk : k < s.now.length) :
    Calls Try.prog 72 #[.pointer (some ⟨d.b, 0, none⟩), .int .i64 k] w fun e w' =>
      (¬ s.goes ∧ Did w d (.int .i64 0) (s.flush k) e w') ∨ (s.goes ∧ Cut w d s e w') := by
  have hhas := has_any d s k w h
  have e : inN s.now.length k = true := by simp [inN, hk]
  rw [e] at hhas
  obtain ⟨hc0, hc1, _, _⟩ := h.cells
  have H := Lib.hid h
  clear h e
  go_enter Try.func72, Try.ntmps72
  go_wp2_with fail
  refine hhas.mono ?_
  rintro e w' ⟨rfl, rfl⟩
  clear hhas
  go_wp2_with fail
  refine (tick_dev d s w H.out).mono ?_
  rintro e w1 (⟨hg, rfl, h1, hk1⟩ | ⟨hg, rfl, h1, hk1⟩)
  · obtain ⟨_, hd1, _, hd3⟩ := h1.cells
    have hsm := h1.small
    simp only [St.tick] at hd1 hsm
    have H1 := Lib.hid h1
    have HK := Lib.hid hk1
    clear h1 hk1 H hc0 hc1
    have hlt : (k : Int) < s.now.length := by omega
    obtain ⟨m, hm⟩ : ∃ m, m = k / 8 := ⟨_, rfl⟩
    obtain ⟨o, ho⟩ : ∃ o, o = 8 * m := ⟨_, rfl⟩
    obtain ⟨m1, hm1⟩ : ∃ m1, m1 = m + 1 := ⟨_, rfl⟩
    obtain ⟨n8, hn8⟩ := H1.out.l8
    simp only [St.tick] at hn8
    have e0 : (k : Int) / 8 = (m : Int) := by omega
    have e1 : IntKind.i64.wrap ((m : Int) * 8) = (o : Int) := by rw [IntWalk.i64_in _ (by omega)]; omega
    have e2 : IntKind.i64.wrap ((m : Int) + 1) = (m1 : Int) := by rw [IntWalk.i64_in _ (by omega)]; omega
    have e3 : IntKind.i64.wrap ((m1 : Int) * 8) = (o : Int) + 8 := by rw [IntWalk.i64_in _ (by omega)]; omega
    have hlo : (o : Int) + 8 ≤ s.now.length := by omega
    have hlo' : o + 8 ≤ s.now.length := by omega
    have Hm := Lib.hid hm
    have Ho := Lib.hid ho
    have Hn := Lib.hid hn8
    clear hm hm1 hn8
    have hsl := fun w => slice_lh (P := Try.prog) underlying_words size_word d.nb 0 s.now.length s.now.length o (o + 8) .i64 .i64 o ((o : Int) + 8) rfl (by omega) (by omega) hlo' w
    simp only [Nat.zero_add] at hsl
    have har := fun w => arrayAt_run (P := Try.prog) underlying_line (some ⟨d.nb, o, none⟩) 8 (s.now.length - o) (by omega) w
    have hrg := now_range H1.out (m := m) (by simp only [St.tick]; omega)
    rw [← ho] at hrg
    simp only [St.tick] at hrg
    clear ho
    have HR := Lib.hid hrg
    clear hrg
    go_wp2
    refine wp_region_still_tail 17 (by kernel_rfl) (by kernel_rfl) ?_
    simp only [List.take_succ_cons, List.take_zero, List.drop_succ_cons, List.drop_zero]
    repeat still_step
    refine still_load_mid rfl 136 (.tmp 32) rfl d.nb o rfl (uw (line s.now m)) _ HR.out underlying_line rfl (by rw [uw, List.length_map, line_length _ _ (by have := Ho.out; omega)]; exact size_line) ?_
    refine wpStill_nil ?_
    obtain ⟨w2, hrun, hmap, hk2, hsz⟩ := update_keep (P := Try.prog) (w := w1.drew) (H1.out.queue.1.same rfl) underlying_queue underlying_int m (.agg (uw (line s.now m)).toArray)
    have HM := Lib.hid hmap
    have HK2 := Lib.hid hk2
    clear har hsl hmap hk2 hsz
    go_wp2
    go_ret
    have hk' : Keep w1.heap.size [d.qb] w1 w2 := HK2.out.undrew
    refine .inl ⟨hg, rfl, ?_, HK.out.join (S' := [d.qb]) hk' HK.out.size (by intro k _ hm; simp at hm; simp [DevI.blocks, hm])⟩
    refine H1.out.setQueue hk' ⟨?_, ?_⟩
    · have := HM.out
      rw [qmap_set, Hm.out] at this
      exact this
    · intro j l hj
      have h8 := Ho.out
      have h9 := Hm.out
      dsimp only at hj
      split at hj
      · rename_i hjk
        injection hj with hj
        subst hj hjk
        simp only [St.tick]
        exact ⟨line_length _ _ (by omega), by omega⟩
      · exact H1.out.queue.2 j l hj
  · have H1 := Lib.hid h1
    have HK := Lib.hid hk1
    clear h1 hk1 H hc0 hc1
    unfold offE
    go_wp2
    exact ⟨rfl, .inr ⟨hg, rfl, H1.out, HK.out⟩⟩
end Go.Proofs.Ytaophnicdbmojaa
