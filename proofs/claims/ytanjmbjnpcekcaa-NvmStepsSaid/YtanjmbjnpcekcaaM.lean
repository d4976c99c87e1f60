/-
  tumuluslaw02.M: a device, by definition, in memory.
-/
import Derived.Test.YtanjmbjnpcekcaaChoice
import Derived.Test.YtanjmbjnpcekcaaEq
import Derived.Test.YtanjmbjnpcekcaaRel
set_option linter.unusedSimpArgs false
set_option linter.unusedVariables false
namespace Go.Proofs.Ytanjmbjnpcekcaa
open Go.RowKit Go.Shelf

theorem info_bool : (Try.prog.info? 4).map (fun i => (i.zero, i.size, i.bytes)) = some (some (.bool false), 1, 1) := by kernel_rfl
theorem underlying_bools : Try.prog.underlying 60 = some (.slice 4) := by kernel_rfl
theorem made_bools (n : Nat) : madeCells (Value.cells (.bool false)) (n * 1) = (List.replicate n (.bool false)).toArray := by
  unfold madeCells
  apply Array.ext'
  simp only [Array.toList_map, Array.toList_range]
  apply List.ext_getElem?
  intro i
  simp only [List.getElem?_map, Value.cells]
  by_cases h : i < n
  · simp [h, Nat.mod_one]
  · simp [h]

/-- Where an M's parts lie. -/
structure MI where
  b : Nat
  nb : Nat
  kb : Nat
  tb : Nat
  ib : Nat
  kx : List Value
def MI.blocks (m : MI) : List Nat := [m.b, m.nb, m.kb, m.tb, m.ib]

/-- Which words are to be kept. -/
def isL (s : St) : List Value := (List.range s.now.length).map fun k => .bool (s.q (k / 8)).isSome
theorem isL_length (s : St) : (isL s).length = s.now.length := by simp [isL]

/-- An M that stands as a device does. -/
structure MOf (w : World) (m : MI) (s : St) (t : List Int) : Prop where
  blk : Blk w m.b 62 #[.slice (some ⟨m.nb, 0, none⟩) s.now.length s.now.length, .slice (some ⟨m.kb, 0, none⟩) s.now.length (s.now.length + m.kx.length), .slice (some ⟨m.tb, 0, none⟩) s.now.length s.now.length, .slice (some ⟨m.ib, 0, none⟩) s.now.length s.now.length]
  now : Blk w m.nb 25 (uw s.now).toArray
  kept : Blk w m.kb 25 (uw s.kept ++ m.kx).toArray
  to : Blk w m.tb 25 (uw t).toArray
  is : Blk w m.ib 4 (isL s).toArray
  tl : t.length = s.now.length
  isTo : ∀ k l, k < s.now.length → s.q (k / 8) = some l → t.getD k 0 = l.getD (k % 8) 0
  lk : s.kept.length = s.now.length
  l8 : ∃ j, s.now.length = 8 * j
  small : s.now.length ≤ 1099511627776
  nodup : m.blocks.Nodup

section
variable {w w' : World} {m : MI} {s : St} {t : List Int}
theorem MOf.cells (h : MOf w m s t) : w.cell? ⟨m.b, 0, none⟩ = some (.slice (some ⟨m.nb, 0, none⟩) s.now.length s.now.length) ∧ w.cell? ⟨m.b, 1, none⟩ = some (.slice (some ⟨m.kb, 0, none⟩) s.now.length (s.now.length + m.kx.length)) ∧
    w.cell? ⟨m.b, 2, none⟩ = some (.slice (some ⟨m.tb, 0, none⟩) s.now.length s.now.length) ∧ w.cell? ⟨m.b, 3, none⟩ = some (.slice (some ⟨m.ib, 0, none⟩) s.now.length s.now.length) := by
  have h0 := h.blk.cell 0
  have h1 := h.blk.cell 1
  have h2 := h.blk.cell 2
  have h3 := h.blk.cell 3
  simp at h0 h1 h2 h3
  exact ⟨h0, h1, h2, h3⟩
theorem MOf.lt (h : MOf w m s t) : ∀ k ∈ m.blocks, k < w.heap.size := by
  intro k hk
  simp only [MI.blocks, List.mem_cons, List.not_mem_nil, or_false] at hk
  rcases hk with rfl | rfl | rfl | rfl | rfl
  · exact h.blk.lt
  · exact h.now.lt
  · exact h.kept.lt
  · exact h.to.lt
  · exact h.is.lt
theorem MOf.same (h : MOf w m s t) (hb : ∀ k ∈ m.blocks, w'.heap[k]? = w.heap[k]?) : MOf w' m s t := by
  have e := fun k hk => hb k (by simp only [MI.blocks, List.mem_cons, List.not_mem_nil, or_false]; exact hk)
  exact { h with
    blk := (e m.b (by simp)).trans h.blk
    now := (e m.nb (by simp)).trans h.now
    kept := (e m.kb (by simp)).trans h.kept
    to := (e m.tb (by simp)).trans h.to
    is := (e m.ib (by simp)).trans h.is }
theorem MOf.keep (h : MOf w m s t) {n : Nat} {S : List Nat} (hk : Keep n S w w') (hn : ∀ k ∈ m.blocks, k < n ∧ k ∉ S) : MOf w' m s t :=
  h.same fun k hm => hk.block k (hn k hm).1 (hn k hm).2
theorem MOf.of_new (h : MOf w m s t) (hk : Keep w.heap.size [] w w') : MOf w' m s t := h.keep hk fun k hm => ⟨h.lt k hm, by simp⟩
theorem MOf.heap (h : MOf w m s t) (he : w'.heap = w.heap) : MOf w' m s t := h.same fun k _ => by rw [he]
end

/-- What the literal of Make leaves. -/
structure MRaw (w W : World) (n g1 g2 g3 m : Nat) : Prop where
  b1 : Blk W g1 25 (uw (List.replicate n 0)).toArray
  b2 : Blk W g2 25 (uw (List.replicate n 0)).toArray
  b3 : Blk W g3 4 (Array.replicate n (.bool false))
  bm : Blk W m 62 #[.slice (some ⟨g1, 0, none⟩) n n, .slice none 0 0, .slice (some ⟨g2, 0, none⟩) n n, .slice (some ⟨g3, 0, none⟩) n n]
  keep : Keep w.heap.size [] w W
  new : w.heap.size ≤ g1 ∧ w.heap.size ≤ g2 ∧ w.heap.size ≤ g3 ∧ w.heap.size ≤ m
  apart : g1 ≠ g2 ∧ g1 ≠ g3 ∧ g1 ≠ m ∧ g2 ≠ g3 ∧ g2 ≠ m ∧ g3 ≠ m

theorem raw_make (w : World) (n a b c : Nat) (o0 o1 o2 : Obj) (ha : a < 3) (hb : b < 3) (hc : c < 3) (hab : a ≠ b) (hac : a ≠ c) (hbc : b ≠ c)
    (e1 : [o0, o1, o2][a]? = some (.cells (uw (List.replicate n 0)).toArray 25)) (e2 : [o0, o1, o2][b]? = some (.cells (uw (List.replicate n 0)).toArray 25)) (e3 : [o0, o1, o2][c]? = some (.cells (Array.replicate n (.bool false)) 4)) :
    MRaw w ((((w.alloc o0).alloc o1).alloc o2).alloc (.cells #[.slice (some ⟨w.heap.size + a, 0, none⟩) n n, .slice none 0 0, .slice (some ⟨w.heap.size + b, 0, none⟩) n n, .slice (some ⟨w.heap.size + c, 0, none⟩) n n] 62)).drew n (w.heap.size + a) (w.heap.size + b) (w.heap.size + c) (w.heap.size + 1 + 1 + 1) := by
  have hat : ∀ j (o : Obj), j < 3 → [o0, o1, o2][j]? = some o → (((w.alloc o0).alloc o1).alloc o2).heap[w.heap.size + j]? = some o := by
    intro j o hj he
    have hc : j = 0 ∨ j = 1 ∨ j = 2 := by omega
    rcases hc with rfl | rfl | rfl
    · simp at he; subst he
      rw [Below.heap_alloc _ _ _ (by simp; omega), Below.heap_alloc _ _ _ (by simp)]
      exact heap_alloc_new w _
    · simp at he; subst he
      rw [Below.heap_alloc _ _ _ (by simp)]
      have := heap_alloc_new (w.alloc o0) o1
      rwa [World.size_alloc] at this
    · simp at he; subst he
      have := heap_alloc_new ((w.alloc o0).alloc o1) o2
      rwa [World.size_alloc, World.size_alloc] at this
  have hz : (((w.alloc o0).alloc o1).alloc o2).heap.size = w.heap.size + 1 + 1 + 1 := by rw [World.size_alloc, World.size_alloc, World.size_alloc]
  have up : ∀ g t cs o, Blk (((w.alloc o0).alloc o1).alloc o2) g t cs → Blk ((((w.alloc o0).alloc o1).alloc o2).alloc o).drew g t cs := fun g t cs o h => (h.alloc o).drew
  refine ⟨up _ _ _ _ (hat a _ ha e1), up _ _ _ _ (hat b _ hb e2), up _ _ _ _ (hat c _ hc e3), ?_, ?_, by omega, by omega⟩
  · have := Blk.new (((w.alloc o0).alloc o1).alloc o2) 62 #[.slice (some ⟨w.heap.size + a, 0, none⟩) n n, .slice none 0 0, .slice (some ⟨w.heap.size + b, 0, none⟩) n n, .slice (some ⟨w.heap.size + c, 0, none⟩) n n]
    rw [hz] at this
    exact this.drew
  · exact (((((Keep.refl w.heap.size [] w).alloc (Nat.le_refl _) _).alloc (by simp) _).alloc (by simp; omega) _).alloc (by simp; omega) _).drew

set_option maxHeartbeats 1000000 in
theorem makeM_any (v : Value) (xs : List Int) (w : World) (hv : Rd w v (uw xs)) (hl : xs.length ≤ 1000000000) :
    Calls Try.prog 36 #[v] w fun e w' => ∃ m : MI, e = .returned (.pointer (some ⟨m.b, 0, none⟩)) ∧ (∀ k ∈ m.blocks, w.heap.size ≤ k) ∧ (∀ l u, MOf w' m (St.fresh l u xs) (List.replicate (St.fresh l u xs).now.length 0)) ∧ Keep w.heap.size [] w w' := by
  obtain ⟨i0, hi, hz0, hz1, hz2⟩ := info_parts info_word
  obtain ⟨j0, hj, hy0, hy1, hy2⟩ := info_parts info_bool
  obtain ⟨A, c, rfl, hrd⟩ := hv
  rw [show (uw xs).length = xs.length by simp [uw]] at hrd
  rw [show (uw xs).length = xs.length by simp [uw]]
  obtain ⟨n, hn⟩ : ∃ n, n = (xs.length + 7) / 8 * 8 := ⟨_, rfl⟩
  have hn' : ((xs.length : Int) + 7) / 8 * 8 = (n : Int) := by omega
  have hlx : (xs.length : Int) ≤ 1000000000 := by omega
  have hnx : (n : Int) ≤ 1000000010 := by omega
  have hmk : ∀ w, (Instr.makeSlice 22 (.int .i64 n) (.int .i64 n)).run Try.prog w = .ok (.slice (some ⟨w.heap.size, 0, none⟩) n n) (w.alloc (.cells (uw (List.replicate n 0)).toArray 25)) := fun w => by
    have := run_make (P := Try.prog) w 22 25 i0 (.int .u64 0) underlying_words hi hz0 .i64 .i64 n n (by omega) (by omega) (by rw [hz2]; omega) (by omega)
    rw [hz1, made_words] at this
    simpa using this
  have hmb : ∀ w, (Instr.makeSlice 60 (.int .i64 n) (.int .i64 n)).run Try.prog w = .ok (.slice (some ⟨w.heap.size, 0, none⟩) n n) (w.alloc (.cells (List.replicate n (.bool false)).toArray 4)) := fun w => by
    have := run_make (P := Try.prog) w 60 4 j0 (.bool false) underlying_bools hj hy0 .i64 .i64 n n (by omega) (by omega) (by rw [hy2]; omega) (by omega)
    rw [hy1, made_bools] at this
    simpa using this
  have HN := Lib.hid hn
  have HRD := Lib.hid hrd
  clear hn hrd
  go_enter Try.func36, Try.ntmps36
  go_wp2_with fail
  go_big_region
  · have hr := raw_make w n 0 1 2 (.cells (uw (List.replicate n 0)).toArray 25) (.cells (uw (List.replicate n 0)).toArray 25) (.cells (Array.replicate n (.bool false)) 4) (by decide) (by decide) (by decide) (by decide) (by decide) (by decide) rfl rfl rfl
    simp only [Nat.add_zero] at hr
    change MRaw w ((((w.alloc (.cells (uw (List.replicate n 0)).toArray 25)).alloc (.cells (uw (List.replicate n 0)).toArray 25)).alloc (.cells (Array.replicate n (.bool false)) 4)).alloc (.cells #[.slice (some ⟨w.heap.size, 0, none⟩) n n, .slice none 0 0, .slice (some ⟨(w.heap.size + 1), 0, none⟩) n n, .slice (some ⟨(w.heap.size + 1 + 1), 0, none⟩) n n] 62)).drew n w.heap.size (w.heap.size + 1) (w.heap.size + 1 + 1) (w.heap.size + 1 + 1 + 1) at hr
    generalize ((((w.alloc (.cells (uw (List.replicate n 0)).toArray 25)).alloc (.cells (uw (List.replicate n 0)).toArray 25)).alloc (.cells (Array.replicate n (.bool false)) 4)).alloc (.cells #[.slice (some ⟨w.heap.size, 0, none⟩) n n, .slice none 0 0, .slice (some ⟨(w.heap.size + 1), 0, none⟩) n n, .slice (some ⟨(w.heap.size + 1 + 1), 0, none⟩) n n] 62)).drew = W4 at *
    generalize (w.heap.size + 1 + 1 + 1) = M0 at *
    generalize (w.heap.size + 1 + 1) = G3 at *
    generalize (w.heap.size + 1) = G2 at *
    have hpl : (pad xs).length = n := by rw [pad_length, HN.out]
    obtain ⟨W2, hcp, hb2, hk2, hs2⟩ := copy_blk (P := Try.prog) (dT := 22) (sT := 22) (ty := 3) underlying_words size_word hr.b1 (some ⟨w.heap.size, 0, none⟩) A n n xs.length c 0 (uw xs) (by simp [uw]; omega)
      (fun h0 => ⟨rfl, by
        obtain ⟨g2, o2, hA, hc⟩ := HRD.out (by simpa [uw] using h0)
        exact ⟨g2, o2, hA, fun j v hv => by
          have h3 := hc j v hv
          rw [World.cell?_of_block (hr.keep.block g2 (World.block_lt_of_cell? w _ h3) (by simp))]
          exact h3⟩⟩) (by simp [uw]; omega) (uw_one _)
    have hsp : splice (uw (List.replicate n 0)).toArray.toList 0 (uw xs) = uw (pad xs) := by
      simp [splice, uw, pad, HN.out]
    rw [hsp] at hb2
    obtain ⟨p1, p2, p3, p4, p5, p6⟩ := hr.apart
    obtain ⟨q1, q2, q3, q4⟩ := hr.new
    have hbm2 := hr.bm.keep hk2 hr.bm.lt (by simp; omega)
    have hbt2 := hr.b2.keep hk2 hr.b2.lt (by simp; omega)
    have hbi2 := hr.b3.keep hk2 hr.b3.lt (by simp; omega)
    have hK2 : Keep w.heap.size [] w W2 := hr.keep.join hk2 hr.keep.size (by intro k hk hm; simp at hm; omega)
    have hupl : (uw (pad xs)).length = n := by simp [uw, hpl]
    have hcl := clone_any w.heap.size 0 n (uw (pad xs)) W2 (fun j u hu => by rw [Nat.zero_add, hb2.cell]; simpa using hu) (uw_one _) (by rw [hupl]; omega)
    rw [hupl] at hcl
    have z0 := hr.bm.cell 0
    have y0 := hbm2.cell 0
    simp at z0 y0
    have HR := Lib.hid hr
    have HB2 := Lib.hid hb2
    have HBM2 := Lib.hid hbm2
    have HBT2 := Lib.hid hbt2
    have HBI2 := Lib.hid hbi2
    have HK2 := Lib.hid hK2
    have HPL := Lib.hid hpl
    have HPU := Lib.hid hupl
    have HP := Lib.hid (And.intro p1 (And.intro p2 (And.intro p3 (And.intro p4 (And.intro p5 p6)))))
    have HQ := Lib.hid (And.intro q1 (And.intro q2 (And.intro q3 q4)))
    clear hr hpl hb2 hk2 hs2 hsp hbm2 hbt2 hbi2 hK2 hupl p1 p2 p3 p4 p5 p6 q1 q2 q3 q4
    go_wp2_with fail
    refine hcl.mono ?_
    rintro e W3 ⟨v, g4, ex, rfl, hv, hb4, hg4, hk3⟩
    rw [HPU.out] at hv
    subst hv
    have hbm3 := HBM2.out.keep hk3 HBM2.out.lt (by simp)
    have x1 := hbm3.cell 1
    have f1 := hbm3.frozen 1
    simp at x1
    have HB4 := Lib.hid hb4
    have HBM3 := Lib.hid hbm3
    have HK3 := Lib.hid hk3
    have HG4 := Lib.hid hg4
    clear hcl hcp hb4 hbm3 hk3 hg4 z0 y0
    go_wp2
    go_ret
    obtain ⟨p1, p2, p3, p4, p5, p6⟩ := HP.out
    obtain ⟨q1, q2, q3, q4⟩ := HQ.out
    have hg4 := HG4.out
    have l1 := HB2.out.lt
    have l2 := HBT2.out.lt
    have l3 := HBI2.out.lt
    have l4 := HBM2.out.lt
    have hpl := HPL.out
    have hn := HN.out
    refine ⟨⟨M0, w.heap.size, g4, G2, G3, ex⟩, rfl, ?_, fun l u => ⟨?_, ?_, ?_, ?_, ?_, ?_, ?_, ?_, ?_, ?_, ?_⟩, ?_⟩
    · intro k hk
      simp only [MI.blocks, List.mem_cons, List.not_mem_nil, or_false] at hk
      omega
    · simp only [St.fresh, hpl]
      simpa using HBM3.out.set_ 1 (.slice (some ⟨g4, 0, none⟩) n (n + ex.length))
    · exact (HB2.out.keep HK3.out l1 (by simp)).far (by simpa using p3) _
    · exact HB4.out.far (by show g4 ≠ M0; omega) _
    · simp only [St.fresh, hpl]
      exact (HBT2.out.keep HK3.out l2 (by simp)).far (by simpa using p5) _
    · have e : (isL (St.fresh l u xs)).toArray = Array.replicate n (.bool false) := by
        simp [isL, St.fresh, hpl]
        apply Array.ext' ; simp [List.map_const']
      rw [e]
      exact (HBI2.out.keep HK3.out l3 (by simp)).far (by simpa using p6) _
    · simp
    · intro k l _ h; cases h
    · rfl
    · exact ⟨n / 8, by simp only [St.fresh, hpl]; omega⟩
    · simp only [St.fresh, hpl]; omega
    · simp only [MI.blocks, List.nodup_cons, List.mem_cons, not_or, List.not_mem_nil, not_false_eq_true, and_true, List.nodup_nil]
      omega
    · exact (HK2.out.join HK3.out HK2.out.size (by simp)).setCell (by intro h; simp at h; omega) _
  · have hr := raw_make w n 0 2 1 (.cells (uw (List.replicate n 0)).toArray 25) (.cells (Array.replicate n (.bool false)) 4) (.cells (uw (List.replicate n 0)).toArray 25) (by decide) (by decide) (by decide) (by decide) (by decide) (by decide) rfl rfl rfl
    simp only [Nat.add_zero] at hr
    change MRaw w ((((w.alloc (.cells (uw (List.replicate n 0)).toArray 25)).alloc (.cells (Array.replicate n (.bool false)) 4)).alloc (.cells (uw (List.replicate n 0)).toArray 25)).alloc (.cells #[.slice (some ⟨w.heap.size, 0, none⟩) n n, .slice none 0 0, .slice (some ⟨(w.heap.size + 1 + 1), 0, none⟩) n n, .slice (some ⟨(w.heap.size + 1), 0, none⟩) n n] 62)).drew n w.heap.size (w.heap.size + 1 + 1) (w.heap.size + 1) (w.heap.size + 1 + 1 + 1) at hr
    generalize ((((w.alloc (.cells (uw (List.replicate n 0)).toArray 25)).alloc (.cells (Array.replicate n (.bool false)) 4)).alloc (.cells (uw (List.replicate n 0)).toArray 25)).alloc (.cells #[.slice (some ⟨w.heap.size, 0, none⟩) n n, .slice none 0 0, .slice (some ⟨(w.heap.size + 1 + 1), 0, none⟩) n n, .slice (some ⟨(w.heap.size + 1), 0, none⟩) n n] 62)).drew = W4 at *
    generalize (w.heap.size + 1 + 1 + 1) = M0 at *
    generalize (w.heap.size + 1 + 1) = G2 at *
    generalize (w.heap.size + 1) = G3 at *
    have hpl : (pad xs).length = n := by rw [pad_length, HN.out]
    obtain ⟨W2, hcp, hb2, hk2, hs2⟩ := copy_blk (P := Try.prog) (dT := 22) (sT := 22) (ty := 3) underlying_words size_word hr.b1 (some ⟨w.heap.size, 0, none⟩) A n n xs.length c 0 (uw xs) (by simp [uw]; omega)
      (fun h0 => ⟨rfl, by
        obtain ⟨g2, o2, hA, hc⟩ := HRD.out (by simpa [uw] using h0)
        exact ⟨g2, o2, hA, fun j v hv => by
          have h3 := hc j v hv
          rw [World.cell?_of_block (hr.keep.block g2 (World.block_lt_of_cell? w _ h3) (by simp))]
          exact h3⟩⟩) (by simp [uw]; omega) (uw_one _)
    have hsp : splice (uw (List.replicate n 0)).toArray.toList 0 (uw xs) = uw (pad xs) := by
      simp [splice, uw, pad, HN.out]
    rw [hsp] at hb2
    obtain ⟨p1, p2, p3, p4, p5, p6⟩ := hr.apart
    obtain ⟨q1, q2, q3, q4⟩ := hr.new
    have hbm2 := hr.bm.keep hk2 hr.bm.lt (by simp; omega)
    have hbt2 := hr.b2.keep hk2 hr.b2.lt (by simp; omega)
    have hbi2 := hr.b3.keep hk2 hr.b3.lt (by simp; omega)
    have hK2 : Keep w.heap.size [] w W2 := hr.keep.join hk2 hr.keep.size (by intro k hk hm; simp at hm; omega)
    have hupl : (uw (pad xs)).length = n := by simp [uw, hpl]
    have hcl := clone_any w.heap.size 0 n (uw (pad xs)) W2 (fun j u hu => by rw [Nat.zero_add, hb2.cell]; simpa using hu) (uw_one _) (by rw [hupl]; omega)
    rw [hupl] at hcl
    have z0 := hr.bm.cell 0
    have y0 := hbm2.cell 0
    simp at z0 y0
    have HR := Lib.hid hr
    have HB2 := Lib.hid hb2
    have HBM2 := Lib.hid hbm2
    have HBT2 := Lib.hid hbt2
    have HBI2 := Lib.hid hbi2
    have HK2 := Lib.hid hK2
    have HPL := Lib.hid hpl
    have HPU := Lib.hid hupl
    have HP := Lib.hid (And.intro p1 (And.intro p2 (And.intro p3 (And.intro p4 (And.intro p5 p6)))))
    have HQ := Lib.hid (And.intro q1 (And.intro q2 (And.intro q3 q4)))
    clear hr hpl hb2 hk2 hs2 hsp hbm2 hbt2 hbi2 hK2 hupl p1 p2 p3 p4 p5 p6 q1 q2 q3 q4
    go_wp2_with fail
    refine hcl.mono ?_
    rintro e W3 ⟨v, g4, ex, rfl, hv, hb4, hg4, hk3⟩
    rw [HPU.out] at hv
    subst hv
    have hbm3 := HBM2.out.keep hk3 HBM2.out.lt (by simp)
    have x1 := hbm3.cell 1
    have f1 := hbm3.frozen 1
    simp at x1
    have HB4 := Lib.hid hb4
    have HBM3 := Lib.hid hbm3
    have HK3 := Lib.hid hk3
    have HG4 := Lib.hid hg4
    clear hcl hcp hb4 hbm3 hk3 hg4 z0 y0
    go_wp2
    go_ret
    obtain ⟨p1, p2, p3, p4, p5, p6⟩ := HP.out
    obtain ⟨q1, q2, q3, q4⟩ := HQ.out
    have hg4 := HG4.out
    have l1 := HB2.out.lt
    have l2 := HBT2.out.lt
    have l3 := HBI2.out.lt
    have l4 := HBM2.out.lt
    have hpl := HPL.out
    have hn := HN.out
    refine ⟨⟨M0, w.heap.size, g4, G2, G3, ex⟩, rfl, ?_, fun l u => ⟨?_, ?_, ?_, ?_, ?_, ?_, ?_, ?_, ?_, ?_, ?_⟩, ?_⟩
    · intro k hk
      simp only [MI.blocks, List.mem_cons, List.not_mem_nil, or_false] at hk
      omega
    · simp only [St.fresh, hpl]
      simpa using HBM3.out.set_ 1 (.slice (some ⟨g4, 0, none⟩) n (n + ex.length))
    · exact (HB2.out.keep HK3.out l1 (by simp)).far (by simpa using p3) _
    · exact HB4.out.far (by show g4 ≠ M0; omega) _
    · simp only [St.fresh, hpl]
      exact (HBT2.out.keep HK3.out l2 (by simp)).far (by simpa using p5) _
    · have e : (isL (St.fresh l u xs)).toArray = Array.replicate n (.bool false) := by
        simp [isL, St.fresh, hpl]
        apply Array.ext' ; simp [List.map_const']
      rw [e]
      exact (HBI2.out.keep HK3.out l3 (by simp)).far (by simpa using p6) _
    · simp
    · intro k l _ h; cases h
    · rfl
    · exact ⟨n / 8, by simp only [St.fresh, hpl]; omega⟩
    · simp only [St.fresh, hpl]; omega
    · simp only [MI.blocks, List.nodup_cons, List.mem_cons, not_or, List.not_mem_nil, not_false_eq_true, and_true, List.nodup_nil]
      omega
    · exact (HK2.out.join HK3.out HK2.out.size (by simp)).setCell (by intro h; simp at h; omega) _
  · have hr := raw_make w n 1 0 2 (.cells (uw (List.replicate n 0)).toArray 25) (.cells (uw (List.replicate n 0)).toArray 25) (.cells (Array.replicate n (.bool false)) 4) (by decide) (by decide) (by decide) (by decide) (by decide) (by decide) rfl rfl rfl
    simp only [Nat.add_zero] at hr
    change MRaw w ((((w.alloc (.cells (uw (List.replicate n 0)).toArray 25)).alloc (.cells (uw (List.replicate n 0)).toArray 25)).alloc (.cells (Array.replicate n (.bool false)) 4)).alloc (.cells #[.slice (some ⟨(w.heap.size + 1), 0, none⟩) n n, .slice none 0 0, .slice (some ⟨w.heap.size, 0, none⟩) n n, .slice (some ⟨(w.heap.size + 1 + 1), 0, none⟩) n n] 62)).drew n (w.heap.size + 1) w.heap.size (w.heap.size + 1 + 1) (w.heap.size + 1 + 1 + 1) at hr
    generalize ((((w.alloc (.cells (uw (List.replicate n 0)).toArray 25)).alloc (.cells (uw (List.replicate n 0)).toArray 25)).alloc (.cells (Array.replicate n (.bool false)) 4)).alloc (.cells #[.slice (some ⟨(w.heap.size + 1), 0, none⟩) n n, .slice none 0 0, .slice (some ⟨w.heap.size, 0, none⟩) n n, .slice (some ⟨(w.heap.size + 1 + 1), 0, none⟩) n n] 62)).drew = W4 at *
    generalize (w.heap.size + 1 + 1 + 1) = M0 at *
    generalize (w.heap.size + 1 + 1) = G3 at *
    generalize (w.heap.size + 1) = G1 at *
    have hpl : (pad xs).length = n := by rw [pad_length, HN.out]
    obtain ⟨W2, hcp, hb2, hk2, hs2⟩ := copy_blk (P := Try.prog) (dT := 22) (sT := 22) (ty := 3) underlying_words size_word hr.b1 (some ⟨G1, 0, none⟩) A n n xs.length c 0 (uw xs) (by simp [uw]; omega)
      (fun h0 => ⟨rfl, by
        obtain ⟨g2, o2, hA, hc⟩ := HRD.out (by simpa [uw] using h0)
        exact ⟨g2, o2, hA, fun j v hv => by
          have h3 := hc j v hv
          rw [World.cell?_of_block (hr.keep.block g2 (World.block_lt_of_cell? w _ h3) (by simp))]
          exact h3⟩⟩) (by simp [uw]; omega) (uw_one _)
    have hsp : splice (uw (List.replicate n 0)).toArray.toList 0 (uw xs) = uw (pad xs) := by
      simp [splice, uw, pad, HN.out]
    rw [hsp] at hb2
    obtain ⟨p1, p2, p3, p4, p5, p6⟩ := hr.apart
    obtain ⟨q1, q2, q3, q4⟩ := hr.new
    have hbm2 := hr.bm.keep hk2 hr.bm.lt (by simp; omega)
    have hbt2 := hr.b2.keep hk2 hr.b2.lt (by simp; omega)
    have hbi2 := hr.b3.keep hk2 hr.b3.lt (by simp; omega)
    have hK2 : Keep w.heap.size [] w W2 := hr.keep.join hk2 hr.keep.size (by intro k hk hm; simp at hm; omega)
    have hupl : (uw (pad xs)).length = n := by simp [uw, hpl]
    have hcl := clone_any G1 0 n (uw (pad xs)) W2 (fun j u hu => by rw [Nat.zero_add, hb2.cell]; simpa using hu) (uw_one _) (by rw [hupl]; omega)
    rw [hupl] at hcl
    have z0 := hr.bm.cell 0
    have y0 := hbm2.cell 0
    simp at z0 y0
    have HR := Lib.hid hr
    have HB2 := Lib.hid hb2
    have HBM2 := Lib.hid hbm2
    have HBT2 := Lib.hid hbt2
    have HBI2 := Lib.hid hbi2
    have HK2 := Lib.hid hK2
    have HPL := Lib.hid hpl
    have HPU := Lib.hid hupl
    have HP := Lib.hid (And.intro p1 (And.intro p2 (And.intro p3 (And.intro p4 (And.intro p5 p6)))))
    have HQ := Lib.hid (And.intro q1 (And.intro q2 (And.intro q3 q4)))
    clear hr hpl hb2 hk2 hs2 hsp hbm2 hbt2 hbi2 hK2 hupl p1 p2 p3 p4 p5 p6 q1 q2 q3 q4
    go_wp2_with fail
    refine hcl.mono ?_
    rintro e W3 ⟨v, g4, ex, rfl, hv, hb4, hg4, hk3⟩
    rw [HPU.out] at hv
    subst hv
    have hbm3 := HBM2.out.keep hk3 HBM2.out.lt (by simp)
    have x1 := hbm3.cell 1
    have f1 := hbm3.frozen 1
    simp at x1
    have HB4 := Lib.hid hb4
    have HBM3 := Lib.hid hbm3
    have HK3 := Lib.hid hk3
    have HG4 := Lib.hid hg4
    clear hcl hcp hb4 hbm3 hk3 hg4 z0 y0
    go_wp2
    go_ret
    obtain ⟨p1, p2, p3, p4, p5, p6⟩ := HP.out
    obtain ⟨q1, q2, q3, q4⟩ := HQ.out
    have hg4 := HG4.out
    have l1 := HB2.out.lt
    have l2 := HBT2.out.lt
    have l3 := HBI2.out.lt
    have l4 := HBM2.out.lt
    have hpl := HPL.out
    have hn := HN.out
    refine ⟨⟨M0, G1, g4, w.heap.size, G3, ex⟩, rfl, ?_, fun l u => ⟨?_, ?_, ?_, ?_, ?_, ?_, ?_, ?_, ?_, ?_, ?_⟩, ?_⟩
    · intro k hk
      simp only [MI.blocks, List.mem_cons, List.not_mem_nil, or_false] at hk
      omega
    · simp only [St.fresh, hpl]
      simpa using HBM3.out.set_ 1 (.slice (some ⟨g4, 0, none⟩) n (n + ex.length))
    · exact (HB2.out.keep HK3.out l1 (by simp)).far (by simpa using p3) _
    · exact HB4.out.far (by show g4 ≠ M0; omega) _
    · simp only [St.fresh, hpl]
      exact (HBT2.out.keep HK3.out l2 (by simp)).far (by simpa using p5) _
    · have e : (isL (St.fresh l u xs)).toArray = Array.replicate n (.bool false) := by
        simp [isL, St.fresh, hpl]
        apply Array.ext' ; simp [List.map_const']
      rw [e]
      exact (HBI2.out.keep HK3.out l3 (by simp)).far (by simpa using p6) _
    · simp
    · intro k l _ h; cases h
    · rfl
    · exact ⟨n / 8, by simp only [St.fresh, hpl]; omega⟩
    · simp only [St.fresh, hpl]; omega
    · simp only [MI.blocks, List.nodup_cons, List.mem_cons, not_or, List.not_mem_nil, not_false_eq_true, and_true, List.nodup_nil]
      omega
    · exact (HK2.out.join HK3.out HK2.out.size (by simp)).setCell (by intro h; simp at h; omega) _
  · have hr := raw_make w n 2 0 1 (.cells (uw (List.replicate n 0)).toArray 25) (.cells (Array.replicate n (.bool false)) 4) (.cells (uw (List.replicate n 0)).toArray 25) (by decide) (by decide) (by decide) (by decide) (by decide) (by decide) rfl rfl rfl
    simp only [Nat.add_zero] at hr
    change MRaw w ((((w.alloc (.cells (uw (List.replicate n 0)).toArray 25)).alloc (.cells (Array.replicate n (.bool false)) 4)).alloc (.cells (uw (List.replicate n 0)).toArray 25)).alloc (.cells #[.slice (some ⟨(w.heap.size + 1 + 1), 0, none⟩) n n, .slice none 0 0, .slice (some ⟨w.heap.size, 0, none⟩) n n, .slice (some ⟨(w.heap.size + 1), 0, none⟩) n n] 62)).drew n (w.heap.size + 1 + 1) w.heap.size (w.heap.size + 1) (w.heap.size + 1 + 1 + 1) at hr
    generalize ((((w.alloc (.cells (uw (List.replicate n 0)).toArray 25)).alloc (.cells (Array.replicate n (.bool false)) 4)).alloc (.cells (uw (List.replicate n 0)).toArray 25)).alloc (.cells #[.slice (some ⟨(w.heap.size + 1 + 1), 0, none⟩) n n, .slice none 0 0, .slice (some ⟨w.heap.size, 0, none⟩) n n, .slice (some ⟨(w.heap.size + 1), 0, none⟩) n n] 62)).drew = W4 at *
    generalize (w.heap.size + 1 + 1 + 1) = M0 at *
    generalize (w.heap.size + 1 + 1) = G1 at *
    generalize (w.heap.size + 1) = G3 at *
    have hpl : (pad xs).length = n := by rw [pad_length, HN.out]
    obtain ⟨W2, hcp, hb2, hk2, hs2⟩ := copy_blk (P := Try.prog) (dT := 22) (sT := 22) (ty := 3) underlying_words size_word hr.b1 (some ⟨G1, 0, none⟩) A n n xs.length c 0 (uw xs) (by simp [uw]; omega)
      (fun h0 => ⟨rfl, by
        obtain ⟨g2, o2, hA, hc⟩ := HRD.out (by simpa [uw] using h0)
        exact ⟨g2, o2, hA, fun j v hv => by
          have h3 := hc j v hv
          rw [World.cell?_of_block (hr.keep.block g2 (World.block_lt_of_cell? w _ h3) (by simp))]
          exact h3⟩⟩) (by simp [uw]; omega) (uw_one _)
    have hsp : splice (uw (List.replicate n 0)).toArray.toList 0 (uw xs) = uw (pad xs) := by
      simp [splice, uw, pad, HN.out]
    rw [hsp] at hb2
    obtain ⟨p1, p2, p3, p4, p5, p6⟩ := hr.apart
    obtain ⟨q1, q2, q3, q4⟩ := hr.new
    have hbm2 := hr.bm.keep hk2 hr.bm.lt (by simp; omega)
    have hbt2 := hr.b2.keep hk2 hr.b2.lt (by simp; omega)
    have hbi2 := hr.b3.keep hk2 hr.b3.lt (by simp; omega)
    have hK2 : Keep w.heap.size [] w W2 := hr.keep.join hk2 hr.keep.size (by intro k hk hm; simp at hm; omega)
    have hupl : (uw (pad xs)).length = n := by simp [uw, hpl]
    have hcl := clone_any G1 0 n (uw (pad xs)) W2 (fun j u hu => by rw [Nat.zero_add, hb2.cell]; simpa using hu) (uw_one _) (by rw [hupl]; omega)
    rw [hupl] at hcl
    have z0 := hr.bm.cell 0
    have y0 := hbm2.cell 0
    simp at z0 y0
    have HR := Lib.hid hr
    have HB2 := Lib.hid hb2
    have HBM2 := Lib.hid hbm2
    have HBT2 := Lib.hid hbt2
    have HBI2 := Lib.hid hbi2
    have HK2 := Lib.hid hK2
    have HPL := Lib.hid hpl
    have HPU := Lib.hid hupl
    have HP := Lib.hid (And.intro p1 (And.intro p2 (And.intro p3 (And.intro p4 (And.intro p5 p6)))))
    have HQ := Lib.hid (And.intro q1 (And.intro q2 (And.intro q3 q4)))
    clear hr hpl hb2 hk2 hs2 hsp hbm2 hbt2 hbi2 hK2 hupl p1 p2 p3 p4 p5 p6 q1 q2 q3 q4
    go_wp2_with fail
    refine hcl.mono ?_
    rintro e W3 ⟨v, g4, ex, rfl, hv, hb4, hg4, hk3⟩
    rw [HPU.out] at hv
    subst hv
    have hbm3 := HBM2.out.keep hk3 HBM2.out.lt (by simp)
    have x1 := hbm3.cell 1
    have f1 := hbm3.frozen 1
    simp at x1
    have HB4 := Lib.hid hb4
    have HBM3 := Lib.hid hbm3
    have HK3 := Lib.hid hk3
    have HG4 := Lib.hid hg4
    clear hcl hcp hb4 hbm3 hk3 hg4 z0 y0
    go_wp2
    go_ret
    obtain ⟨p1, p2, p3, p4, p5, p6⟩ := HP.out
    obtain ⟨q1, q2, q3, q4⟩ := HQ.out
    have hg4 := HG4.out
    have l1 := HB2.out.lt
    have l2 := HBT2.out.lt
    have l3 := HBI2.out.lt
    have l4 := HBM2.out.lt
    have hpl := HPL.out
    have hn := HN.out
    refine ⟨⟨M0, G1, g4, w.heap.size, G3, ex⟩, rfl, ?_, fun l u => ⟨?_, ?_, ?_, ?_, ?_, ?_, ?_, ?_, ?_, ?_, ?_⟩, ?_⟩
    · intro k hk
      simp only [MI.blocks, List.mem_cons, List.not_mem_nil, or_false] at hk
      omega
    · simp only [St.fresh, hpl]
      simpa using HBM3.out.set_ 1 (.slice (some ⟨g4, 0, none⟩) n (n + ex.length))
    · exact (HB2.out.keep HK3.out l1 (by simp)).far (by simpa using p3) _
    · exact HB4.out.far (by show g4 ≠ M0; omega) _
    · simp only [St.fresh, hpl]
      exact (HBT2.out.keep HK3.out l2 (by simp)).far (by simpa using p5) _
    · have e : (isL (St.fresh l u xs)).toArray = Array.replicate n (.bool false) := by
        simp [isL, St.fresh, hpl]
        apply Array.ext' ; simp [List.map_const']
      rw [e]
      exact (HBI2.out.keep HK3.out l3 (by simp)).far (by simpa using p6) _
    · simp
    · intro k l _ h; cases h
    · rfl
    · exact ⟨n / 8, by simp only [St.fresh, hpl]; omega⟩
    · simp only [St.fresh, hpl]; omega
    · simp only [MI.blocks, List.nodup_cons, List.mem_cons, not_or, List.not_mem_nil, not_false_eq_true, and_true, List.nodup_nil]
      omega
    · exact (HK2.out.join HK3.out HK2.out.size (by simp)).setCell (by intro h; simp at h; omega) _
  · have hr := raw_make w n 1 2 0 (.cells (Array.replicate n (.bool false)) 4) (.cells (uw (List.replicate n 0)).toArray 25) (.cells (uw (List.replicate n 0)).toArray 25) (by decide) (by decide) (by decide) (by decide) (by decide) (by decide) rfl rfl rfl
    simp only [Nat.add_zero] at hr
    change MRaw w ((((w.alloc (.cells (Array.replicate n (.bool false)) 4)).alloc (.cells (uw (List.replicate n 0)).toArray 25)).alloc (.cells (uw (List.replicate n 0)).toArray 25)).alloc (.cells #[.slice (some ⟨(w.heap.size + 1), 0, none⟩) n n, .slice none 0 0, .slice (some ⟨(w.heap.size + 1 + 1), 0, none⟩) n n, .slice (some ⟨w.heap.size, 0, none⟩) n n] 62)).drew n (w.heap.size + 1) (w.heap.size + 1 + 1) w.heap.size (w.heap.size + 1 + 1 + 1) at hr
    generalize ((((w.alloc (.cells (Array.replicate n (.bool false)) 4)).alloc (.cells (uw (List.replicate n 0)).toArray 25)).alloc (.cells (uw (List.replicate n 0)).toArray 25)).alloc (.cells #[.slice (some ⟨(w.heap.size + 1), 0, none⟩) n n, .slice none 0 0, .slice (some ⟨(w.heap.size + 1 + 1), 0, none⟩) n n, .slice (some ⟨w.heap.size, 0, none⟩) n n] 62)).drew = W4 at *
    generalize (w.heap.size + 1 + 1 + 1) = M0 at *
    generalize (w.heap.size + 1 + 1) = G2 at *
    generalize (w.heap.size + 1) = G1 at *
    have hpl : (pad xs).length = n := by rw [pad_length, HN.out]
    obtain ⟨W2, hcp, hb2, hk2, hs2⟩ := copy_blk (P := Try.prog) (dT := 22) (sT := 22) (ty := 3) underlying_words size_word hr.b1 (some ⟨G1, 0, none⟩) A n n xs.length c 0 (uw xs) (by simp [uw]; omega)
      (fun h0 => ⟨rfl, by
        obtain ⟨g2, o2, hA, hc⟩ := HRD.out (by simpa [uw] using h0)
        exact ⟨g2, o2, hA, fun j v hv => by
          have h3 := hc j v hv
          rw [World.cell?_of_block (hr.keep.block g2 (World.block_lt_of_cell? w _ h3) (by simp))]
          exact h3⟩⟩) (by simp [uw]; omega) (uw_one _)
    have hsp : splice (uw (List.replicate n 0)).toArray.toList 0 (uw xs) = uw (pad xs) := by
      simp [splice, uw, pad, HN.out]
    rw [hsp] at hb2
    obtain ⟨p1, p2, p3, p4, p5, p6⟩ := hr.apart
    obtain ⟨q1, q2, q3, q4⟩ := hr.new
    have hbm2 := hr.bm.keep hk2 hr.bm.lt (by simp; omega)
    have hbt2 := hr.b2.keep hk2 hr.b2.lt (by simp; omega)
    have hbi2 := hr.b3.keep hk2 hr.b3.lt (by simp; omega)
    have hK2 : Keep w.heap.size [] w W2 := hr.keep.join hk2 hr.keep.size (by intro k hk hm; simp at hm; omega)
    have hupl : (uw (pad xs)).length = n := by simp [uw, hpl]
    have hcl := clone_any G1 0 n (uw (pad xs)) W2 (fun j u hu => by rw [Nat.zero_add, hb2.cell]; simpa using hu) (uw_one _) (by rw [hupl]; omega)
    rw [hupl] at hcl
    have z0 := hr.bm.cell 0
    have y0 := hbm2.cell 0
    simp at z0 y0
    have HR := Lib.hid hr
    have HB2 := Lib.hid hb2
    have HBM2 := Lib.hid hbm2
    have HBT2 := Lib.hid hbt2
    have HBI2 := Lib.hid hbi2
    have HK2 := Lib.hid hK2
    have HPL := Lib.hid hpl
    have HPU := Lib.hid hupl
    have HP := Lib.hid (And.intro p1 (And.intro p2 (And.intro p3 (And.intro p4 (And.intro p5 p6)))))
    have HQ := Lib.hid (And.intro q1 (And.intro q2 (And.intro q3 q4)))
    clear hr hpl hb2 hk2 hs2 hsp hbm2 hbt2 hbi2 hK2 hupl p1 p2 p3 p4 p5 p6 q1 q2 q3 q4
    go_wp2_with fail
    refine hcl.mono ?_
    rintro e W3 ⟨v, g4, ex, rfl, hv, hb4, hg4, hk3⟩
    rw [HPU.out] at hv
    subst hv
    have hbm3 := HBM2.out.keep hk3 HBM2.out.lt (by simp)
    have x1 := hbm3.cell 1
    have f1 := hbm3.frozen 1
    simp at x1
    have HB4 := Lib.hid hb4
    have HBM3 := Lib.hid hbm3
    have HK3 := Lib.hid hk3
    have HG4 := Lib.hid hg4
    clear hcl hcp hb4 hbm3 hk3 hg4 z0 y0
    go_wp2
    go_ret
    obtain ⟨p1, p2, p3, p4, p5, p6⟩ := HP.out
    obtain ⟨q1, q2, q3, q4⟩ := HQ.out
    have hg4 := HG4.out
    have l1 := HB2.out.lt
    have l2 := HBT2.out.lt
    have l3 := HBI2.out.lt
    have l4 := HBM2.out.lt
    have hpl := HPL.out
    have hn := HN.out
    refine ⟨⟨M0, G1, g4, G2, w.heap.size, ex⟩, rfl, ?_, fun l u => ⟨?_, ?_, ?_, ?_, ?_, ?_, ?_, ?_, ?_, ?_, ?_⟩, ?_⟩
    · intro k hk
      simp only [MI.blocks, List.mem_cons, List.not_mem_nil, or_false] at hk
      omega
    · simp only [St.fresh, hpl]
      simpa using HBM3.out.set_ 1 (.slice (some ⟨g4, 0, none⟩) n (n + ex.length))
    · exact (HB2.out.keep HK3.out l1 (by simp)).far (by simpa using p3) _
    · exact HB4.out.far (by show g4 ≠ M0; omega) _
    · simp only [St.fresh, hpl]
      exact (HBT2.out.keep HK3.out l2 (by simp)).far (by simpa using p5) _
    · have e : (isL (St.fresh l u xs)).toArray = Array.replicate n (.bool false) := by
        simp [isL, St.fresh, hpl]
        apply Array.ext' ; simp [List.map_const']
      rw [e]
      exact (HBI2.out.keep HK3.out l3 (by simp)).far (by simpa using p6) _
    · simp
    · intro k l _ h; cases h
    · rfl
    · exact ⟨n / 8, by simp only [St.fresh, hpl]; omega⟩
    · simp only [St.fresh, hpl]; omega
    · simp only [MI.blocks, List.nodup_cons, List.mem_cons, not_or, List.not_mem_nil, not_false_eq_true, and_true, List.nodup_nil]
      omega
    · exact (HK2.out.join HK3.out HK2.out.size (by simp)).setCell (by intro h; simp at h; omega) _
  · have hr := raw_make w n 2 1 0 (.cells (Array.replicate n (.bool false)) 4) (.cells (uw (List.replicate n 0)).toArray 25) (.cells (uw (List.replicate n 0)).toArray 25) (by decide) (by decide) (by decide) (by decide) (by decide) (by decide) rfl rfl rfl
    simp only [Nat.add_zero] at hr
    change MRaw w ((((w.alloc (.cells (Array.replicate n (.bool false)) 4)).alloc (.cells (uw (List.replicate n 0)).toArray 25)).alloc (.cells (uw (List.replicate n 0)).toArray 25)).alloc (.cells #[.slice (some ⟨(w.heap.size + 1 + 1), 0, none⟩) n n, .slice none 0 0, .slice (some ⟨(w.heap.size + 1), 0, none⟩) n n, .slice (some ⟨w.heap.size, 0, none⟩) n n] 62)).drew n (w.heap.size + 1 + 1) (w.heap.size + 1) w.heap.size (w.heap.size + 1 + 1 + 1) at hr
    generalize ((((w.alloc (.cells (Array.replicate n (.bool false)) 4)).alloc (.cells (uw (List.replicate n 0)).toArray 25)).alloc (.cells (uw (List.replicate n 0)).toArray 25)).alloc (.cells #[.slice (some ⟨(w.heap.size + 1 + 1), 0, none⟩) n n, .slice none 0 0, .slice (some ⟨(w.heap.size + 1), 0, none⟩) n n, .slice (some ⟨w.heap.size, 0, none⟩) n n] 62)).drew = W4 at *
    generalize (w.heap.size + 1 + 1 + 1) = M0 at *
    generalize (w.heap.size + 1 + 1) = G1 at *
    generalize (w.heap.size + 1) = G2 at *
    have hpl : (pad xs).length = n := by rw [pad_length, HN.out]
    obtain ⟨W2, hcp, hb2, hk2, hs2⟩ := copy_blk (P := Try.prog) (dT := 22) (sT := 22) (ty := 3) underlying_words size_word hr.b1 (some ⟨G1, 0, none⟩) A n n xs.length c 0 (uw xs) (by simp [uw]; omega)
      (fun h0 => ⟨rfl, by
        obtain ⟨g2, o2, hA, hc⟩ := HRD.out (by simpa [uw] using h0)
        exact ⟨g2, o2, hA, fun j v hv => by
          have h3 := hc j v hv
          rw [World.cell?_of_block (hr.keep.block g2 (World.block_lt_of_cell? w _ h3) (by simp))]
          exact h3⟩⟩) (by simp [uw]; omega) (uw_one _)
    have hsp : splice (uw (List.replicate n 0)).toArray.toList 0 (uw xs) = uw (pad xs) := by
      simp [splice, uw, pad, HN.out]
    rw [hsp] at hb2
    obtain ⟨p1, p2, p3, p4, p5, p6⟩ := hr.apart
    obtain ⟨q1, q2, q3, q4⟩ := hr.new
    have hbm2 := hr.bm.keep hk2 hr.bm.lt (by simp; omega)
    have hbt2 := hr.b2.keep hk2 hr.b2.lt (by simp; omega)
    have hbi2 := hr.b3.keep hk2 hr.b3.lt (by simp; omega)
    have hK2 : Keep w.heap.size [] w W2 := hr.keep.join hk2 hr.keep.size (by intro k hk hm; simp at hm; omega)
    have hupl : (uw (pad xs)).length = n := by simp [uw, hpl]
    have hcl := clone_any G1 0 n (uw (pad xs)) W2 (fun j u hu => by rw [Nat.zero_add, hb2.cell]; simpa using hu) (uw_one _) (by rw [hupl]; omega)
    rw [hupl] at hcl
    have z0 := hr.bm.cell 0
    have y0 := hbm2.cell 0
    simp at z0 y0
    have HR := Lib.hid hr
    have HB2 := Lib.hid hb2
    have HBM2 := Lib.hid hbm2
    have HBT2 := Lib.hid hbt2
    have HBI2 := Lib.hid hbi2
    have HK2 := Lib.hid hK2
    have HPL := Lib.hid hpl
    have HPU := Lib.hid hupl
    have HP := Lib.hid (And.intro p1 (And.intro p2 (And.intro p3 (And.intro p4 (And.intro p5 p6)))))
    have HQ := Lib.hid (And.intro q1 (And.intro q2 (And.intro q3 q4)))
    clear hr hpl hb2 hk2 hs2 hsp hbm2 hbt2 hbi2 hK2 hupl p1 p2 p3 p4 p5 p6 q1 q2 q3 q4
    go_wp2_with fail
    refine hcl.mono ?_
    rintro e W3 ⟨v, g4, ex, rfl, hv, hb4, hg4, hk3⟩
    rw [HPU.out] at hv
    subst hv
    have hbm3 := HBM2.out.keep hk3 HBM2.out.lt (by simp)
    have x1 := hbm3.cell 1
    have f1 := hbm3.frozen 1
    simp at x1
    have HB4 := Lib.hid hb4
    have HBM3 := Lib.hid hbm3
    have HK3 := Lib.hid hk3
    have HG4 := Lib.hid hg4
    clear hcl hcp hb4 hbm3 hk3 hg4 z0 y0
    go_wp2
    go_ret
    obtain ⟨p1, p2, p3, p4, p5, p6⟩ := HP.out
    obtain ⟨q1, q2, q3, q4⟩ := HQ.out
    have hg4 := HG4.out
    have l1 := HB2.out.lt
    have l2 := HBT2.out.lt
    have l3 := HBI2.out.lt
    have l4 := HBM2.out.lt
    have hpl := HPL.out
    have hn := HN.out
    refine ⟨⟨M0, G1, g4, G2, w.heap.size, ex⟩, rfl, ?_, fun l u => ⟨?_, ?_, ?_, ?_, ?_, ?_, ?_, ?_, ?_, ?_, ?_⟩, ?_⟩
    · intro k hk
      simp only [MI.blocks, List.mem_cons, List.not_mem_nil, or_false] at hk
      omega
    · simp only [St.fresh, hpl]
      simpa using HBM3.out.set_ 1 (.slice (some ⟨g4, 0, none⟩) n (n + ex.length))
    · exact (HB2.out.keep HK3.out l1 (by simp)).far (by simpa using p3) _
    · exact HB4.out.far (by show g4 ≠ M0; omega) _
    · simp only [St.fresh, hpl]
      exact (HBT2.out.keep HK3.out l2 (by simp)).far (by simpa using p5) _
    · have e : (isL (St.fresh l u xs)).toArray = Array.replicate n (.bool false) := by
        simp [isL, St.fresh, hpl]
        apply Array.ext' ; simp [List.map_const']
      rw [e]
      exact (HBI2.out.keep HK3.out l3 (by simp)).far (by simpa using p6) _
    · simp
    · intro k l _ h; cases h
    · rfl
    · exact ⟨n / 8, by simp only [St.fresh, hpl]; omega⟩
    · simp only [St.fresh, hpl]; omega
    · simp only [MI.blocks, List.nodup_cons, List.mem_cons, not_or, List.not_mem_nil, not_false_eq_true, and_true, List.nodup_nil]
      omega
    · exact (HK2.out.join HK3.out HK2.out.size (by simp)).setCell (by intro h; simp at h; omega) _

set_option maxRecDepth 100000 in
set_option maxHeartbeats 1000000 in
theorem same_any (d : DevI) (m : MI) (s : St) (t : List Int) (w : World) (hd : Dev w d s) (hm : MOf w m s t) :
    Calls Try.prog 37 #[.pointer (some ⟨m.b, 0, none⟩), .pointer (some ⟨d.b, 0, none⟩)] w fun e w' => e = .returned (.bool true) ∧ Keep w.heap.size [] w w' := by
  obtain ⟨hc0, hc1, _, _⟩ := hm.cells
  have c0 : ∀ y : Ext w, y.now.cell? ⟨m.b, 0, none⟩ = some (.slice (some ⟨m.nb, 0, none⟩) s.now.length s.now.length) := fun y => y.cell hc0
  have c1 : ∀ y : Ext w, y.now.cell? ⟨m.b, 1, none⟩ = some (.slice (some ⟨m.kb, 0, none⟩) s.now.length (s.now.length + m.kx.length)) := fun y => y.cell hc1
  have hul : (uw s.now).length = s.now.length := by simp [uw]
  have hkl : (uw s.kept).length = s.now.length := by rw [← hm.lk]; simp [uw]
  have hn : ∀ y : Ext w, Rd y.now (.slice (some ⟨m.nb, 0, none⟩) s.now.length s.now.length) (uw s.now) := fun y => by
    have := Rd.of_blk (xs := uw s.now) (ex := []) (n := s.now.length) (by simpa using (hm.of_new y.keep).now)
    rwa [hul] at this
  have hk : ∀ y : Ext w, Rd y.now (.slice (some ⟨m.kb, 0, none⟩) s.now.length (s.now.length + m.kx.length)) (uw s.kept) := fun y => by
    have := Rd.of_blk (n := s.now.length + m.kx.length) (hm.of_new y.keep).kept
    rwa [hkl] at this
  have heq : ∀ (v : Value) (y : Ext w), Rd y.now v (uw s.now) → Calls Try.prog 19 #[v, .slice (some ⟨m.nb, 0, none⟩) s.now.length s.now.length] y.now fun e w' => e = .returned (.bool true) ∧ Keep y.now.heap.size [] y.now w' := fun v y hr => by
    have := equal_any v _ s.now s.now y.now hr (hn y) hm.small
    rwa [decide_eq_true rfl] at this
  have hek : ∀ (v : Value) (y : Ext w), Rd y.now v (uw s.kept) → Calls Try.prog 19 #[v, .slice (some ⟨m.kb, 0, none⟩) s.now.length (s.now.length + m.kx.length)] y.now fun e w' => e = .returned (.bool true) ∧ Keep y.now.heap.size [] y.now w' := fun v y hr => by
    have := equal_any v _ s.kept s.kept y.now hr (hk y) (by rw [hm.lk]; exact hm.small)
    rwa [decide_eq_true rfl] at this
  have HD := Lib.hid hd
  clear hd hm hn hk hul hkl hc0 hc1
  go_enter Try.func37, Try.ntmps37
  go_wp2_with fail
  refine wp_region_rel (by kernel_rfl) (by kernel_rfl) (by kernel_rfl) ?_
  simp only [puts, Act.put, List.setIfInBounds_toArray, List.set_cons_succ, List.set_cons_zero, Nat.zero_add, Nat.reduceAdd]
  repeat (apply wpRel_is; (focus (intro u y K hK; simp only [sure, told, lay, Region.binds, List.getElem?_cons_zero, List.getElem?_cons_succ, List.getElem?_nil, if_true, Nat.reduceBEq, cond_true, cond_false]; intros; go_simp; simp only [yUpon]; with_reducible refine hK y (Keep.refl _ _ _))); simp only [List.nil_append, List.cons_append])
  apply wpRel_is
  · intro u y K hK
    simp only [sure, told, lay, Region.binds, List.getElem?_cons_zero, List.getElem?_cons_succ, List.getElem?_nil, if_true, Nat.reduceBEq, cond_true, cond_false]
    intros
    go_simp
    simp only [yUpon]
    refine (len_any d s y.now (HD.out.of_new y.keep)).mono ?_
    rintro e w' ⟨rfl, rfl⟩
    exact hK y (Keep.refl _ _ _)
  simp only [List.nil_append, List.cons_append]
  repeat (apply wpRel_is; (focus (intro u y K hK; simp only [sure, told, lay, Region.binds, List.getElem?_cons_zero, List.getElem?_cons_succ, List.getElem?_nil, if_true, Nat.reduceBEq, cond_true, cond_false]; intros; go_simp; simp only [yUpon]; with_reducible refine hK y (Keep.refl _ _ _))); simp only [List.nil_append, List.cons_append])
  refine wpRel_so (fun v w' => RowAt w' v (uw s.now)) (fun v w1 w2 h hk => h.keep hk) ?_ ?_
  · intro u y K hK
    simp only [sure, told, lay, Region.binds, List.getElem?_cons_zero, List.getElem?_cons_succ, List.getElem?_nil, if_true, Nat.reduceBEq, cond_true, cond_false]
    intros
    go_simp
    simp only [yUpon]
    refine (words_any d s y.now (HD.out.of_new y.keep)).mono ?_
    rintro e w' ⟨v, g, ex, rfl, hn⟩
    exact hK v ⟨w', y.keep.join hn.keep y.keep.size (by simp)⟩ hn.keep hn.at_
  simp only [List.nil_append, List.cons_append]
  repeat (apply wpRel_is; (focus (intro u y K hK; simp only [sure, told, lay, Region.binds, List.getElem?_cons_zero, List.getElem?_cons_succ, List.getElem?_nil, if_true, Nat.reduceBEq, cond_true, cond_false]; intros; go_simp; simp only [yUpon]; with_reducible refine hK y (Keep.refl _ _ _))); simp only [List.nil_append, List.cons_append])
  apply wpRel_is
  · intro u y K hK
    simp only [sure, told, lay, Region.binds, List.getElem?_cons_zero, List.getElem?_cons_succ, List.getElem?_nil, if_true, Nat.reduceBEq, cond_true, cond_false]
    skip
    go_simp
    simp only [yUpon]
    intro hr
    refine (heq _ y hr.rd).mono ?_
    rintro e w' ⟨rfl, hk⟩
    exact hK ⟨w', y.keep.join hk y.keep.size (by simp)⟩ hk
  simp only [List.nil_append, List.cons_append]
  repeat (apply wpRel_is; (focus (intro u y K hK; simp only [sure, told, lay, Region.binds, List.getElem?_cons_zero, List.getElem?_cons_succ, List.getElem?_nil, if_true, Nat.reduceBEq, cond_true, cond_false]; intros; go_simp; simp only [yUpon]; with_reducible refine hK y (Keep.refl _ _ _))); simp only [List.nil_append, List.cons_append])
  refine wpRel_so (fun v w' => RowAt w' v (uw s.kept)) (fun v w1 w2 h hk => h.keep hk) ?_ ?_
  · intro u y K hK
    simp only [sure, told, lay, Region.binds, List.getElem?_cons_zero, List.getElem?_cons_succ, List.getElem?_nil, if_true, Nat.reduceBEq, cond_true, cond_false]
    intros
    go_simp
    simp only [yUpon]
    refine (kept_any d s y.now (HD.out.of_new y.keep)).mono ?_
    rintro e w' ⟨v, g, ex, rfl, hn⟩
    exact hK v ⟨w', y.keep.join hn.keep y.keep.size (by simp)⟩ hn.keep hn.at_
  simp only [List.nil_append, List.cons_append]
  repeat (apply wpRel_is; (focus (intro u y K hK; simp only [sure, told, lay, Region.binds, List.getElem?_cons_zero, List.getElem?_cons_succ, List.getElem?_nil, if_true, Nat.reduceBEq, cond_true, cond_false]; intros; go_simp; simp only [yUpon]; with_reducible refine hK y (Keep.refl _ _ _))); simp only [List.nil_append, List.cons_append])
  apply wpRel_is
  · intro u y K hK
    simp only [sure, told, lay, Region.binds, List.getElem?_cons_zero, List.getElem?_cons_succ, List.getElem?_nil, if_true, Nat.reduceBEq, cond_true, cond_false]
    skip
    go_simp
    simp only [yUpon]
    intro hr
    refine (hek _ y hr.rd).mono ?_
    rintro e w' ⟨rfl, hk⟩
    exact hK ⟨w', y.keep.join hk y.keep.size (by simp)⟩ hk
  simp only [List.nil_append, List.cons_append]
  repeat (apply wpRel_is; (focus (intro u y K hK; simp only [sure, told, lay, Region.binds, List.getElem?_cons_zero, List.getElem?_cons_succ, List.getElem?_nil, if_true, Nat.reduceBEq, cond_true, cond_false]; intros; go_simp; simp only [yUpon]; with_reducible refine hK y (Keep.refl _ _ _))); simp only [List.nil_append, List.cons_append])
  refine wpRel_nil ?_
  intro u y h
  have hlast : u 26 = .bool true := h 26 _ rfl
  have hk := y.keep
  have HY := Lib.hid hk
  clear h hk
  simp only [hlast]
  go_wp2
  go_ret
  exact ⟨rfl, HY.out⟩
end Go.Proofs.Ytanjmbjnpcekcaa
