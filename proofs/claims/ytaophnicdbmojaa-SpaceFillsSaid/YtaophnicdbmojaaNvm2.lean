/-
  slices.Clone at words; Device.Words, Device.Kept; nvm.New.
-/
import Derived.Test.YtaophnicdbmojaaNvm
set_option maxRecDepth 100000
namespace Go.Proofs.Ytaophnicdbmojaa
open Go.RowKit Go.Shelf

theorem info_word : (Try.prog.info? 25).map (fun i => (i.zero, i.size, i.bytes)) = some (some (.int .u64 0), 1, 8) := by kernel_rfl

/-- What a new row of words is: a slice over a block of its own. -/
structure NewRow (w w' : World) (v : Value) (xs : List Value) (g : Nat) (ex : List Value) : Prop where
  val : v = .slice (some ⟨g, 0, none⟩) xs.length (xs.length + ex.length)
  blk : Blk w' g 25 (xs ++ ex).toArray
  new : w.heap.size ≤ g
  keep : Keep w.heap.size [] w w'

set_option maxHeartbeats 400000 in
theorem clone_any (g off c : Nat) (xs : List Value) (w : World) (hx : ∀ j u, xs[j]? = some u → w.cell? ⟨g, off + j, none⟩ = some u) (h1 : ∀ u ∈ xs, u.oneCell' = true) (hl : xs.length ≤ 1099511627776) :
    Calls Try.prog 74 #[.slice (some ⟨g, off, none⟩) xs.length c] w fun e w' => ∃ v g' ex, e = .returned v ∧ NewRow w w' v xs g' ex := by
  obtain ⟨i0, hi, hz0, hz1, hz2⟩ := info_parts info_word
  have HX := Lib.hid hx
  have HL := Lib.hid hl
  clear hx
  have hnil := fun (w : World) => Lib.run_eql_slice_nil (P := Try.prog) w 26 25 (some ⟨g, off, none⟩) xs.length c 0 0 underlying_words
  go_enter Try.func74, Try.ntmps74
  have hown : (w.alloc (.cells #[] 25)).ownsRow w.heap.size 25 1 (.slice (some ⟨w.heap.size, 0, none⟩) 0 0) 0 [] := World.ownsRow_made w #[] 0 (Nat.le_refl _) (by simp [maxLen]) (by simp)
  have hnews : ∀ j u, xs[j]? = some u → (w.alloc (.cells #[] 25)).cell? ((⟨g, off, none⟩ : Addr).add j) = some u := fun j u hu => by
    have h2 := HX.out j u hu
    rw [Addr.add_mid, World.cell?_alloc_lt w _ _ (World.block_lt_of_cell? w _ h2)]
    exact h2
  have HN := Lib.hid hnews
  have HO := Lib.hid hown
  clear hnews hown
  go_wp2_with (at_builtin; refine wpList_append_own _ rfl (.tmp 5) (.tmp 6) 26 rfl w.heap.size 25 i0 (.int .u64 0) 1 8 underlying_words hi hz0 hz1 hz2 rfl (by decide) _ _ _ rfl HO.out ⟨g, off, none⟩ xs.length c xs rfl (Nat.mul_one _).symm HN.out h1 ?c1 ?c2 ?c3 ?c4)
  case c1 => simp only [maxLen]; omega
  case c2 => omega
  case c3 => simp
  case c4 =>
    intro v' w' ho hgr hz
    have HZ := Lib.hid hz
    have HO2 := Lib.hid ho
    clear hz ho
    go_wp2
    go_ret
    have ho := HO2.out
    obtain ⟨hlen, ⟨rfl, hn⟩ | ⟨g', cap, cur, rfl, hb, hh, h3, h4, h5, h6⟩⟩ := ho
    · have := HZ.out
      simp at this
    · simp only [Nat.mul_one] at *
      have hcur : cur = (xs ++ cur.toList.drop xs.length).toArray := by
        have e : cur.toList = xs ++ cur.toList.drop xs.length := by
          have := List.take_append_drop xs.length cur.toList
          rw [h6] at this
          exact this.symm
        rw [← e]
      have hsz : cap = xs.length + (cur.toList.drop xs.length).length := by simp; omega
      refine ⟨_, g', cur.toList.drop xs.length, rfl, by rw [← hsz]; rfl, ?_, hb, ?_⟩
      · unfold Blk; rw [← hcur]; exact hh
      · refine ((Keep.refl w.heap.size [] w).alloc (Nat.le_refl _) _).grown hgr (by simp) ?_
        intro k hk hlt
        simp [Value.ownBlock] at hk
        omega

theorem uw_one (xs : List Int) : ∀ u ∈ uw xs, u.oneCell' = true := by
  intro u hu
  obtain ⟨x, _, rfl⟩ := List.mem_map.1 hu
  rfl

theorem Dev.of_new {w w' : World} {d : DevI} {s : St} (h : Dev w d s) (hk : Keep w.heap.size [] w w') : Dev w' d s :=
  h.keep hk fun k hm => ⟨h.lt k hm, by simp⟩

set_option maxHeartbeats 400000 in
theorem words_any (d : DevI) (s : St) (w : World) (h : Dev w d s) :
    Calls Try.prog 57 #[.pointer (some ⟨d.b, 0, none⟩)] w fun e w' => ∃ v g' ex, e = .returned v ∧ NewRow w w' v (uw s.now) g' ex := by
  obtain ⟨_, hc, _, _⟩ := h.cells
  have hl : (uw s.now).length = s.now.length := by simp [uw]
  have hcl := clone_any d.nb 0 s.now.length (uw s.now) w (fun j u hu => by rw [Nat.zero_add, h.now.cell]; simpa using hu) (uw_one _) (by rw [hl]; exact h.small)
  rw [hl] at hcl
  clear h hl
  go_enter Try.func57, Try.ntmps57
  go_wp2_with fail
  refine hcl.mono ?_
  rintro e w' ⟨v, g', ex, rfl, hn⟩
  have HN := Lib.hid hn
  clear hcl hn
  go_wp2
  go_ret
  exact ⟨v, g', ex, rfl, HN.out⟩

/-- A slice that reads as these values; nil is let in. -/
def Rd (w : World) (v : Value) (xs : List Value) : Prop :=
  ∃ A c, v = .slice A xs.length c ∧ (0 < xs.length → ∃ g off, A = some ⟨g, off, none⟩ ∧ ∀ j u, xs[j]? = some u → w.cell? ⟨g, off + j, none⟩ = some u)

theorem Rd.same {w w' : World} {v : Value} {xs : List Value} (h : Rd w v xs) (hk : ∀ a : Addr, a.block < w.heap.size → w'.cell? a = w.cell? a) : Rd w' v xs := by
  obtain ⟨A, c, rfl, h⟩ := h
  refine ⟨A, c, rfl, fun hp => ?_⟩
  obtain ⟨g, off, hA, h⟩ := h hp
  exact ⟨g, off, hA, fun j u hu => (hk _ (World.block_lt_of_cell? w _ (h j u hu))).trans (h j u hu)⟩
theorem Rd.keep {w w' : World} {v : Value} {xs : List Value} (h : Rd w v xs) (hk : Keep w.heap.size [] w w') : Rd w' v xs :=
  h.same fun a ha => World.cell?_of_block (hk.block a.block ha (by simp))
theorem Rd.of_blk {w : World} {g n : Nat} {t : TypeId} {xs ex : List Value} (h : Blk w g t (xs ++ ex).toArray) : Rd w (.slice (some ⟨g, 0, none⟩) xs.length n) xs :=
  ⟨_, _, rfl, fun _ => ⟨g, 0, rfl, fun j u hu => by
    rw [Nat.zero_add, h.cell]
    have hj : j < xs.length := (List.getElem?_eq_some_iff.1 hu).1
    simp only [List.getElem?_toArray]
    rw [List.getElem?_append_left hj]
    exact hu⟩⟩

/-- Noughts up to a whole line. -/
def pad (xs : List Int) : List Int := xs ++ List.replicate ((xs.length + 7) / 8 * 8 - xs.length) 0
theorem pad_length (xs : List Int) : (pad xs).length = (xs.length + 7) / 8 * 8 := by simp [pad]; omega

def St.fresh (l u : Int) (xs : List Int) : St := { l, u, now := pad xs, kept := pad xs, q := fun _ => none }

theorem made_words (n : Nat) : madeCells (Value.cells (.int .u64 0)) (n * 1) = (uw (List.replicate n 0)).toArray := by
  unfold madeCells uw
  apply Array.ext'
  simp only [Array.toList_map, Array.toList_range, List.map_replicate]
  apply List.ext_getElem?
  intro i
  simp only [List.getElem?_map, Value.cells]
  by_cases h : i < n
  · simp [h, Nat.mod_one]
  · simp [h]

set_option maxHeartbeats 800000 in
theorem new_any (p : Nat) (l u : Int) (v : Value) (xs : List Int) (w : World) (hp : Pow w p l u) (hv : Rd w v (uw xs)) (hl : xs.length ≤ 1000000000) :
    Calls Try.prog 68 #[.pointer (some ⟨p, 0, none⟩), v] w fun e w' => ∃ d : DevI, e = .returned (.pointer (some ⟨d.b, 0, none⟩)) ∧ d.p = p ∧ (∀ k ∈ d.blocks, k ≠ p → w.heap.size ≤ k) ∧ Dev w' d (St.fresh l u xs) ∧ Keep w.heap.size [] w w' := by
  obtain ⟨i0, hi, hz0, hz1, hz2⟩ := info_parts info_word
  obtain ⟨A, c, rfl, hrd⟩ := hv
  rw [show (uw xs).length = xs.length by simp [uw]] at hrd
  rw [show (uw xs).length = xs.length by simp [uw]]
  obtain ⟨n, hn⟩ : ∃ n, n = (xs.length + 7) / 8 * 8 := ⟨_, rfl⟩
  have hn' : ((xs.length : Int) + 8 - 1) / 8 * 8 = (n : Int) := by omega
  have HN := Lib.hid hn
  have HP := Lib.hid hp
  have HRD := Lib.hid hrd
  have hlx : (xs.length : Int) ≤ 1000000000 := by omega
  have hmk : (Instr.makeSlice 26 (.int .i64 n) (.int .i64 n)).run Try.prog w = .ok (.slice (some ⟨w.heap.size, 0, none⟩) n n) (w.alloc (.cells (uw (List.replicate n 0)).toArray 25)) := by
    have := run_make (P := Try.prog) w 26 25 i0 (.int .u64 0) underlying_words hi hz0 .i64 .i64 n n (by omega) (by omega) (by rw [hz2]; omega) (by omega)
    rw [hz1, made_words] at this
    simpa using this
  obtain ⟨W1, hW1⟩ : ∃ W1, W1 = w.alloc (.cells (uw (List.replicate n 0)).toArray 25) := ⟨_, rfl⟩
  rw [← hW1] at hmk
  have hb1 : Blk W1 w.heap.size 25 (uw (List.replicate n 0)).toArray := hW1 ▸ Blk.new w _ _
  have hk1 : Keep w.heap.size [] w W1 := hW1 ▸ (Keep.refl _ _ _).alloc (Nat.le_refl _) _
  have hs1 : W1.heap.size = w.heap.size + 1 := by rw [hW1]; simp
  obtain ⟨W2, hcp, hb2, hk2, hs2⟩ := copy_blk (P := Try.prog) (dT := 26) (sT := 26) (ty := 3) underlying_words size_word hb1 (some ⟨w.heap.size, 0, none⟩) A n n xs.length c 0 (uw xs) (by simp [uw]; omega)
    (fun h0 => ⟨rfl, by
      obtain ⟨g2, o2, hA, hc⟩ := hrd (by simpa [uw] using h0)
      exact ⟨g2, o2, hA, fun j v hv => by
        have h3 := hc j v hv
        rw [World.cell?_of_block (hk1.block g2 (World.block_lt_of_cell? w _ h3) (by simp))]
        exact h3⟩⟩) (by simp [uw]; omega) (uw_one _)
  have hsp : splice (uw (List.replicate n 0)).toArray.toList 0 (uw xs) = uw (pad xs) := by
    simp [splice, uw, pad, hn]
  rw [hsp] at hb2
  have hk2' : Keep w.heap.size [] w W2 := hk1.join hk2 (by omega) (by intro k hk hm; simp at hm; omega)
  have hpl : (uw (pad xs)).length = n := by rw [hn, ← pad_length]; simp [uw]
  have hcl := clone_any w.heap.size 0 n (uw (pad xs)) W2 (fun j u hu => by rw [Nat.zero_add, hb2.cell]; simpa using hu) (uw_one _) (by rw [hpl]; omega)
  rw [hpl] at hcl
  have hmm := @run_makeMap Try.prog
  have HB2 := Lib.hid hb2
  have HK2 := Lib.hid hk2'
  have HS2 : Hid (w.heap.size < W2.heap.size) := Lib.hid hb2.lt
  have HPL := Lib.hid hpl
  clear hn hp hrd hW1 hb1 hk1 hs1 hb2 hk2 hs2 hsp hk2' hpl
  go_enter Try.func68, Try.ntmps68
  go_wp2_with fail
  refine hcl.mono ?_
  rintro e W3 ⟨v, g', ex, rfl, hv, hb3, hg3, hk3⟩
  subst hv
  have HB3 := Lib.hid hb3
  have HK3 := Lib.hid hk3
  have HG3 := Lib.hid hg3
  clear hcl hb3 hg3 hk3 hcp hmk
  go_wp2
  go_ret
  have hb2 := HB2.out
  have hs2 := HS2.out
  have hk3 := HK3.out
  have hg3 := HG3.out
  have hs3 := hk3.size
  have hp := HP.out
  have hplt : p < w.heap.size := Blk.lt hp
  have hpl := HPL.out
  have hgl := HB3.out.lt
  rw [hpl]
  have hpl' : (pad xs).length = n := by rw [← hpl]; simp [uw]
  refine ⟨⟨W3.heap.size + 1, p, w.heap.size, g', W3.heap.size, ex⟩, rfl, rfl, ?_, ?_, ?_⟩
  · intro k hk hne
    simp only [DevI.blocks, List.mem_cons, List.not_mem_nil, or_false] at hk
    omega
  · refine ⟨?_, ?_, ?_, ?_, ⟨?_, ?_⟩, rfl, ⟨n / 8, ?_⟩, ?_, ?_⟩
    · exact (((hp.keep (HK2.out.join hk3 (by omega) (by simp)) hplt (by simp)).alloc _).alloc _)
    · have := Blk.new (W3.alloc (.map #[] 0)) 107 #[.pointer (some ⟨p, 0, none⟩), .slice (some ⟨w.heap.size, 0, none⟩) n n, .slice (some ⟨g', 0, none⟩) n (n + ex.length), .map (some W3.heap.size)]
      rw [World.size_alloc] at this
      simp only [St.fresh, hpl']
      exact this
    · exact ((hb2.keep hk3 (by omega) (by simp)).alloc _).alloc _
    · exact ((HB3.out).alloc _).alloc _
    · have := IMap.new W3 .i64
      have h2 : qmap (St.fresh l u xs).q = fun _ => none := by funext k; simp [qmap, St.fresh]
      rw [h2]
      exact this.same (Below.heap_alloc _ _ _ (by simp))
    · intro j l hj; cases hj
    · simp only [St.fresh, hpl']; have := HN.out; omega
    · simp only [St.fresh, hpl']; omega
    · simp only [DevI.blocks, List.nodup_cons, List.mem_cons, not_or, List.not_mem_nil, not_false_eq_true, and_true, List.nodup_nil]
      omega
  · exact ((HK2.out.join hk3 (by omega) (by simp)).alloc (by omega) _).alloc (by simp; omega) _
end Go.Proofs.Ytaophnicdbmojaa
