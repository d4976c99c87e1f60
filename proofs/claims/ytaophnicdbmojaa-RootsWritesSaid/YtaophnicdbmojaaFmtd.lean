/-
  tumuluslaw05.Formatted: a new device, formatted.
-/
import Derived.Test.YtaophnicdbmojaaRead
set_option linter.unusedSimpArgs false
set_option linter.unusedVariables false
set_option maxRecDepth 100000
namespace Go.Proofs.Ytaophnicdbmojaa
open Go.RowKit Go.Shelf

theorem make_words (n : Nat) (w : World) (hn : n ≤ 1000000000) : (Instr.makeSlice 26 (.int .i64 n) (.int .i64 n)).run Try.prog w = .ok (.slice (some ⟨w.heap.size, 0, none⟩) n n) (w.alloc (.cells (uw (List.replicate n 0)).toArray 25)) := by
  obtain ⟨i0, hi, hz0, hz1, hz2⟩ := info_parts info_word
  have := run_make (P := Try.prog) w 26 25 i0 (.int .u64 0) underlying_words hi hz0 .i64 .i64 n n (by omega) (by omega) (by rw [hz2]; omega) (by omega)
  rw [hz1, made_words] at this
  simpa using this
theorem uw_set (xs : List Int) (j : Nat) (v : Int) : (uw xs).toArray.setIfInBounds j (.int .u64 v) = (uw (xs.set j v)).toArray := by
  simp [uw, List.map_set]

/-- Old words, again and again. -/
def fillAt (old : List Int) (i : Nat) : Int := old.getD (i % old.length) 0
def fillTo (old : List Int) (n j : Nat) : List Int := (List.range n).map fun i => if i < j then fillAt old i else 0
def fill (old : List Int) (n : Nat) : List Int := fillTo old n n
theorem fillTo_length (old : List Int) (n j : Nat) : (fillTo old n j).length = n := by simp [fillTo]
theorem fillTo_get (old : List Int) (n j i : Nat) : (fillTo old n j)[i]? = if i < n then some (if i < j then fillAt old i else 0) else none := by
  simp only [fillTo, List.getElem?_map]
  by_cases h : i < n
  · simp [h]
  · simp [h]
theorem fillTo_zero (old : List Int) (n : Nat) : fillTo old n 0 = List.replicate n 0 := by
  apply List.ext_getElem?
  intro i
  rw [fillTo_get, List.getElem?_replicate]
  simp
theorem fillTo_set (old : List Int) (n j : Nat) : (fillTo old n j).set j (fillAt old j) = fillTo old n (j + 1) := by
  apply List.ext_getElem?
  intro i
  rw [List.getElem?_set, fillTo_get, fillTo_get, fillTo_length]
  by_cases hij : j = i
  · subst hij
    by_cases h : j < n <;> simp [h]
  · by_cases h : i < n
    · have : i < j + 1 ↔ i < j := by omega
      simp [h, hij, this]
    · simp [h, hij]
theorem fillTo_none (n j : Nat) : fillTo [] n (j + 1) = fillTo [] n j := by
  apply List.ext_getElem?
  intro i
  rw [fillTo_get, fillTo_get]
  have : fillAt [] i = 0 := by simp [fillAt]
  by_cases h : i < n <;> by_cases h2 : i < j <;> by_cases h3 : i < j + 1 <;> simp [h, h2, h3, this]
theorem fill_getD (old : List Int) (n i : Nat) (h : i < n) : (fill old n).getD i 0 = fillAt old i := by
  rw [List.getD_eq_getElem?_getD, fill, fillTo_get, if_pos h, if_pos h]; rfl
theorem fillAt_range (old : List Int) (h : ∀ x ∈ old, 0 ≤ x ∧ x ≤ 18446744073709551615) (i : Nat) : 0 ≤ fillAt old i ∧ fillAt old i ≤ 18446744073709551615 := by
  unfold fillAt
  rw [List.getD_eq_getElem?_getD]
  cases hx : old[i % old.length]? with
  | none => simp
  | some x => exact h x (List.mem_of_getElem? hx)

set_option maxRecDepth 100000 in
set_option maxHeartbeats 2000000 in
theorem formatted_any (k : Kfg) (v : Value) (old : List Int) (w : World) (hk : k.Ok) (hv : Rd w v (uw old)) (hl : old.length ≤ 1000000) :
    Calls Try.prog 17 #[.agg k.cells, v] w fun e w' => ∃ d : DevI, e = .returned (.tuple #[.pointer (some ⟨d.b, 0, none⟩), .bool true]) ∧ (∀ j ∈ d.blocks, w.heap.size ≤ j) ∧ Dev w' d ((St.fresh (-1) 0 (fill old k.words)).run (fmtOps k)) ∧ Keep w.heap.size [] w w' := by
  obtain ⟨A, c, rfl, hrd⟩ := hv.cellAt
  have HS := Lib.hid ((Sep.start w []).new 29 k.cells)
  have HV := Lib.hid hv
  have HK := Lib.hid hk
  obtain ⟨n, hn⟩ : ∃ n, k.words = n := ⟨_, rfl⟩
  have hnl : n ≤ 10000 := by have := (Kfg.words_le hk).2; omega
  have HN := Lib.hid hn
  have hmk := fun w => make_words n w (by omega)
  have hkw := fun w => kwords k w hk
  rw [hn] at hkw
  have HKW := Lib.hid hkw
  clear hv hk hrd hn hkw
  simp only [Kfg.cells] at HS ⊢
  go_enter Try.func17, Try.ntmps17
  go_wp2_with fail
  generalize w.alloc _ = w2 at *
  generalize w.heap.size = gc at *
  refine (HKW.out _).mono ?_
  rintro e w1 ⟨rfl, hk⟩
  replace HS := Lib.hid (HS.out.grow hk)
  clear hk
  go_wp2_with fail
  have hs1 := HS.out.new 25 (uw (List.replicate n 0)).toArray
  rw [← fillTo_zero old n] at hs1
  replace HS := Lib.hid hs1
  clear hs1 hmk
  rw [← fillTo_zero old n]
  generalize w1.alloc _ = w3 at *
  generalize w1.heap.size = gl at *
  go_loopw [14] (fun v' wr => ∃ j : Nat, j ≤ n ∧ v' = .int .i64 (j : Int) ∧ Sep w [] [blkR gc 29 #[.int .i64 (k.L : Int), .int .i64 (k.R : Int), .int .i64 (k.S : Int)], blkR gl 25 (uw (fillTo old n j)).toArray] wr) (fun v' _ => n - (intOf v').toNat)
  case atStart => exact ⟨0, by omega, rfl, HS.out⟩
  case round =>
    clear HS
    obtain ⟨j, hj, rfl, hs⟩ := hrel
    have HS := Lib.hid hs
    clear hs
    by_cases hlt : j < n
    · have hltI : (j : Int) < n := by omega
      by_cases h0 : old.length = 0
      · obtain rfl : old = [] := List.length_eq_zero_iff.1 h0
        have hs := HS.out
        rw [← fillTo_none] at hs
        have HS2 := Lib.hid hs
        clear hs HS h0
        go_wp2
        exact ⟨⟨j + 1, by omega, by go_num, HS2.out⟩, by simp [intOf]; omega⟩
      · have hp : (0 : Int) < old.length := by omega
        obtain ⟨m, hm, hmn, hm2⟩ := tmod_some (j : Int) old.length (by omega) (by omega)
        obtain ⟨A', c', hA, hr⟩ := (HV.out.keep HS.out.keep).cellAt
        injection hA with e1 e2 e3
        subst e1
        obtain ⟨g, off, rfl, k0⟩ := hr m hmn
        have hfa : old.getD m 0 = fillAt old j := by
          unfold fillAt
          congr 1
          omega
        rw [hfa] at k0
        have hmI : (m : Int) < old.length := by omega
        have hb := HS.out.blk 1 rfl
        have q0 : ∃ u, wr.cell? ⟨gl, j, none⟩ = some (.int .u64 u) := by
          rw [hb.cell]
          exact ⟨if j < j then fillAt old j else 0, by rw [getElem?_toArray_uw, fillTo_get, if_pos hlt]; rfl⟩
        obtain ⟨u, q0⟩ := q0
        have fz := hb.frozen j
        have hs := HS.out.put (i := 1) rfl j (.int .u64 (fillAt old j))
        rw [uw_set, fillTo_set] at hs
        have HS2 := Lib.hid hs
        clear hr e2 e3 hfa hb hs h0
        go_wp2
        exact ⟨⟨j + 1, by omega, by go_num, HS2.out⟩, by simp [intOf]; omega⟩
    · have hge : (n : Int) ≤ j := by omega
      obtain rfl : j = n := by omega
      have hfl : (fill old j).length = j := fillTo_length _ _ _
      have hrd : Rd wr (.slice (some ⟨gl, 0, none⟩) j j) (uw (fill old j)) := by
        have hb := HS.out.blk 1 rfl
        have := Rd.of_uw (w := wr) (n := j) (ex := []) (xs := fillTo old j j) (by rw [List.append_nil]; exact hb)
        rwa [fillTo_length] at this
      have HRD := Lib.hid hrd
      have HFL := Lib.hid hfl
      clear hrd hfl
      go_wp2_with fail
      refine (new2_any _ (fill old j) _ HRD.out (by rw [HFL.out]; omega)).mono ?_
      rintro e w1 ⟨d, rfl, hdb, hd, hk⟩
      replace HS := Lib.hid (HS.out.add hk (r := devR d _) hd hdb)
      clear hdb hd hk
      have c0 := (HS.out.blk 0 rfl).cell 0
      simp at c0
      have c1 := (HS.out.blk 0 rfl).cell 1
      simp at c1
      have c2 := (HS.out.blk 0 rfl).cell 2
      simp at c2
      go_wp2_with fail
      refine (format_any d _ k _ (HS.out.dev 2 rfl) HK.out (by show (pad (fill old j)).length = k.words; rw [pad_of (by rw [HFL.out, ← HN.out]; exact k.words_mod), HFL.out, HN.out])).mono ?_
      rintro e w4 hp
      obtain ⟨rfl, hd, hk⟩ := hp.free (by show (-1 : Int) < 0; decide)
      replace HS := Lib.hid (HS.out.did (i := 2) rfl hd hk)
      clear hp hd hk c0 c1 c2
      go_wp2
      go_ret2
      refine ⟨d, rfl, fun x hx => ?_, HN.out ▸ HS.out.dev 2 rfl, HS.out.keep⟩
      rcases Nat.lt_or_ge x w.heap.size with hlt | hge
      · exact absurd (HS.out.old 2 _ rfl x hx hlt) (by simp)
      · exact hge
end Go.Proofs.Ytaophnicdbmojaa
