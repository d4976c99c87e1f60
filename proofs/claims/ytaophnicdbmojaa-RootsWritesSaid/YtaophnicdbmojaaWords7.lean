/-
  tumuluslaw07.Words.
-/
import Derived.Test.YtaophnicdbmojaaRoots
set_option linter.unusedSimpArgs false
set_option linter.unusedVariables false
set_option maxRecDepth 100000
namespace Go.Proofs.Ytaophnicdbmojaa
open Go.RowKit Go.Shelf

/-- The words from a on, as a slice of a row. -/
theorem Rd.behind7 {w : World} {g a n c : Nat} {t : TypeId} {xs : List Int} {ex : List Value} (h : Blk w g t (uw xs ++ ex).toArray) (hn : n = (xs.drop a).length) : Rd w (.slice (some ⟨g, a, none⟩) n c) (uw (xs.drop a)) := by
  subst hn
  refine ⟨some ⟨g, a, none⟩, c, by simp [uw], fun _ => ⟨g, a, rfl, fun j u hu => ?_⟩⟩
  rw [h.cell]
  have hj : j < (uw (xs.drop a)).length := (List.getElem?_eq_some_iff.1 hu).1
  simp only [uw, List.length_map, List.length_drop] at hj
  simp only [List.getElem?_toArray]
  rw [List.getElem?_append_left (by simp [uw]; omega)]
  rw [← hu]
  simp [uw, List.getElem?_map, List.getElem?_drop]

set_option maxRecDepth 100000 in
set_option maxHeartbeats 2000000 in
theorem words7_any (d : DevI) (s : St) (k : Kfg) (w : World) (h : Dev w d s) (hk : k.Ok) (hl : s.now.length = k.words) :
    Calls Try.prog 31 #[.pointer (some ⟨d.b, 0, none⟩), .agg k.cells] w fun e w' => ∃ g ex c, e = .returned (.slice (some ⟨g, k.act, none⟩) (s.now.drop k.act).length c) ∧ Blk w' g 25 (uw s.now ++ ex).toArray ∧ w.heap.size ≤ g ∧ Keep w.heap.size [] w w' := by
  have HS := Lib.hid ((Sep.start w []).new 29 k.cells)
  have H := Lib.hid h
  have HK := Lib.hid hk
  obtain ⟨hw1, hw2⟩ := Kfg.words_le hk
  obtain ⟨nw, hnw⟩ : ∃ nw, k.words = nw := ⟨_, rfl⟩
  have HL : Hid (s.now.length = nw) := Lib.hid (hl.trans hnw)
  have HNW := Lib.hid hnw
  have hlu : (uw s.now).length = nw := by rw [uw_length]; exact HL.out
  have HLU := Lib.hid hlu
  rw [hnw] at hw1 hw2
  have hact : k.act < nw := by omega
  obtain ⟨na, hna⟩ : ∃ na, k.act = na := ⟨_, rfl⟩
  have HNA := Lib.hid hna
  rw [hna] at hact
  have hdr : (s.now.drop k.act).length = nw - na := by rw [List.length_drop, HL.out, hna]
  rw [hdr]
  simp only [Kfg.cells] at HS ⊢
  clear h hk hl hnw hlu hw1 hna hdr
  go_enter Try.func31, Try.ntmps31
  go_wp2_with fail
  generalize w.alloc _ = w2 at *
  generalize w.heap.size = gc at *
  have hd2 := H.out.of_new HS.out.keep
  go_wp2_with fail
  refine (words_any d s _ hd2).mono ?_
  rintro e w1 ⟨vw, gw, xw, rfl, hn⟩
  have vw_v := hn.val
  replace HS := Lib.hid (HS.out.add hn.keep (r := blkR gw _ _) hn.blk (by intro k hk; simp [blkR] at hk; subst hk; exact hn.new))
  clear hn
  rw [HLU.out] at vw_v
  subst vw_v
  clear hd2
  have HG : Hid (w.heap.size ≤ gw) := by
    have := HS.out.old 1 _ rfl gw (by simp [blkR])
    rcases Nat.lt_or_ge gw w.heap.size with h | h
    · exact absurd (this h) (by simp)
    · exact h
  have c0 := (HS.out.blk 0 rfl).cell 0
  simp at c0
  have c1 := (HS.out.blk 0 rfl).cell 1
  simp at c1
  have c2 := (HS.out.blk 0 rfl).cell 2
  simp at c2
  go_wp2_with fail
  refine (kwords k _ HK.out).mono ?_
  rintro e w1 ⟨rfl, hk⟩
  replace HS := Lib.hid (HS.out.grow hk)
  clear hk
  rw [HNW.out]
  clear c0 c1 c2
  have c0 := (HS.out.blk 0 rfl).cell 0
  simp at c0
  have c1 := (HS.out.blk 0 rfl).cell 1
  simp at c1
  have c2 := (HS.out.blk 0 rfl).cell 2
  simp at c2
  go_wp2_with fail
  refine (kactive k _ HK.out).mono ?_
  rintro e w1 ⟨rfl, hk⟩
  replace HS := Lib.hid (HS.out.grow hk)
  clear hk
  rw [HNA.out]
  have hne : (nw + xw.length = na) = False := by rw [eq_iff_iff, iff_false]; omega
  go_wp2
  go_ret
  rw [HNA.out]
  exact ⟨gw, xw, _, rfl, HS.out.blk 1 rfl, HG.out, HS.out.keep⟩

end Go.Proofs.Ytaophnicdbmojaa
