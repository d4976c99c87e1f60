/-
  tumuluslaw06.behind; power.Run of a method value.
-/
import Derived.Test.YthfelcnhkabdhaaUndo
import Derived.Test.YthfelcnhkabdhaaOpenL
import Derived.Test.YthfelcnhkabdhaaPlace
import Derived.Test.YthfelcnhkabdhaaChoice
set_option linter.unusedSimpArgs false
set_option linter.unusedVariables false
namespace Go.Proofs.Ythfelcnhkabdhaa
open Go.RowKit Go.Shelf

/-- The words from a on, as a slice of a row. -/
theorem Rd.behind {w : World} {g a n c : Nat} {t : TypeId} {xs : List Int} {ex : List Value} (h : Blk w g t (uw xs ++ ex).toArray) (hn : n = (xs.drop a).length) : Rd w (.slice (some ⟨g, a, none⟩) n c) (uw (xs.drop a)) := by
  subst hn
  refine ⟨some ⟨g, a, none⟩, c, by simp [uw], fun _ => ⟨g, a, rfl, fun j u hu => ?_⟩⟩
  rw [h.cell]
  have hj : j < (uw (xs.drop a)).length := (List.getElem?_eq_some_iff.1 hu).1
  simp only [uw, List.length_map, List.length_drop] at hj
  simp only [List.getElem?_toArray]
  rw [List.getElem?_append_left (by simp [uw]; omega)]
  rw [← hu]
  simp [uw, List.getElem?_map, List.getElem?_drop]

set_option maxRecDepth 100000 in
set_option maxHeartbeats 2000000 in
theorem behind_any (d : DevI) (s : St) (k : Kfg) (w : World) (h : Dev w d s) (hk : k.Ok) (hl : s.now.length = k.words) :
    Calls Try.prog 31 #[.pointer (some ⟨d.b, 0, none⟩), .agg k.cells] w fun e w' => ∃ g ex c, e = .returned (.slice (some ⟨g, k.act, none⟩) (s.now.drop k.act).length c) ∧ Blk w' g 25 (uw s.now ++ ex).toArray ∧ w.heap.size ≤ g ∧ Keep w.heap.size [] w w' := by
  have HS := Lib.hid ((Sep.start w []).new 30 k.cells)
  have H := Lib.hid h
  have HK := Lib.hid hk
  obtain ⟨hw1, hw2⟩ := Kfg.words_le hk
  obtain ⟨nw, hnw⟩ : ∃ nw, k.words = nw := ⟨_, rfl⟩
  have HL : Hid (s.now.length = nw) := Lib.hid (hl.trans hnw)
  have HNW := Lib.hid hnw
  have hlu : (uw s.now).length = nw := by rw [uw_length]; exact HL.out
  have HLU := Lib.hid hlu
  rw [hnw] at hw1 hw2
  have hact : k.act < nw := by omega
  obtain ⟨na, hna⟩ : ∃ na, k.act = na := ⟨_, rfl⟩
  have HNA := Lib.hid hna
  rw [hna] at hact
  have hdr : (s.now.drop k.act).length = nw - na := by rw [List.length_drop, HL.out, hna]
  rw [hdr]
  simp only [Kfg.cells] at HS ⊢
  clear h hk hl hnw hlu hw1 hna hdr
  go_enter Try.func31, Try.ntmps31
  go_wp2_with fail
  generalize w.alloc _ = w2 at *
  generalize w.heap.size = gc at *
  have hd2 := H.out.of_new HS.out.keep
  go_wp2_with fail
  refine (words_any d s _ hd2).mono ?_
  rintro e w1 ⟨vw, gw, xw, rfl, hn⟩
  have vw_v := hn.val
  replace HS := Lib.hid (HS.out.add hn.keep (r := blkR gw _ _) hn.blk (by intro k hk; simp [blkR] at hk; subst hk; exact hn.new))
  clear hn
  rw [HLU.out] at vw_v
  subst vw_v
  clear hd2
  have HG : Hid (w.heap.size ≤ gw) := by
    have := HS.out.old 1 _ rfl gw (by simp [blkR])
    rcases Nat.lt_or_ge gw w.heap.size with h | h
    · exact absurd (this h) (by simp)
    · exact h
  have c0 := (HS.out.blk 0 rfl).cell 0
  simp at c0
  have c1 := (HS.out.blk 0 rfl).cell 1
  simp at c1
  have c2 := (HS.out.blk 0 rfl).cell 2
  simp at c2
  go_wp2_with fail
  refine (kwords k _ HK.out).mono ?_
  rintro e w1 ⟨rfl, hk⟩
  replace HS := Lib.hid (HS.out.grow hk)
  clear hk
  rw [HNW.out]
  clear c0 c1 c2
  have c0 := (HS.out.blk 0 rfl).cell 0
  simp at c0
  have c1 := (HS.out.blk 0 rfl).cell 1
  simp at c1
  have c2 := (HS.out.blk 0 rfl).cell 2
  simp at c2
  go_wp2_with fail
  refine (kactive k _ HK.out).mono ?_
  rintro e w1 ⟨rfl, hk⟩
  replace HS := Lib.hid (HS.out.grow hk)
  clear hk
  rw [HNA.out]
  have hne : (nw + xw.length = na) = False := by rw [eq_iff_iff, iff_false]; omega
  go_wp2
  go_ret
  rw [HNA.out]
  exact ⟨gw, xw, _, rfl, HS.out.blk 1 rfl, HG.out, HS.out.keep⟩

/-- power.Run of a method value. -/
theorem run_bound (G : FuncId) (b : Value) (w : World) (A B : World → Prop) (hG : Enters Try.prog G)
    (h : Calls Try.prog G #[b] (w.alloc (.cells #[.bool false] 4)) fun e w1 => Blk w1 w.heap.size 4 #[.bool false] ∧ (((∃ v, e = .returned v) ∧ A w1) ∨ (e = offE ∧ B w1))) :
    Calls Try.prog 34 #[.func (.func G) #[b] #[]] w fun e w' =>
      (e = .returned (.bool true) ∧ ∃ w1, A w1 ∧ w.heap.size < w1.heap.size ∧ w' = w1.setCell ⟨w.heap.size, 0, none⟩ (.bool true)) ∨
      (e = .returned (.bool false) ∧ ∃ w1, B w1 ∧ w.heap.size < w1.heap.size ∧ w' = (w1.alloc (.cells #[] 86)).setCell ⟨w.heap.size, 0, none⟩ (.bool false)) := by
  have hmf : ∀ (fn : Fn) (first cap : Array Value) (w : World), (Instr.makeFunc fn first cap).run Try.prog w = .ok (.func fn first cap) w := fun _ _ _ _ => rfl
  go_enter_defers Try.func34, Try.ntmps34
  go_wp2_with fail
  rw [hG, Oper.upon_enter]
  refine h.mono ?_
  rintro e w1 ⟨hb, ⟨⟨v, rfl⟩, hA⟩ | ⟨rfl, hB⟩⟩
  · have hc := hb.cell 0
    have hz := hb.frozen 0
    have hlt := hb.lt
    simp at hc
    clear h hb
    go_wp2
    refine leaves_cons (f := 54) (args := #[.pointer (some ⟨w.heap.size, 0, none⟩)]) (by simp) (by simp [go_sem]) ?_
    refine (run_idle ⟨w.heap.size, 0, none⟩ _).mono ?_
    rintro e u' w'' ⟨rfl, rfl, rfl⟩
    refine ⟨.bool true, ?_, .inl ⟨rfl, w1, hA, hlt, rfl⟩⟩
    simp [results, Try.results34, go_sem, hc]
  · have hc := hb.cell 0
    have hz := hb.frozen 0
    have hlt := hb.lt
    simp at hc
    clear h hb
    unfold offE
    go_wp2
    refine leaves_cons (f := 54) (args := #[.pointer (some ⟨w.heap.size, 0, none⟩)]) (by simp) (by simp [go_sem]) ?_
    refine (run_catch ⟨w.heap.size, 0, none⟩ false [] _ hlt hc hz).mono ?_
    rintro e u' w'' ⟨rfl, rfl, rfl⟩
    simp [Leaves, settle]
    refine ⟨.bool false, ?_, .inr ⟨rfl, w1, hB, hlt, rfl⟩⟩
    have hc1 : (w1.alloc (.cells #[] 86)).cell? ⟨w.heap.size, 0, none⟩ = some (.bool false) := (World.cell?_alloc_lt w1 _ ⟨w.heap.size, 0, none⟩ hlt).trans hc
    simp [results, Try.results34, go_sem, hc1]
section
variable {W w : World} {S : List Nat} {L : List Res}
theorem Sep.run_bound {α β : Type} {PA : α → Prop} {PB : β → Prop} {LA : α → List Res} {LB : β → List Res} (HS : Sep W S L w) (n : Nat) (hn : L.length = n) (G : FuncId) (bv : Value) (hG : Enters Try.prog G)
    (hA : ∀ a, (LA a)[n]? = some (blkR w.heap.size 4 #[.bool false])) (hB : ∀ b, (LB b)[n]? = some (blkR w.heap.size 4 #[.bool false]))
    (h : ∀ w0, Sep W S (L ++ [blkR w.heap.size 4 #[.bool false]]) w0 → Calls Try.prog G #[bv] w0 fun e w1 => ((∃ v, e = .returned v) ∧ ∃ a, PA a ∧ Sep W S (LA a) w1) ∨ (e = offE ∧ ∃ b, PB b ∧ Sep W S (LB b) w1)) :
    Calls Try.prog 34 #[.func (.func G) #[bv] #[]] w fun e w' =>
      (e = .returned (.bool true) ∧ ∃ a, PA a ∧ Sep W S ((LA a).set n noR) w') ∨ (e = .returned (.bool false) ∧ ∃ b, PB b ∧ Sep W S ((LB b).set n noR) w') := by
  have h0 := h _ (HS.new 4 #[.bool false])
  refine (Go.Proofs.Ythfelcnhkabdhaa.run_bound G bv w (fun w1 => ∃ a, PA a ∧ Sep W S (LA a) w1) (fun w1 => ∃ b, PB b ∧ Sep W S (LB b) w1) hG (h0.mono ?_)).mono ?_
  · rintro e w1 (⟨hv, a, ha, hs⟩ | ⟨hv, b, hb, hs⟩)
    · exact ⟨hs.blk n (hA a), .inl ⟨hv, a, ha, hs⟩⟩
    · exact ⟨hs.blk n (hB b), .inr ⟨hv, b, hb, hs⟩⟩
  · rintro e w' (⟨he, w1, ⟨a, ha, hs⟩, hlt, rfl⟩ | ⟨he, w1, ⟨b, hb, hs⟩, hlt, rfl⟩)
    · refine .inl ⟨he, a, ha, ?_⟩
      have := (hs.put (hA a) 0 (.bool true)).forget n
      rwa [List.set_set] at this
    · refine .inr ⟨he, b, hb, ?_⟩
      have := ((hs.alloc (.cells #[] 86)).put (hB b) 0 (.bool false)).forget n
      rwa [List.set_set] at this
end
end Go.Proofs.Ythfelcnhkabdhaa
