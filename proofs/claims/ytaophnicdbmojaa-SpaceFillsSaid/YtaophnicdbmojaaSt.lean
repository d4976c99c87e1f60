/-
  Plain laws of a device's state; Crash by bits, by one number; cells of slices.
-/
import Derived.Test.YtaophnicdbmojaaChoiceP
import Derived.Test.YtaophnicdbmojaaSep
import Derived.Test.YtaophnicdbmojaaEq
import Derived.Test.YtaophnicdbmojaaRel
set_option linter.unusedSimpArgs false
set_option linter.unusedVariables false
set_option maxRecDepth 100000
namespace Go.Proofs.Ytaophnicdbmojaa
open Go.RowKit Go.Shelf

theorem line_at (xs : List Int) (b x : Nat) (h : x / 8 = b) : (line xs b).getD (x % 8) 0 = xs.getD x 0 := by
  subst h
  simp only [line, List.getD_eq_getElem?_getD, List.getElem?_take, List.getElem?_drop]
  rw [if_pos (by omega)]
  congr 2
  omega
theorem fenced_at (kept : List Int) (q : Nat → Option (List Int)) (x : Nat) (h : x < kept.length) : (fenced kept q).getD x 0 = match q (x / 8) with | some l => l.getD (x % 8) 0 | none => kept.getD x 0 := by
  rw [List.getD_eq_getElem?_getD, fenced_get, if_pos h]; rfl
theorem set_at (xs : List Int) (k : Nat) (v : Int) (j : Nat) (hk : k < xs.length) : (xs.set k v).getD j 0 = if j = k then v else xs.getD j 0 := by
  rw [List.getD_eq_getElem?_getD, List.getElem?_set, List.getD_eq_getElem?_getD]
  by_cases h : k = j
  · subst h; simp [hk]
  · have : ¬ j = k := fun e => h e.symm
    simp [h, this]
theorem crash_at (s : St) (ch : Nat → Int) (j : Nat) (h : j < s.now.length) : (s.crash ch).now.getD j 0 = left s ch j := by
  show (leftTo s ch s.now.length).getD j 0 = _
  rw [List.getD_eq_getElem?_getD, leftTo_get, if_pos h, if_pos h]; rfl
theorem uw_length (xs : List Int) : (uw xs).length = xs.length := by simp [uw]
theorem tmod_some (a : Int) (n : Nat) (h0 : 0 ≤ a) (hn : 0 < n) : ∃ k : Nat, a.tmod n = k ∧ k < n ∧ a % n = k := by
  have h1 := Int.emod_nonneg a (show (n : Int) ≠ 0 by omega)
  have h2 := Int.emod_lt_of_pos a (b := n) (by omega)
  refine ⟨(a % n).toNat, ?_, by omega, by omega⟩
  rw [Int.tmod_eq_emod_of_nonneg h0]
  omega
theorem wordAt_nat (xs : List Int) (k : Nat) : wordAt xs (k : Int) = xs.getD k 0 := by simp [wordAt]

/-- The cells of a slice of integers. -/
theorem Rd.cells {K : IntKind} {w : World} {v : Value} {xs : List Int} (h : Rd w v (xs.map (Value.int K))) : ∃ A c, v = .slice A xs.length c ∧ ∀ k, k < xs.length → ∃ g off, A = some ⟨g, off, none⟩ ∧ w.cell? ⟨g, off + k, none⟩ = some (.int K (xs.getD k 0)) := by
  obtain ⟨A, c, rfl, h⟩ := h
  rw [show (xs.map (Value.int K)).length = xs.length by simp] at *
  refine ⟨A, c, rfl, fun k hk => ?_⟩
  obtain ⟨g, off, hA, h⟩ := h (by omega)
  exact ⟨g, off, hA, h k _ (by simp [hk])⟩

/-- A crash, each word left by bits that a closure has caught. -/
theorem crash_bits (d : DevI) (s : St) (G : FuncId) (g : Nat) (b : Int) (w : World) (h : Dev w d s) (hG : Enters Try.prog G) (hb : Blk w g 25 #[.int .u64 b]) (hg : g ∉ d.blocks)
    (hc : ∀ (k : Nat) (w : World), k ≤ 1099511627776 → w.cell? ⟨g, 0, none⟩ = some (.int .u64 b) → Calls Try.prog G #[.int .i64 k, .pointer (some ⟨g, 0, none⟩)] w fun e w' => e = .returned (.int .u8 (choiceOf b k)) ∧ w = w') :
    Calls Try.prog 90 #[.pointer (some ⟨d.b, 0, none⟩), .func (.func G) #[] #[.pointer (some ⟨g, 0, none⟩)]] w (Did w d (.tuple #[]) (s.crash (choiceOf b))) :=
  (crash_any d s G _ _ _ _ w h (chooses_bits G g b s.now.length d.blocks hG hg h.small hc) hb (by simp)).mono fun _ _ ⟨h1, h2, _, h4⟩ => ⟨h1, h2, by simpa using h4⟩
theorem crash_const (d : DevI) (s : St) (G : FuncId) (c : Int) (w : World) (h : Dev w d s) (hG : Enters Try.prog G) (h0 : 0 ≤ c) (h1 : c ≤ 255)
    (hc : ∀ (k : Int) (w : World), Calls Try.prog G #[.int .i64 k] w fun e w' => e = .returned (.int .u8 c) ∧ w = w') :
    Calls Try.prog 90 #[.pointer (some ⟨d.b, 0, none⟩), .func (.func G) #[] #[]] w (Did w d (.tuple #[]) (s.crash fun _ => c)) :=
  (crash_any d s G _ _ _ _ w h (chooses_const G c s.now.length d.blocks hG h0 h1 hc) trivial (by simp)).mono fun _ _ ⟨h1, h2, _, h4⟩ => ⟨h1, h2, by simpa using h4⟩
theorem NewRow.rd {w w' : World} {v : Value} {xs : List Value} {g : Nat} {ex : List Value} (h : NewRow w w' v xs g ex) : Rd w' v xs := h.at_.rd
theorem Rd.of_uw {w : World} {g n : Nat} {t : TypeId} {xs : List Int} {ex : List Value} (h : Blk w g t (uw xs ++ ex).toArray) : Rd w (.slice (some ⟨g, 0, none⟩) xs.length n) (uw xs) := by
  have := Rd.of_blk (n := n) h
  rwa [uw_length] at this
theorem Sep.gd {W w : World} {S : List Nat} {L : List Res} (h : Sep W S L w) (i j : Nat) {g : Nat} {t : TypeId} {cs : Array Value} {d : DevI} {s : St} (hi : L[i]? = some (blkR g t cs)) (hj : L[j]? = some (devR d s)) (hne : i ≠ j) : g ∉ d.blocks :=
  h.apart i j _ _ hne hi hj g (by simp [blkR])
end Go.Proofs.Ytaophnicdbmojaa
