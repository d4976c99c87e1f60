/-
  Package roots: Write by a device's own Store.
-/
import Derived.Test.YtaophnicdbmojaaRootsW
set_option linter.unusedSimpArgs false
set_option linter.unusedVariables false
set_option maxRecDepth 100000
namespace Go.Proofs.Ytaophnicdbmojaa
open Go.RowKit Go.Shelf

/-- Behind i words of a root block. -/
structure WrS (s t : St) (k : Kfg) (ws : List Int) (i : Nat) : Prop where
  is : t.Is k.words
  lim : t.l < 0
  done : ∀ j, j < i → t.nw (k.act + j) = ws.getD j 0
  out : ∀ j, (j < k.act ∨ k.act + i ≤ j) → t.nw j = s.nw j
theorem WrS.start {s : St} {k : Kfg} (ws : List Int) (hI : s.Is k.words) (hl : s.l < 0) : WrS s s k ws 0 := ⟨hI, hl, fun j hj => by omega, fun _ _ => rfl⟩
theorem WrS.roots {s t : St} {k : Kfg} {a u : Int} {rs : List Int} (ht : WrS s t k (a :: u :: rs) (rs.length + 2)) (hrl : rs.length = k.R) : rootsOf t k k.R = rs := by
  refine List.ext_getElem? fun i => ?_
  by_cases hi : i < k.R
  · have h := ht.done (i + 1 + 1) (by omega)
    have hi2 : i < rs.length := by omega
    have e : k.act + 2 + i = k.act + (i + 1 + 1) := by omega
    have h3 : (a :: u :: rs).getD (i + 1 + 1) 0 = rs[i] := by simp [List.getD_eq_getElem?_getD, hi2]
    rw [h3] at h
    have h4 : (rootsOf t k k.R)[i]? = some (t.nw (k.act + 2 + i)) := by simp [rootsOf, hi]
    rw [h4, e, h, List.getElem?_eq_getElem hi2]
  · rw [List.getElem?_eq_none (by rw [rootsOf_length]; omega), List.getElem?_eq_none (by omega)]

theorem takes_store {d : DevI} {k : Kfg} {s : St} {ws : List Int} (hk : k.Ok) (hn : ws.length = k.R + 2) :
    Takes 19 #[.pointer (some ⟨d.b, 0, none⟩)] #[] d k.act ws (fun i r => ∃ t, r = devR d t ∧ WrS s t k ws i) (fun _ _ => False) := by
  have hw := Kfg.words_le hk
  refine ⟨enters_of Try.func19 (by kernel_rfl) rfl, ?_⟩
  rintro i hi r ⟨t, rfl, ht⟩
  refine ⟨t.nw (k.act + i), fun w hd => load_nat d t (k.act + i) w hd, fun hx => ⟨t, rfl, ht.is, ht.lim, fun j hj => ?_, fun j hj => ht.out j (by omega)⟩, fun hx w hd => ?_⟩
  · rcases Nat.lt_or_ge j i with h | h
    · exact ht.done j h
    · obtain rfl : j = i := by omega
      exact hx
  · have hlt : k.act + i < t.now.length := by rw [ht.is.now]; omega
    have e := St.nw_store ht.is (show k.act + i < k.words by omega) (ws.getD i 0)
    refine (store_free d t (k.act + i) (ws.getD i 0) w hd ht.lim hlt).mono ?_
    rintro e' w' ⟨rfl, hd', hkk⟩
    refine ⟨0, devR d (t.store (k.act + i) (ws.getD i 0)), rfl, hkk, hd', fun _ h => .inl h, .inl ⟨rfl, _, rfl, ht.is.store _ _, ht.lim, fun j hj => ?_, fun j hj => ?_⟩⟩
    · rw [e]
      by_cases hji : j = i
      · subst hji; rw [if_pos rfl]
      · rw [if_neg (by omega)]; exact ht.done j (by omega)
    · rw [e, if_neg (by omega)]
      exact ht.out j (by omega)
end Go.Proofs.Ytaophnicdbmojaa
