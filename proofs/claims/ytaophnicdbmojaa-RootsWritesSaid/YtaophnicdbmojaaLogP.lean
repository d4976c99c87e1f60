/-
  A log, by its words: plain laws.
-/
import Derived.Test.YtaophnicdbmojaaFmtP
import Derived.Test.YtaophnicdbmojaaHead
set_option linter.unusedSimpArgs false
set_option linter.unusedVariables false
set_option maxRecDepth 100000
namespace Go.Proofs.Ytaophnicdbmojaa
open Go.RowKit Go.Shelf

/-- A record's stamp. -/
def stampOf (ep : Int) (i : Nat) : Int := ep * 4294967296 + ((i : Int) + 1)
theorem stamp_or (ep : Int) (i : Nat) (h0 : 0 ≤ ep) (h1 : ep < 4294967296) (hi : i ≤ 1000) : bits .or .u64 (ep * 4294967296) ((i : Int) + 1) = stampOf ep i := by
  obtain ⟨e, rfl⟩ := Int.eq_ofNat_of_zero_le h0
  have h := or_disjoint e (i + 1) 32 (by omega)
  have e1 : (e : Int) * 4294967296 = ((2 ^ 32 * e : Nat) : Int) := by omega
  have e2 : (i : Int) + 1 = ((i + 1 : Nat) : Int) := by omega
  rw [e1, e2, bits_or_u64_nat _ _ (by omega) (by omega), h]
  unfold stampOf
  omega
theorem stamp_range (ep : Int) (i : Nat) (h0 : 0 ≤ ep) (h1 : ep < 4294967296) (hi : i ≤ 1000) : 0 < stampOf ep i ∧ stampOf ep i ≤ 18446744073709551615 := by unfold stampOf; omega
theorem stamp_inj {a b : Int} {i j : Nat} (hi : i ≤ 1000) (hj : j ≤ 1000) (h : stampOf a i = stampOf b j) : a = b ∧ i = j := by unfold stampOf at h; omega

/-- The log that a device's words hold. -/
structure LogIs (s : St) (k : Kfg) (ep : Int) (n : Nat) : Prop where
  le : n ≤ k.L
  epoch : s.nw 8 % 4294967296 = ep
  yes : ∀ i, i < n → s.nw (16 + 4 * i) = stampOf ep i
  no : n < k.L → s.nw (16 + 4 * n) ≠ stampOf ep n

theorem first_not (P : Nat → Prop) [DecidablePred P] (L : Nat) : ∃ n, n ≤ L ∧ (∀ i, i < n → P i) ∧ (n < L → ¬ P n) := by
  induction L with
  | zero => exact ⟨0, by omega, by omega, by omega⟩
  | succ L ih =>
    obtain ⟨n, h1, h2, h3⟩ := ih
    by_cases hn : n < L
    · exact ⟨n, by omega, h2, fun _ => h3 hn⟩
    · obtain rfl : n = L := by omega
      by_cases hp : P n
      · refine ⟨n + 1, by omega, fun i hi => ?_, by omega⟩
        by_cases hin : i = n
        · subst hin; exact hp
        · exact h2 i (by omega)
      · exact ⟨n, by omega, h2, fun _ => hp⟩
theorem logIs_ex (s : St) (k : Kfg) : ∃ n, LogIs s k (s.nw 8 % 4294967296) n := by
  obtain ⟨n, h1, h2, h3⟩ := first_not (fun i => s.nw (16 + 4 * i) = stampOf (s.nw 8 % 4294967296) i) k.L
  exact ⟨n, h1, rfl, h2, h3⟩
theorem LogIs.uniq {s : St} {k : Kfg} {ep ep' : Int} {n m : Nat} (h : LogIs s k ep n) (h' : LogIs s k ep' m) : ep = ep' ∧ n = m := by
  have e : ep = ep' := h.epoch.symm.trans h'.epoch
  subst e
  refine ⟨rfl, ?_⟩
  rcases Nat.lt_trichotomy n m with hlt | rfl | hgt
  · exact absurd (h'.yes n hlt) (h.no (by have := h'.le; omega))
  · rfl
  · exact absurd (h.yes m hgt) (h'.no (by have := h.le; omega))

/-- What Append does. -/
def appOps (ep : Int) (n i : Nat) (v : Int) : List Dop := [.st (16 + 4 * n + 1) i, .st (16 + 4 * n + 2) v, .fl (16 + 4 * n), .fe, .st (16 + 4 * n) (stampOf ep n), .fl (16 + 4 * n), .fe]
/-- What Truncate does, where there are records. -/
def truncOps (ep : Int) : List Dop := [.st 8 ((ep + 1) % 4294967296), .fl 8, .fe]
/-- A new heap's log is empty. -/
theorem AllS.log {s : St} {k : Kfg} (hk : k.Ok) (h : WholeS s k) : LogIs s k 1 0 := by
  refine ⟨by omega, by rw [h.w8]; rfl, by omega, fun hL => ?_⟩
  rw [h.recs 0 hL]
  unfold stampOf
  omega
theorem app_nw {s : St} {k : Kfg} (hk : k.Ok) (hI : s.Is k.words) {ep : Int} {n i : Nat} {v : Int} (hn : n < k.L) (j : Nat) :
    (s.run (appOps ep n i v)).nw j = if j = 16 + 4 * n then stampOf ep n else if j = 16 + 4 * n + 2 then v else if j = 16 + 4 * n + 1 then i else s.nw j := by
  obtain ⟨hw1, hw2⟩ := Kfg.words_le hk
  obtain ⟨ha1, ha2⟩ := k.act_le
  have e : s.run (appOps ep n i v) = ((((((s.store (16 + 4 * n + 1) i).store (16 + 4 * n + 2) v).flush (16 + 4 * n)).fence).store (16 + 4 * n) (stampOf ep n)).flush (16 + 4 * n)).fence := rfl
  have i1 := hI.store (16 + 4 * n + 1) (i : Int)
  have i2 := i1.store (16 + 4 * n + 2) v
  have i3 := (i2.flush (16 + 4 * n)).fence
  rw [e, St.nw_fence, St.nw_flush, St.nw_store i3 (by omega), St.nw_fence, St.nw_flush, St.nw_store i1 (by omega), St.nw_store hI (by omega)]
theorem LogIs.app {s : St} {k : Kfg} (hk : k.Ok) (hI : s.Is k.words) {ep : Int} {n i : Nat} {v : Int} (h : LogIs s k ep n) (hn : n < k.L) (hx : n + 1 < k.L → s.nw (16 + 4 * (n + 1)) ≠ stampOf ep (n + 1)) : LogIs (s.run (appOps ep n i v)) k ep (n + 1) := by
  have e := fun j => app_nw (ep := ep) (i := i) (v := v) hk hI hn j
  refine ⟨by omega, ?_, fun j hj => ?_, fun hlt => ?_⟩
  · rw [e, if_neg (by omega), if_neg (by omega), if_neg (by omega)]; exact h.epoch
  · rw [e]
    by_cases hjn : j = n
    · subst hjn; rw [if_pos rfl]
    · rw [if_neg (by omega), if_neg (by omega), if_neg (by omega)]; exact h.yes j (by omega)
  · rw [e, if_neg (by omega), if_neg (by omega), if_neg (by omega)]; exact hx hlt
end Go.Proofs.Ytaophnicdbmojaa
