/-
  A device's state word by word: what stands, what is kept, what a fence would keep; rows of operations, cut anywhere.
-/
import Derived.Test.YtbdomdmnjclpdaaSt
set_option linter.unusedSimpArgs false
set_option linter.unusedVariables false
set_option maxRecDepth 100000
namespace Go.Proofs.Ytbdomdmnjclpdaa
open Go.RowKit Go.Shelf

/-- Word j, as it stands; as it is kept; as a fence would keep it. -/
def St.nw (s : St) (j : Nat) : Int := s.now.getD j 0
def St.kp (s : St) (j : Nat) : Int := s.kept.getD j 0
def St.pd (s : St) (j : Nat) : Int := match s.q (j / 8) with | some l => l.getD (j % 8) 0 | none => s.kept.getD j 0

structure St.Is (s : St) (n : Nat) : Prop where
  now : s.now.length = n
  kept : s.kept.length = n

inductive Dop where
  | st (k : Nat) (v : Int)
  | fl (k : Nat)
  | fe
def St.op (s : St) : Dop → St
  | .st k v => s.store k v
  | .fl k => s.flush k
  | .fe => s.fence
def St.run (s : St) (l : List Dop) : St := l.foldl St.op s

section
variable {s : St} {n : Nat}
theorem St.Is.store (h : s.Is n) (k : Nat) (v : Int) : (s.store k v).Is n := ⟨by simp [St.store, St.tick, h.now], h.kept⟩
theorem St.Is.flush (h : s.Is n) (k : Nat) : (s.flush k).Is n := ⟨h.now, h.kept⟩
theorem St.Is.fence (h : s.Is n) : s.fence.Is n := ⟨h.now, by simp [St.fence, fenced_length, St.tick, h.kept]⟩
theorem St.Is.crash (h : s.Is n) (ch : Nat → Int) : (s.crash ch).Is n := ⟨by simp [St.crash, leftTo_length, h.now], by simp [St.crash, leftTo_length, h.now]⟩
theorem St.Is.op (h : s.Is n) (o : Dop) : (s.op o).Is n := by
  cases o
  · exact h.store _ _
  · exact h.flush _
  · exact h.fence
theorem St.run_cons (s : St) (o : Dop) (l : List Dop) : s.run (o :: l) = (s.op o).run l := rfl
theorem St.run_nil (s : St) : s.run [] = s := rfl
theorem St.run_append (s : St) (l m : List Dop) : s.run (l ++ m) = (s.run l).run m := List.foldl_append ..
theorem St.run_snoc (s : St) (l : List Dop) (o : Dop) : s.run (l ++ [o]) = (s.run l).op o := by rw [St.run_append]; rfl
theorem St.Is.run (l : List Dop) : ∀ {s : St}, s.Is n → (s.run l).Is n := by
  induction l with
  | nil => exact fun h => h
  | cons o l ih => exact fun h => ih (h.op o)

theorem St.nw_store (h : s.Is n) {k : Nat} (hk : k < n) (v : Int) (j : Nat) : (s.store k v).nw j = if j = k then v else s.nw j := set_at _ _ _ _ (by show k < s.now.length; rw [h.now]; exact hk)
theorem St.kp_store (k : Nat) (v : Int) (j : Nat) : (s.store k v).kp j = s.kp j := rfl
theorem St.pd_store (k : Nat) (v : Int) (j : Nat) : (s.store k v).pd j = s.pd j := rfl
theorem St.nw_flush (k : Nat) (j : Nat) : (s.flush k).nw j = s.nw j := rfl
theorem St.kp_flush (k : Nat) (j : Nat) : (s.flush k).kp j = s.kp j := rfl
theorem St.pd_flush (k : Nat) (j : Nat) : (s.flush k).pd j = if j / 8 = k / 8 then s.nw j else s.pd j := by
  unfold St.pd
  by_cases h : j / 8 = k / 8
  · simp only [St.flush, St.tick, h, if_true]
    rw [line_at _ _ _ h]; rfl
  · simp only [St.flush, St.tick, h, if_false]
theorem St.nw_fence (j : Nat) : s.fence.nw j = s.nw j := rfl
theorem St.kp_fence (h : s.Is n) {j : Nat} (hj : j < n) : s.fence.kp j = s.pd j := fenced_at _ _ _ (by rw [h.kept]; exact hj)
theorem St.pd_fence (h : s.Is n) {j : Nat} (hj : j < n) : s.fence.pd j = s.pd j := fenced_at _ _ _ (by rw [h.kept]; exact hj)
theorem St.nw_crash (h : s.Is n) (ch : Nat → Int) {j : Nat} (hj : j < n) : (s.crash ch).nw j = left s ch j := crash_at _ _ _ (by rw [h.now]; exact hj)
theorem St.kp_crash (h : s.Is n) (ch : Nat → Int) {j : Nat} (hj : j < n) : (s.crash ch).kp j = left s ch j := crash_at _ _ _ (by rw [h.now]; exact hj)
theorem St.pd_crash (h : s.Is n) (ch : Nat → Int) {j : Nat} (hj : j < n) : (s.crash ch).pd j = left s ch j := crash_at _ _ _ (by rw [h.now]; exact hj)
/-- How a word is left: as it stood, as it is kept, as a fence would have kept it. -/
theorem left_of (s : St) (ch : Nat → Int) (j : Nat) : left s ch j = s.pd j ∨ left s ch j = s.nw j ∨ left s ch j = s.kp j := by
  unfold left
  split
  · exact .inl rfl
  · split
    · exact .inr (.inl rfl)
    · exact .inr (.inr rfl)
/-- A word that is one and the same everywhere. -/
def St.all (s : St) (j : Nat) (v : Int) : Prop := s.nw j = v ∧ s.pd j = v ∧ s.kp j = v
theorem St.all.left {j : Nat} {v : Int} (h : s.all j v) (ch : Nat → Int) : Go.Proofs.Ytbdomdmnjclpdaa.left s ch j = v := by
  rcases left_of s ch j with e | e | e
  · exact e.trans h.2.1
  · exact e.trans h.1
  · exact e.trans h.2.2
theorem St.all_crash (h : s.Is n) (ch : Nat → Int) {j : Nat} (hj : j < n) : (s.crash ch).all j (Go.Proofs.Ytbdomdmnjclpdaa.left s ch j) := ⟨St.nw_crash h ch hj, St.pd_crash h ch hj, St.kp_crash h ch hj⟩
theorem St.op_l (s : St) (o : Dop) : (s.op o).l = s.l := by cases o <;> rfl
theorem St.run_l (l : List Dop) : ∀ s : St, (s.run l).l = s.l := by
  induction l with
  | nil => intro s; rfl
  | cons o l ih => intro s; exact (ih _).trans (St.op_l s o)
theorem St.op_u (s : St) (o : Dop) : (s.op o).u = wrap64 (s.u + 1) := by cases o <;> rfl
theorem fresh_is (l u : Int) (xs : List Int) : (St.fresh l u xs).Is (pad xs).length := ⟨rfl, rfl⟩
theorem fresh_all (l u : Int) (xs : List Int) (j : Nat) : (St.fresh l u xs).all j ((pad xs).getD j 0) := ⟨rfl, rfl, rfl⟩
theorem pad_getD (xs : List Int) (j : Nat) : (pad xs).getD j 0 = xs.getD j 0 := by
  unfold pad
  rw [List.getD_eq_getElem?_getD, List.getD_eq_getElem?_getD]
  rcases Nat.lt_or_ge j xs.length with h | h
  · rw [List.getElem?_append_left h]
  · rw [List.getElem?_append_right h, List.getElem?_eq_none h, List.getElem?_replicate]
    split <;> rfl
theorem pad_of {xs : List Int} (h : xs.length % 8 = 0) : pad xs = xs := by
  have : (xs.length + 7) / 8 * 8 - xs.length = 0 := by omega
  simp [pad, this]
end

/-- Some operations were done, all of them, or cut. -/
def Played (w : World) (d : DevI) (s : St) (ops : List Dop) (v : Value) (e : Ending) (w' : World) : Prop :=
  Did w d v (s.run ops) e w' ∨ ∃ k, k < ops.length ∧ (s.run (ops.take k)).goes ∧ Cut w d (s.run (ops.take k)) e w'
theorem Played.free {w w' : World} {d : DevI} {s : St} {ops : List Dop} {v : Value} {e : Ending} (h : Played w d s ops v e w') (hl : s.l < 0) : Did w d v (s.run ops) e w' := by
  rcases h with h | ⟨k, _, hg, _⟩
  · exact h
  · exact absurd hg.1 (by rw [St.run_l]; omega)

theorem store_op (d : DevI) (s : St) (k : Nat) (v : Int) (w : World) (h : Dev w d s) (hk : k < s.now.length) :
    Calls Try.prog 27 #[.pointer (some ⟨d.b, 0, none⟩), .int .i64 k, .int .u64 v] w fun e w' =>
      Did w d (.int .i64 0) (s.op (.st k v)) e w' ∨ (s.goes ∧ Cut w d s e w') :=
  (store_in d s k v w h hk).mono fun _ _ h => h.imp (fun h => h.2) (fun h => h)
theorem flush_op (d : DevI) (s : St) (k : Nat) (w : World) (h : Dev w d s) (hk : k < s.now.length) :
    Calls Try.prog 53 #[.pointer (some ⟨d.b, 0, none⟩), .int .i64 k] w fun e w' =>
      Did w d (.int .i64 0) (s.op (.fl k)) e w' ∨ (s.goes ∧ Cut w d s e w') :=
  (flush_in d s k w h hk).mono fun _ _ h => h.imp (fun h => h.2) (fun h => h)
theorem fence_op (d : DevI) (s : St) (w : World) (h : Dev w d s) :
    Calls Try.prog 54 #[.pointer (some ⟨d.b, 0, none⟩)] w fun e w' =>
      Did w d (.tuple #[]) (s.op .fe) e w' ∨ (s.goes ∧ Cut w d s e w') :=
  (fence_any d s w h).mono fun _ _ h => h.imp (fun h => h.2) (fun h => h)
end Go.Proofs.Ytbdomdmnjclpdaa
