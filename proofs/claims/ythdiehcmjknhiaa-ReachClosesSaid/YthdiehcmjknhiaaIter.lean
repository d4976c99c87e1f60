/-
  A range over a map of integer keys.
-/
import Derived.Maps.Range
import Derived.Test.YthdiehcmjknhiaaSec
set_option linter.unusedSimpArgs false
set_option linter.unusedVariables false
set_option maxRecDepth 100000
namespace Go.Proofs.Ythdiehcmjknhiaa
open Go.RowKit
open Go.ChangeMaps (setBlock)

/-- Block mr is a map that holds just m; block r an iterator over it, to which these keys are left. -/
def IterAt (w : World) (mr r : Nat) (kd : IntKind) (m : Int → Option Value) (left : Int → Bool) (cnt : Nat) : Prop :=
  ∃ (L : List (Int × Value × Nat)) (clk : Nat) (seen : Array Nat), w.heap[mr]? = some (.map (L.map (ment kd)).toArray clk) ∧ MOk L clk m ∧ w.heap[r]? = some (.mapIter (some mr) clk seen clk) ∧
    (∀ x ∈ L, left x.1 = !seen.contains x.2.2) ∧ (∀ k, left k = true → ∃ x ∈ L, x.1 = k) ∧ (L.filter fun x => !seen.contains x.2.2).length = cnt

section
variable {P : Program} {w : World} {mr r : Nat} {kd : IntKind} {m : Int → Option Value} {left : Int → Bool} {cnt : Nat}
theorem IterAt.map (h : IterAt w mr r kd m left cnt) : IMap w mr kd m := by
  obtain ⟨L, clk, seen, h1, h2, _⟩ := h
  exact ⟨L, clk, h1, h2⟩
theorem IterAt.lt (h : IterAt w mr r kd m left cnt) : mr < w.heap.size ∧ r < w.heap.size := by
  obtain ⟨L, clk, seen, h1, _, h3, _⟩ := h
  exact ⟨(Array.getElem?_eq_some_iff.1 h1).1, (Array.getElem?_eq_some_iff.1 h3).1⟩
theorem IterAt.same {w' : World} (h : IterAt w mr r kd m left cnt) (e1 : w'.heap[mr]? = w.heap[mr]?) (e2 : w'.heap[r]? = w.heap[r]?) : IterAt w' mr r kd m left cnt := by
  obtain ⟨L, clk, seen, h1, h2, h3, h4⟩ := h
  exact ⟨L, clk, seen, e1.trans h1, h2, e2.trans h3, h4⟩
def iterR (mr r : Nat) (kd : IntKind) (m : Int → Option Value) (left : Int → Bool) (cnt : Nat) : Res :=
  ⟨[mr, r], fun w => IterAt w mr r kd m left cnt, fun w h k hk => (by simp at hk; exact hk : k = mr ∨ k = r).elim (fun e => e ▸ h.lt.1) (fun e => e ▸ h.lt.2), fun w w' h e => h.same (e mr (by simp)) (e r (by simp))⟩

theorem IterAt.left_eq (h : IterAt w mr r kd m left cnt) : w.rangeLeft mr r = cnt := by
  obtain ⟨L, clk, seen, hb, hm, hr, hl1, hl2, hc⟩ := h
  have hleft : (leftOf (L.map (ment kd)).toArray seen).toList = (L.filter fun x => !seen.contains x.2.2).map (ment kd) := by
    unfold leftOf
    rw [Array.toList_filter]
    simp only
    rw [List.filter_map]
    rfl
  have := congrArg List.length hleft
  rw [List.length_map, Array.length_toList, hc] at this
  simp only [World.rangeLeft, hb, hr]
  exact this
/-- It begins. -/
theorem IMap.range (h : IMap w mr kd m) {T K E : TypeId} (hT : P.underlying T = some (.map K E)) :
    ∃ w' cnt, (Instr.range T (.map (some mr))).run P w = .ok (.pointer (some ⟨w.heap.size, 0, none⟩)) w' ∧ IterAt w' mr w.heap.size kd m (fun k => (m k).isSome) cnt ∧ Keep w.heap.size [] w w' ∧ w'.heap.size = w.heap.size + 1 := by
  have hlt := h.lt
  obtain ⟨L, clk, hb, hm⟩ := h
  have hg : (getObj mr).run P w = .ok (.map (L.map (ment kd)).toArray clk) w := by simp [getObj, Sem.run, hb]
  refine ⟨w.alloc (.mapIter (some mr) clk #[] clk), (L.filter fun x => !(#[] : Array Nat).contains x.2.2).length, ?_, ⟨L, clk, #[], ?_, hm, heap_alloc_new w _, ?_, ?_, rfl⟩, (Keep.refl _ _ _).alloc (Nat.le_refl _) _, World.size_alloc _ _⟩
  · exact run_range_map w T K E mr _ clk hT hb
  · exact (Below.heap_alloc w _ mr hlt).trans hb
  · intro x hx
    have := (hm.has x.1 x.2.1).2 ⟨x.2.2, hx⟩
    simp [this]
  · intro k hk
    obtain ⟨v, hv⟩ := Option.isSome_iff_exists.1 hk
    obtain ⟨b, hx⟩ := (hm.has k v).1 hv
    exact ⟨_, hx, rfl⟩

theorem born_inj : ∀ {L : List (Int × Value × Nat)}, (L.map (·.2.2)).Nodup → ∀ {x y : Int × Value × Nat}, x ∈ L → y ∈ L → x.2.2 = y.2.2 → x = y
  | [], _, _, _, hx, _, _ => by simp at hx
  | a :: L, hp, x, y, hx, hy, h => by
    rw [List.map_cons, List.nodup_cons] at hp
    rcases List.mem_cons.1 hx with rfl | hx'
    · rcases List.mem_cons.1 hy with rfl | hy'
      · rfl
      · exact absurd (List.mem_map.2 ⟨y, hy', h.symm⟩) hp.1
    · rcases List.mem_cons.1 hy with rfl | hy'
      · exact absurd (List.mem_map.2 ⟨x, hx', h⟩) hp.1
      · exact born_inj hp.2 hx' hy' h
theorem key_inj : ∀ {L : List (Int × Value × Nat)}, (L.map (·.1)).Nodup → ∀ {x y : Int × Value × Nat}, x ∈ L → y ∈ L → x.1 = y.1 → x = y
  | [], _, _, _, hx, _, _ => by simp at hx
  | a :: L, hp, x, y, hx, hy, h => by
    rw [List.map_cons, List.nodup_cons] at hp
    rcases List.mem_cons.1 hx with rfl | hx'
    · rcases List.mem_cons.1 hy with rfl | hy'
      · rfl
      · exact absurd (List.mem_map.2 ⟨y, hy', h.symm⟩) hp.1
    · rcases List.mem_cons.1 hy with rfl | hy'
      · exact absurd (List.mem_map.2 ⟨x, hx', h⟩) hp.1
      · exact key_inj hp.2 hx' hy' h

/-- One step: it is over; or some key that is left comes. -/
theorem IterAt.next (h : IterAt w mr r kd m left cnt) :
    (cnt = 0 ∧ (∀ k, left k = false) ∧ ∀ ty, (Instr.next (.pointer (some ⟨r, 0, none⟩)) false ty).run P w = .ok (.tuple #[.bool false]) w) ∨
    ∃ (k : Int) (v : Value) (w' : World) (cnt' : Nat), m k = some v ∧ left k = true ∧ cnt' < cnt ∧ IterAt w' mr r kd m (fun z => left z && !(z == k)) cnt' ∧ Keep w.heap.size [r] w w' ∧ w'.heap.size = w.heap.size ∧
      (∀ ty, (Instr.next (.pointer (some ⟨r, 0, none⟩)) false ty).run P w = .ok (.tuple #[.bool true, .int kd k, v]) w') ∧ (Instr.entry (.pointer (some ⟨r, 0, none⟩))).run P w' = .ok (.tuple #[.int kd k, v]) w' := by
  have hlt := h.lt
  obtain ⟨L, clk, seen, hb, hm, hr, hl1, hl2, hc⟩ := h
  have hne : mr ≠ r := by
    rintro rfl
    rw [hb] at hr
    cases hr
  have hold : ∀ x ∈ (L.map (ment kd)).toArray.toList, x.born < clk := by
    intro x hx
    simp only at hx
    obtain ⟨y, hy, rfl⟩ := List.mem_map.1 hx
    exact hm.old y hy
  have hleft : (leftOf (L.map (ment kd)).toArray seen).toList = (L.filter fun x => !seen.contains x.2.2).map (ment kd) := by
    unfold leftOf
    rw [Array.toList_filter]
    simp only
    rw [List.filter_map]
    rfl
  rcases run_next_at (P := P) w 0 r mr clk clk seen _ clk hr hb hold (Nat.le_refl _) with ⟨h0, hrun⟩ | ⟨e, he, w1, hw1, hrun⟩
  · refine .inl ⟨?_, fun k => ?_, fun ty => hrun⟩
    · rw [← hc]
      have := congrArg List.length hleft
      rw [List.length_map, Array.length_toList, h0] at this
      exact this.symm
    · cases hk : left k with
      | false => rfl
      | true =>
        obtain ⟨x, hx, rfl⟩ := hl2 k hk
        have hin : x ∈ L.filter fun x => !seen.contains x.2.2 := List.mem_filter.2 ⟨hx, by rw [← hl1 x hx]; exact hk⟩
        have := congrArg List.length hleft
        rw [List.length_map, Array.length_toList, h0] at this
        have := List.length_pos_of_mem hin
        omega
  · rw [hleft] at he
    obtain ⟨x, hx, rfl⟩ := List.mem_map.1 he
    obtain ⟨hxL, hxs⟩ := List.mem_filter.1 hx
    have hheap : w1.heap = w.heap := by rcases hw1 with rfl | rfl <;> rfl
    have hother : ∀ k, k ≠ r → (setBlock w1 r (.mapIter (some mr) clk (seen.push x.2.2) clk)).heap[k]? = w.heap[k]? := fun k hk => by
      simp only [setBlock]
      rw [Array.getElem?_setIfInBounds_ne (by omega), hheap]
    have hnew : (setBlock w1 r (.mapIter (some mr) clk (seen.push x.2.2) clk)).heap[r]? = some (.mapIter (some mr) clk (seen.push x.2.2) clk) := by
      simp only [setBlock]
      rw [hheap, Array.getElem?_setIfInBounds]
      simp [hlt.2]
    have hcon : ∀ b, (seen.push x.2.2).contains b = (seen.contains b || b == x.2.2) := fun b => by
      rw [Bool.eq_iff_iff]
      simp [Array.mem_push]
    refine .inr ⟨x.1, x.2.1, _, _, (hm.has _ _).2 ⟨x.2.2, hxL⟩, by rw [hl1 x hxL]; exact hxs, ?_, ⟨L, clk, seen.push x.2.2, (hother mr hne).trans hb, hm, hnew, ?_, ?_, rfl⟩, ?_, ?_, fun ty => hrun, ?_⟩
    · rw [← hc]
      refine filter_lt L _ _ (fun y hy hp => ?_) x hxL hxs ?_
      · rw [hcon] at hp
        simp at hp ⊢
        exact hp.1
      · rw [hcon]; simp
    · intro y hy
      show (left y.1 && !(y.1 == x.1)) = _
      rw [hl1 y hy, hcon]
      by_cases hyx : y = x
      · subst hyx; simp
      · have h1 : (y.1 == x.1) = false := by rw [beq_eq_false_iff_ne]; exact fun h => hyx (key_inj hm.keys hy hxL h)
        have h2 : (y.2.2 == x.2.2) = false := by rw [beq_eq_false_iff_ne]; exact fun h => hyx (born_inj hm.borns hy hxL h)
        rw [h1, h2]; simp
    · intro k hk
      rw [Bool.and_eq_true] at hk
      exact hl2 k hk.1
    · have hw : w1.os = w.os ∧ w1.tape = w.tape ∧ w1.output = w.output := by rcases hw1 with rfl | rfl <;> exact ⟨rfl, rfl, rfl⟩
      exact ⟨hw.1, hw.2.1, hw.2.2, by simp [setBlock, hheap], fun k _ hk => hother k (by simpa using hk)⟩
    · simp [setBlock, hheap]
    · have hmb : (setBlock w1 r (.mapIter (some mr) clk (seen.push x.2.2) clk)).heap[mr]? = some (.map (L.map (ment kd)).toArray clk) := (hother mr hne).trans hb
      have hfind : (L.map (ment kd)).toArray.find? (fun e => e.born == x.2.2) = some (ment kd x) := by
        rw [List.find?_toArray, List.find?_map]
        have : L.find? ((fun e : MapEntry => e.born == x.2.2) ∘ ment kd) = some x := by
          cases hf : L.find? ((fun e : MapEntry => e.born == x.2.2) ∘ ment kd) with
          | none =>
            have := List.find?_eq_none.1 hf x hxL
            simp [ment] at this
          | some y =>
            have h1 := List.find?_some hf
            have h2 := List.mem_of_find?_eq_some hf
            simp [ment] at h1
            rw [born_inj hm.borns h2 hxL h1]
        rw [this]
        rfl
      have g1 : (getObj r).run P (setBlock w1 r (.mapIter (some mr) clk (seen.push x.2.2) clk)) = .ok (.mapIter (some mr) clk (seen.push x.2.2) clk) (setBlock w1 r (.mapIter (some mr) clk (seen.push x.2.2) clk)) := by simp [getObj, Sem.run, hnew]
      have g2 : (getObj mr).run P (setBlock w1 r (.mapIter (some mr) clk (seen.push x.2.2) clk)) = .ok (.map (L.map (ment kd)).toArray clk) (setBlock w1 r (.mapIter (some mr) clk (seen.push x.2.2) clk)) := by simp [getObj, Sem.run, hmb]
      simp only [Instr.entry, Sem.run_bind, g1, Result.andThen, Array.back?_push, g2, bne_self_eq_false, Bool.false_eq_true, if_false, hfind]
      rfl
/-- The map of a thing is gone over. -/
theorem Sep.range {W : World} {S : List Nat} {L : List Res} (HS : Sep W S L w) {i : Nat} (hi : L[i]? = some (mapR mr m)) {T K E : TypeId} (hT : P.underlying T = some (.map K E)) :
    ∃ w' cnt, (Instr.range T (.map (some mr))).run P w = .ok (.pointer (some ⟨w.heap.size, 0, none⟩)) w' ∧ Sep W S (L.set i (iterR mr w.heap.size .i64 m (fun k => (m k).isSome) cnt)) w' := by
  obtain ⟨w', cnt, hr, hit, hk, hsz⟩ := IMap.range (P := P) (HS.all i _ hi : IMap w mr .i64 m) hT
  refine ⟨w', cnt, hr, HS.step hi (hk.sub (fun k _ h => by simp at h)) hit ?_⟩
  intro k hk
  have h1 : k = mr ∨ k = w.heap.size := by simpa [iterR] using hk
  rcases h1 with rfl | rfl
  · exact .inl (by simp [mapR])
  · exact .inr (Nat.le_refl _)
theorem Sep.next {W : World} {S : List Nat} {L : List Res} (HS : Sep W S L w) {i : Nat} (hi : L[i]? = some (iterR mr r kd m left cnt)) :
    (cnt = 0 ∧ (∀ k, left k = false) ∧ ∀ ty, (Instr.next (.pointer (some ⟨r, 0, none⟩)) false ty).run P w = .ok (.tuple #[.bool false]) w) ∨
    ∃ (k : Int) (v : Value) (w' : World) (cnt' : Nat), m k = some v ∧ left k = true ∧ cnt' < cnt ∧ Sep W S (L.set i (iterR mr r kd m (fun z => left z && !(z == k)) cnt')) w' ∧
      (∀ ty, (Instr.next (.pointer (some ⟨r, 0, none⟩)) false ty).run P w = .ok (.tuple #[.bool true, .int kd k, v]) w') ∧ (Instr.entry (.pointer (some ⟨r, 0, none⟩))).run P w' = .ok (.tuple #[.int kd k, v]) w' := by
  rcases IterAt.next (P := P) (HS.all i _ hi : IterAt w mr r kd m left cnt) with h | ⟨k, v, w', cnt', h1, h2, h3, h4, h5, h6, h7, h8⟩
  · exact .inl h
  · exact .inr ⟨k, v, w', cnt', h1, h2, h3, HS.step hi (h5.sub (fun k _ h => by simp at h; subst h; simp [iterR])) h4 (fun k hk => .inl hk), h7, h8⟩
end
end Go.Proofs.Ythdiehcmjknhiaa
