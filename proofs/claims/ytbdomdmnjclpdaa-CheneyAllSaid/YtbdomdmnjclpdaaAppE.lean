/-
  append of a slice that may be empty: in a walk, in a round of a range, in a drawn region.
-/
import Derived.Deep.Upon
import Derived.Test.YtbdomdmnjclpdaaRelS
set_option linter.unusedSimpArgs false
set_option linter.unusedVariables false
set_option maxRecDepth 100000
namespace Go.Proofs.Ytbdomdmnjclpdaa
open Go.RowKit

section
variable {P : Program} {W w : World} {S : List Nat} {L : List Res} {e : TypeId} {v xv : Value} {xs news : List Value}
theorem addrE (g off i : Nat) : (⟨g, off, none⟩ : Addr).add i = ⟨g, off + i, none⟩ := by unfold Addr.add; split <;> simp_all
theorem rd_rowE {w : World} (h : w.ownsRow 0 e 1 v xs.length xs) : Rd w v xs := by
  rcases h.2 with ⟨hv, h0⟩ | ⟨g, cap, cur, hv, _⟩
  · exact ⟨none, 0, by rw [hv, h0], fun hp => by omega⟩
  · subst hv
    refine ⟨some ⟨g, 0, none⟩, cap, rfl, fun hp => ⟨g, 0, rfl, fun j u hu => ?_⟩⟩
    have := h.cells (g := g) rfl j u hu
    rwa [addrE] at this
theorem run_appendE (HS : Sep W S L w) {i : Nat} (hi : L[i]? = some (rowR e v xs)) (t ty : TypeId) {z : Value} {bytes : Nat} (ht : P.underlying t = some (.slice e)) (hinfo : (P.info? e).map (fun i => (i.zero, i.size, i.bytes)) = some (some z, 1, bytes)) (hzs : z.cells.size = 1) (hb8 : bytes ≤ 64)
    (hx : Rd w xv news) (h1 : ∀ u ∈ news, u.oneCell' = true) (h63 : xs.length + news.length ≤ 1099511627776) :
    ∃ v' w', (Builtin.append_ #[t, t] ty #[v, xv]).run P w = .ok v' w' ∧ Sep W S (L.set i (rowR e v' (xs ++ news))) w' ∧ (news = [] → v' = v) := by
  obtain ⟨i0, hi0, hz0, hz1, hz2⟩ := info_parts hinfo
  obtain ⟨A, c, rfl, hc⟩ := hx
  by_cases h0 : news = []
  · subst h0
    refine ⟨v, w, ?_, ?_, fun _ => rfl⟩
    · have hsrc : Src P i0.size t (.slice A ([] : List Value).length c) 0 [] w := by
        cases A with
        | none => exact Src.ofNil w ht c
        | some a => exact Src.ofSlice w ht a 0 c [] (by simp) (by simp) (by simp)
      rcases (HS.row i hi).2 with ⟨hv, hl⟩ | ⟨g, cap, cur, hv, hb, hh, hle, hmx, _⟩
      · rw [hv]
        exact run_append_nothing w t t ty e i0 ht hi0 none 0 0 (Nat.le_refl _) _ hsrc
      · rw [hv]
        exact run_append_nothing w t t ty e i0 ht hi0 _ _ _ hle _ hsrc
    · rw [List.append_nil]
      have : L.set i (rowR e v xs) = L := by
        apply List.ext_getElem?
        intro j
        rw [List.getElem?_set]
        split
        · rename_i h
          subst h
          split
          · exact hi.symm
          · rename_i h2; rw [List.getElem?_eq_none (by omega)]
        · rfl
      rw [this]
      exact HS
  · have hp : 0 < news.length := List.length_pos_iff.2 h0
    obtain ⟨g, off, rfl, hcell⟩ := hc hp
    obtain ⟨v', w', hr, h2, h3, h4⟩ := run_append_row (P := P) w (ty := ty) ht hi0 hz0 hz1 hz2 hzs (HS.row i hi) ⟨g, off, none⟩ news.length c news rfl hp (fun j u hu => by rw [addrE]; exact hcell j u hu) h1 h63 hb8
    exact ⟨v', w', hr, HS.step hi (r' := rowR e v' (xs ++ news)) h3 h2 h4, fun h => absurd h h0⟩
theorem wpList_appendE {ops : Array Oper} {rest : List Oper} {o : Oper} {a : Act} {Q : Exit → Act → World → Prop} (HS : Sep W S L w) (i : Nat) (hi : L[i]? = some (rowR e v xs)) (hgd : o.guard = none) (s x : Operand) (t : TypeId)
    (ho : o.op = .call { callee := .builtin .append, args := #[s, x], argTypes := #[t, t] }) {z : Value} {bytes : Nat} (ht : P.underlying t = some (.slice e)) (hinfo : (P.info? e).map (fun i => (i.zero, i.size, i.bytes)) = some (some z, 1, bytes)) (hzs : z.cells.size = 1) (hb8 : bytes ≤ 64)
    (hs : a.eval s = v) (hxe : a.eval x = xv) (hx : Rd w xv news) (h1 : ∀ u ∈ news, u.oneCell' = true) (h63 : xs.length + news.length ≤ 1099511627776)
    (h : ∀ v' w', Sep W S (L.set i (rowR e v' (xs ++ news))) w' → (news = [] → v' = v) → wpList P ops Q rest (a.put o.dst v') w') : wpList P ops Q (o :: rest) a w := by
  refine wpList_plain hgd fun _ hK => ?_
  obtain ⟨v', w', hr, h2, h3⟩ := run_appendE (P := P) HS hi t o.type ht hinfo hzs hb8 hx h1 h63
  unfold Oper.wp execOp
  simp only [ho, resolve, invoke, builtin, Sem.run_bind, Sem.run_pure, Result.andThen_ok, List.map_toArray, List.map_cons, List.map_nil, hs, hxe, hr]
  exact hK _ _ (h v' w' h2 h3)
theorem wpListIn_appendE {l0 : Nat} {ops : Array Oper} {rest : List Oper} {o : Oper} {a : Act} {Q : Exit → Act → World → Prop} (HS : Sep W S L w) (i : Nat) (hi : L[i]? = some (rowR e v xs)) (hgd : o.guard = none) (s x : Operand) (t : TypeId)
    (ho : o.op = .call { callee := .builtin .append, args := #[s, x], argTypes := #[t, t] }) {z : Value} {bytes : Nat} (ht : P.underlying t = some (.slice e)) (hinfo : (P.info? e).map (fun i => (i.zero, i.size, i.bytes)) = some (some z, 1, bytes)) (hzs : z.cells.size = 1) (hb8 : bytes ≤ 64)
    (hs : a.eval s = v) (hxe : a.eval x = xv) (hx : Rd w xv news) (h1 : ∀ u ∈ news, u.oneCell' = true) (h63 : xs.length + news.length ≤ 1099511627776)
    (h : ∀ v' w', Sep W S (L.set i (rowR e v' (xs ++ news))) w' → (news = [] → v' = v) → wpListIn (Fence.wide.inRound l0) 0 P ops Q rest (a.put o.dst v') w') : wpListIn (Fence.wide.inRound l0) 0 P ops Q (o :: rest) a w := by
  refine wpListIn_plain hgd fun _ hK => ?_
  obtain ⟨v', w', hr, h2, h3⟩ := run_appendE (P := P) HS hi t o.type ht hinfo hzs hb8 hx h1 h63
  refine ⟨fun _ _ => trivial, ?_⟩
  rw [show (Fence.wide.inRound l0).round = some l0 from rfl, Oper.semAt_some _ _ _ (by intro c hc; rw [ho] at hc; cases hc)]
  unfold execOp
  simp only [ho, resolve, invoke, builtin, Sem.run_bind, Sem.run_pure, Result.andThen_ok, List.map_toArray, List.map_cons, List.map_nil, hs, hxe, hr]
  exact hK _ _ (h v' w' h2 h3)
theorem y_appendE {o : Oper} {a : Act} {K : Value → World → Prop} {Q : Exit → Act → World → Prop} (HS : Sep W S L w) (i : Nat) (hi : L[i]? = some (rowR e v xs)) (s x : Operand) (t : TypeId)
    (ho : o.op = .call { callee := .builtin .append, args := #[s, x], argTypes := #[t, t] }) {z : Value} {bytes : Nat} (ht : P.underlying t = some (.slice e)) (hinfo : (P.info? e).map (fun i => (i.zero, i.size, i.bytes)) = some (some z, 1, bytes)) (hzs : z.cells.size = 1) (hb8 : bytes ≤ 64)
    (hs : a.eval s = v) (hxe : a.eval x = xv) (hx : Rd w xv news) (h1 : ∀ u ∈ news, u.oneCell' = true) (h63 : xs.length + news.length ≤ 1099511627776)
    (h : ∀ v' w', Sep W S (L.set i (rowR e v' (xs ++ news))) w' → (news = [] → v' = v) → K v' w') : yUpon P a K Q ((execOp a.eval o).run P w) := by
  obtain ⟨v', w', hr, h2, h3⟩ := run_appendE (P := P) HS hi t o.type ht hinfo hzs hb8 hx h1 h63
  unfold yUpon execOp
  simp only [ho, resolve, invoke, builtin, Sem.run_bind, Sem.run_pure, Result.andThen_ok, List.map_toArray, List.map_cons, List.map_nil, hs, hxe, hr]
  exact h v' w' h2 h3
end
end Go.Proofs.Ytbdomdmnjclpdaa
