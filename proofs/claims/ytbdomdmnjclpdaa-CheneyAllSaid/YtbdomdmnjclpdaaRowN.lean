/-
  Slices that grow, of elements of several cells.
  A slice from whose front elements are taken, and at whose end elements are put.
-/
import Derived.Test.YtbdomdmnjclpdaaRelS
import Derived.ArgAppend
set_option linter.unusedVariables false
set_option linter.unusedSimpArgs false
set_option maxRecDepth 100000
namespace Go.Proofs.Ytbdomdmnjclpdaa
open Go.RowKit Go.Shelf

/-- A slice with a block of its own (or none yet), of n elements of sz cells, whose cells are so. -/
def rowN (e : TypeId) (sz : Nat) (v : Value) (n : Nat) (xs : List Value) : Res :=
  ⟨v.ownBlock.toList, fun w => w.ownsRow 0 e sz v n xs,
   fun w h k hk => (h.lt k (by simpa using hk)).2,
   fun w w' h hs => by
    refine ⟨h.1, ?_⟩
    rcases h.2 with hn | ⟨g, cap, cur, hv, hb, hg, hr⟩
    · exact .inl hn
    · exact .inr ⟨g, cap, cur, hv, hb, (hs g (by rw [hv]; simp [Value.ownBlock])).trans hg, hr⟩⟩

section
variable {W w : World} {S : List Nat} {L : List Res} {e : TypeId} {v : Value} {xs : List Value} {n sz : Nat}
/-- No slice yet. -/
theorem Sep.nilRowN (h : Sep W S L w) (e : TypeId) (sz : Nat) : Sep W S (L ++ [rowN e sz (.slice none 0 0) 0 []]) w :=
  h.add (Keep.refl _ _ _) (r := rowN e sz (.slice none 0 0) 0 []) (World.ownsRow_nil w 0 e sz) (by simp [rowN, Value.ownBlock])
theorem Sep.rowN (h : Sep W S L w) (i : Nat) (hi : L[i]? = some (rowN e sz v n xs)) : w.ownsRow 0 e sz v n xs := h.all i _ hi
theorem rowN_val {w : World} (h : w.ownsRow 0 e sz v n xs) : ∃ A c, v = .slice A n c := by
  rcases h.2 with ⟨hv, hn⟩ | ⟨g, cap, cur, hv, _⟩
  · exact ⟨none, 0, by rw [hv, hn]⟩
  · exact ⟨_, cap, hv⟩
/-- Its cells. -/
theorem rowN_cells {w : World} (h : w.ownsRow 0 e sz v n xs) (hn : 0 < n) : ∃ g c, v = .slice (some ⟨g, 0, none⟩) n c ∧ ∀ j u, xs[j]? = some u → w.cell? ⟨g, j, none⟩ = some u := by
  rcases h.2 with ⟨hv, h0⟩ | ⟨g, cap, cur, hv, _, hg, _⟩
  · omega
  · subst hv
    refine ⟨g, cap, rfl, fun j u hu => ?_⟩
    have := h.cells (g := g) rfl j u hu
    rwa [show (⟨g, 0, none⟩ : Addr).add j = ⟨g, j, none⟩ by unfold Addr.add; split <;> simp_all] at this

variable {P : Program}
/-- append, run. -/
theorem run_append_rowN (w : World) {t ty : TypeId} {i : TypeInfo} {z : Value} {bytes : Nat} (ht : P.underlying t = some (.slice e)) (hi : P.info? e = some i) (hz : i.zero = some z) (hsize : i.size = sz) (hby : i.bytes = bytes) (hzs : z.cells.size = sz) (hs0 : 0 < sz)
    (hown : w.ownsRow 0 e sz v n xs) (a : Addr) (m c : Nat) (news : List Value) (hl : news.length = m * sz) (hm : 0 < m) (hnews : ∀ j u, news[j]? = some u → w.cell? (a.add j) = some u) (h1 : ∀ u ∈ news, u.oneCell' = true)
    (h63 : n + m ≤ 1099511627776) (hb8 : bytes ≤ 64) :
    ∃ v' w', (Builtin.append_ #[t, t] ty #[v, .slice (some a) m c]).run P w = .ok v' w' ∧ w'.ownsRow 0 e sz v' (n + m) (xs ++ news) ∧ Keep w.heap.size v.ownBlock.toList w w' ∧ (∀ k ∈ v'.ownBlock.toList, k ∈ v.ownBlock.toList ∨ w.heap.size ≤ k) := by
  have hlen : (xs ++ news).length = (n + m) * sz := by rw [List.length_append, hown.1, hl, Nat.add_mul]
  have hmax : n + m ≤ maxLen := by simp only [maxLen]; omega
  have hbb : (n + m) * bytes ≤ 140737488355328 := by
    have := Nat.mul_le_mul h63 hb8
    omega
  by_cases hn : v = .slice none 0 0
  · subst hn
    have hx0 : n = 0 := by
      rcases hown.2 with ⟨_, h⟩ | ⟨g, cap, cur, hv, _⟩
      · exact h
      · cases hv
    subst hx0
    have hx : xs = [] := List.eq_nil_of_length_eq_zero (by rw [hown.1]; simp)
    subst hx
    obtain ⟨v', w', hr, h2, h3, _⟩ := run_append_own (P := P) w w.heap.size t ty e i z sz bytes ht hi hz hsize hby hzs hs0 (.slice none 0 0) 0 [] (World.ownsRow_nil w _ e sz) a m c news hl hnews h1 hmax hbb (Nat.le_refl _)
    refine ⟨v', w', hr, ?_, Keep.of_grown h3, fun k hk => .inr (h2.lt k (by simpa using hk)).1⟩
    refine ⟨h2.1, ?_⟩
    rcases h2.2 with h | ⟨g, cap, cur, hv, hb, hg, hr⟩
    · exact .inl h
    · exact .inr ⟨g, cap, cur, hv, Nat.zero_le _, hg, hr⟩
  · rcases hown.2 with ⟨hv, _⟩ | ⟨g, cap, cur, hv, hb, hg, hnc, hcm, hcs, htk⟩
    · exact absurd hv hn
    · subst hv
      by_cases hroom : n + m ≤ cap
      · obtain ⟨w', hr, h2, h3⟩ := run_append_own_spare (P := P) w 0 t ty e i sz ht hi hsize g n cap xs hown a m c news hl hnews h1 hroom
        exact ⟨_, w', hr, h2, Keep.of_grown (v := .slice (some ⟨g, 0, none⟩) n cap) h3, fun k hk => .inl (by simpa [Value.ownBlock] using hk)⟩
      · have holds : ∀ j u, xs[j]? = some u → w.cell? ((⟨g, 0, none⟩ : Addr).add j) = some u := hown.cells (g := g) rfl
        have hr := run_append_grow (P := P) w t ty e i z ht hi hz ⟨g, 0, none⟩ n cap xs (by rw [hsize]; exact hown.1) holds a m c news (by rw [hsize]; exact hl) hnews (by omega) (by simp only [maxLen] at hmax; omega) (growslice_fits (by omega) (by rw [hby]; exact hbb))
        have hge := grownCap_ge w (n + m) cap e
        have hcm2 := grownCap_le_maxLen w (n + m) cap e hmax
        refine ⟨_, _, hr, ?_, ?_, fun k hk => .inr (by simp [Value.ownBlock] at hk; omega)⟩
        · refine ⟨hlen, .inr ⟨w.heap.size, _, _, rfl, Nat.zero_le _, heap_alloc_new w.drew _, hge, hcm2, ?_, ?_⟩⟩
          · simp only [Array.size_append, List.size_toArray, size_zeroCells, hzs, hl, hown.1]
            rw [← Nat.add_mul, ← Nat.add_mul, Nat.add_sub_cancel' hge]
          · simp only [Array.toList_append, List.append_assoc]
            rw [← List.append_assoc, ← hlen]
            exact List.take_left
        · exact ⟨rfl, rfl, rfl, by simp, fun k hk _ => Below.heap_alloc w.drew _ k hk⟩
/-- append, as an operation that comes in its order. -/
theorem wpList_appendN {ops : Array Oper} {rest : List Oper} {o : Oper} {a : Act} {Q : Exit → Act → World → Prop} (HS : Sep W S L w) (i : Nat) (hi : L[i]? = some (Go.Proofs.Ytbdomdmnjclpdaa.rowN e sz v n xs)) (hgd : o.guard = none) (s x : Operand) (t : TypeId)
    (ho : o.op = .call { callee := .builtin .append, args := #[s, x], argTypes := #[t, t] }) {z : Value} {bytes : Nat} (ht : P.underlying t = some (.slice e)) (hinfo : (P.info? e).map (fun i => (i.zero, i.size, i.bytes)) = some (some z, sz, bytes)) (hzs : z.cells.size = sz) (hs0 : 0 < sz) (hb8 : bytes ≤ 64)
    (hs : a.eval s = v) (ad : Addr) (m c : Nat) (news : List Value) (hx : a.eval x = .slice (some ad) m c) (hl : news.length = m * sz) (hm : 0 < m) (hnews : ∀ j u, news[j]? = some u → w.cell? (ad.add j) = some u) (h1 : ∀ u ∈ news, u.oneCell' = true)
    (h63 : n + m ≤ 1099511627776)
    (h : ∀ v' w', Sep W S (L.set i (Go.Proofs.Ytbdomdmnjclpdaa.rowN e sz v' (n + m) (xs ++ news))) w' → wpList P ops Q rest (a.put o.dst v') w') : wpList P ops Q (o :: rest) a w := by
  obtain ⟨i0, hi0, hz0, hz1, hz2⟩ := info_parts hinfo
  refine wpList_plain hgd fun _ hK => ?_
  obtain ⟨v', w', hr, h2, h3, h4⟩ := run_append_rowN (P := P) w (ty := o.type) ht hi0 hz0 hz1 hz2 hzs hs0 (HS.rowN i hi) ad m c news hl hm hnews h1 h63 hb8
  have hs2 := HS.step hi (r' := Go.Proofs.Ytbdomdmnjclpdaa.rowN e sz v' (n + m) (xs ++ news)) h3 h2 h4
  unfold Oper.wp execOp
  simp only [ho, resolve, invoke, builtin, Sem.run_bind, Sem.run_pure, Result.andThen_ok, List.map_toArray, List.map_cons, List.map_nil, hs, hx, hr]
  exact hK _ _ (h v' w' hs2)
end
end Go.Proofs.Ytbdomdmnjclpdaa
set_option linter.unusedVariables false
set_option linter.unusedSimpArgs false
set_option maxRecDepth 100000
namespace Go.Proofs.Ytbdomdmnjclpdaa
open Go.RowKit Go.Shelf

def qBlk (v : Value) : List Nat := match v with | .slice (some a) _ _ => [a.block] | _ => []
def QOk (w : World) (e : TypeId) (sz : Nat) (v : Value) (n : Nat) (xs : List Value) : Prop :=
  xs.length = n * sz ∧ ((v = .slice none 0 0 ∧ n = 0) ∨ ∃ g off cap cs, v = .slice (some ⟨g, off, none⟩) n cap ∧ w.heap[g]? = some (.cells cs e) ∧ n ≤ cap ∧ cap ≤ maxLen ∧ off + cap * sz ≤ cs.size ∧ ∀ j u, xs[j]? = some u → cs[off + j]? = some u)
def queueR (e : TypeId) (sz : Nat) (v : Value) (n : Nat) (xs : List Value) : Res :=
  ⟨qBlk v, fun w => QOk w e sz v n xs,
   fun w h k hk => by
    rcases h.2 with ⟨hv, _⟩ | ⟨g, off, cap, cs, hv, hg, _⟩
    · subst hv; simp [qBlk] at hk
    · subst hv
      simp [qBlk] at hk
      subst hk
      exact (Array.getElem?_eq_some_iff.1 hg).1,
   fun w w' h hs => by
    refine ⟨h.1, ?_⟩
    rcases h.2 with hn | ⟨g, off, cap, cs, hv, hg, hr⟩
    · exact .inl hn
    · exact .inr ⟨g, off, cap, cs, hv, (hs g (by subst hv; simp [qBlk])).trans hg, hr⟩⟩
section
variable {W w : World} {S : List Nat} {L : List Res} {e : TypeId} {v : Value} {xs : List Value} {n sz : Nat} {P : Program}
theorem Sep.nilQ (h : Sep W S L w) (e : TypeId) (sz : Nat) : Sep W S (L ++ [queueR e sz (.slice none 0 0) 0 []]) w :=
  h.add (Keep.refl _ _ _) (r := queueR e sz (.slice none 0 0) 0 []) ⟨by simp, .inl ⟨rfl, rfl⟩⟩ (by simp [queueR, qBlk])
theorem addQ (g off i : Nat) : (⟨g, off, none⟩ : Addr).add i = ⟨g, off + i, none⟩ := by unfold Addr.add; split <;> simp_all
theorem QOk.val (h : QOk w e sz v n xs) : ∃ A c, v = .slice A n c := by
  rcases h.2 with ⟨hv, hn⟩ | ⟨g, off, cap, cs, hv, _⟩
  · exact ⟨none, 0, by rw [hv, hn]⟩
  · exact ⟨_, cap, hv⟩
/-- Taken from the front. -/
theorem QOk.pop {o : List Value} (h : QOk w e sz v (n + 1) (o ++ xs)) (ho : o.length = sz) :
    ∃ g off cap, v = .slice (some ⟨g, off, none⟩) (n + 1) cap ∧ 1 ≤ cap ∧ (∀ j u, o[j]? = some u → w.cell? ⟨g, off + j, none⟩ = some u) ∧
      QOk w e sz (.slice (some ⟨g, if cap = 1 then off else off + sz, none⟩) n (cap - 1)) n xs := by
  rcases h.2 with ⟨hv, hn⟩ | ⟨g, off, cap, cs, hv, hg, hnc, hcm, hcs, hx⟩
  · omega
  · have hl := h.1
    rw [List.length_append, ho, Nat.add_mul, Nat.one_mul] at hl
    refine ⟨g, off, cap, hv, by omega, fun j u hu => ?_, by omega, .inr ⟨g, _, cap - 1, cs, rfl, hg, by omega, by omega, ?_, fun j u hu => ?_⟩⟩
    · have hj := (List.getElem?_eq_some_iff.1 hu).1
      have := hx j u (by rw [List.getElem?_append_left hj]; exact hu)
      simp [World.cell?, hg, this]
    · by_cases hc : cap = 1
      · rw [if_pos hc]; subst hc; simp; omega
      · rw [if_neg hc]
        obtain ⟨c, rfl⟩ : ∃ c, cap = c + 1 := ⟨cap - 1, by omega⟩
        simp only [Nat.add_sub_cancel]
        rw [Nat.add_mul] at hcs
        omega
    · have hj := (List.getElem?_eq_some_iff.1 hu).1
      have h2 := hx (sz + j) u (by rw [List.getElem?_append_right (by omega), ho, Nat.add_sub_cancel_left]; exact hu)
      by_cases hc : cap = 1
      · have : n = 0 := by omega
        subst this
        simp at hl
        subst hl
        simp at hj
      · rw [if_neg hc, Nat.add_assoc]; exact h2
theorem heap_setCells {g : Nat} : ∀ (news : List Value) (off : Nat) (w : World) (cs : Array Value), w.heap[g]? = some (.cells cs e) →
    ∃ cs', (w.setCells g off news).heap[g]? = some (.cells cs' e) ∧ cs'.size = cs.size ∧ Keep w.heap.size [g] w (w.setCells g off news) ∧ ∀ j, j < cs.size → cs'[j]? = if off ≤ j ∧ j < off + news.length then news[j - off]? else cs[j]?
  | [], off, w, cs, hg => ⟨cs, hg, rfl, Keep.refl _ _ _, fun j hj => by rw [if_neg (by simp)]⟩
  | v :: r, off, w, cs, hg => by
    have hb : Blk w g e cs := hg
    have hb2 := hb.set_ off v
    have hk : Keep w.heap.size [g] w (w.setCell ⟨g, off, none⟩ v) := (Keep.refl _ _ _).setCell (by simp) _
    obtain ⟨cs', h1, h2, h3, h4⟩ := heap_setCells r (off + 1) (w.setCell ⟨g, off, none⟩ v) _ hb2
    refine ⟨cs', h1, by rw [h2]; simp, hk.join h3 hk.size (fun k _ h => h), fun j hj => ?_⟩
    rw [h4 j (by simpa using hj)]
    by_cases hjo : j = off
    · subst hjo
      rw [if_neg (by omega), if_pos (by simp)]
      simp [hj]
    · by_cases hin : off + 1 ≤ j ∧ j < off + 1 + r.length
      · rw [if_pos hin, if_pos (by simp only [List.length_cons]; omega), show j - off = (j - (off + 1)) + 1 by omega]
        simp
      · rw [if_neg hin, if_neg (by simp only [List.length_cons]; omega)]
        rw [Array.getElem?_setIfInBounds_ne (fun h => hjo h.symm)]
/-- append, run. -/
theorem run_append_Q (w : World) {t ty : TypeId} {i : TypeInfo} {z : Value} {bytes : Nat} (ht : P.underlying t = some (.slice e)) (hi : P.info? e = some i) (hz : i.zero = some z) (hsize : i.size = sz) (hby : i.bytes = bytes) (hzs : z.cells.size = sz) (hs0 : 0 < sz)
    (hown : QOk w e sz v n xs) (a : Addr) (m c : Nat) (news : List Value) (hl : news.length = m * sz) (hm : 0 < m) (hnews : ∀ j u, news[j]? = some u → w.cell? (a.add j) = some u) (h1 : ∀ u ∈ news, u.oneCell' = true)
    (h63 : n + m ≤ 1099511627776) (hb8 : bytes ≤ 64) :
    ∃ v' w', (Builtin.append_ #[t, t] ty #[v, .slice (some a) m c]).run P w = .ok v' w' ∧ QOk w' e sz v' (n + m) (xs ++ news) ∧ Keep w.heap.size (qBlk v) w w' ∧ (∀ k ∈ qBlk v', k ∈ qBlk v ∨ w.heap.size ≤ k) := by
  have hlen : (xs ++ news).length = (n + m) * sz := by rw [List.length_append, hown.1, hl, Nat.add_mul]
  have hmax : n + m ≤ maxLen := by simp only [maxLen]; omega
  have hbb : (n + m) * bytes ≤ 140737488355328 := by
    have := Nat.mul_le_mul h63 hb8
    omega
  have ofOwn : ∀ (v' : Value) (w' : World), w'.ownsRow w.heap.size e sz v' (n + m) (xs ++ news) → QOk w' e sz v' (n + m) (xs ++ news) ∧ ∀ k ∈ qBlk v', w.heap.size ≤ k := by
    intro v' w' h
    rcases h.2 with ⟨hv, hn⟩ | ⟨g, cap, cur, hv, hb, hg, hnc, hcm, hcs, htk⟩
    · omega
    · subst hv
      refine ⟨⟨hlen, .inr ⟨g, 0, cap, cur, rfl, hg, hnc, hcm, by omega, fun j u hu => ?_⟩⟩, by simp [qBlk]; exact hb⟩
      have hj := (List.getElem?_eq_some_iff.1 hu).1
      have h2 : cur.toList[j]? = some u := by
        have h3 : (cur.toList.take ((n + m) * sz))[j]? = some u := by rw [htk]; exact hu
        rw [List.getElem?_take] at h3
        split at h3
        · exact h3
        · cases h3
      simpa using h2
  rcases hown.2 with ⟨hv, hn⟩ | ⟨g, off, cap, cs, hv, hg, hnc, hcm, hcs, hx⟩
  · subst hv
    subst hn
    have hx : xs = [] := List.eq_nil_of_length_eq_zero (by rw [hown.1]; simp)
    subst hx
    obtain ⟨v', w', hr, h2, h3, _⟩ := run_append_own (P := P) w w.heap.size t ty e i z sz bytes ht hi hz hsize hby hzs hs0 (.slice none 0 0) 0 [] (World.ownsRow_nil w _ e sz) a m c news hl hnews h1 hmax hbb (Nat.le_refl _)
    have h4 := ofOwn v' w' h2
    exact ⟨v', w', hr, h4.1, Keep.of_grown h3, fun k hk => .inr (h4.2 k hk)⟩
  · subst hv
    have holds : ∀ j u, xs[j]? = some u → w.cell? ((⟨g, off, none⟩ : Addr).add j) = some u := fun j u hu => by
      rw [addQ]; simp [World.cell?, hg, hx j u hu]
    by_cases hroom : n + m ≤ cap
    · have hmul : (n + m) * sz ≤ cap * sz := Nat.mul_le_mul_right _ hroom
      rw [Nat.add_mul] at hmul
      have hr := run_append_room_cells (P := P) w t ty e i ht hi g off n cap a m c news (by rw [hsize]; exact hl) hnews h1 hroom
        (fun j hj => by rw [hsize]; simp [World.cell?, hg]; omega)
        (fun j hj => by simp [World.frozen?, hg])
      rw [hsize] at hr
      obtain ⟨cs', q1, q2, q3, q4⟩ := heap_setCells news (off + n * sz) w cs hg
      refine ⟨_, _, hr, ⟨hlen, .inr ⟨g, off, cap, cs', rfl, q1, hroom, hcm, by rw [q2]; exact hcs, fun j u hu => ?_⟩⟩, by simpa [qBlk] using q3, fun k hk => .inl hk⟩
      have hjl := (List.getElem?_eq_some_iff.1 hu).1
      rw [hlen, Nat.add_mul] at hjl
      rw [q4 (off + j) (by omega)]
      by_cases hj : j < n * sz
      · rw [if_neg (by omega)]
        exact hx j u (by rw [List.getElem?_append_left (by rw [hown.1]; exact hj)] at hu; exact hu)
      · rw [List.getElem?_append_right (by rw [hown.1]; omega), hown.1] at hu
        have hj2 := (List.getElem?_eq_some_iff.1 hu).1
        rw [if_pos (by omega), show off + j - (off + n * sz) = j - n * sz by omega]
        exact hu
    · obtain ⟨v', w', hr, h2, h3⟩ := run_append_arg_grows (P := P) w t ty e i z sz bytes ht hi hz hsize hby hzs hs0 ⟨g, off, none⟩ n cap xs hown.1 holds a m c news hl hnews (by omega) hmax hbb
      have h4 := ofOwn v' w' h2
      refine ⟨v', w', hr, h4.1, ?_, fun k hk => .inr (h4.2 k hk)⟩
      have := Keep.of_grown (v := .slice none 0 0) (w := w) (w' := w') (by simpa [Value.ownBlock] using h3)
      exact this.sub (by simp [Value.ownBlock])
/-- append, as an operation that comes in its order. -/
theorem wpList_appendQ {ops : Array Oper} {rest : List Oper} {o : Oper} {a : Act} {Q : Exit → Act → World → Prop} (HS : Sep W S L w) (i : Nat) (hi : L[i]? = some (queueR e sz v n xs)) (hgd : o.guard = none) (s x : Operand) (t : TypeId)
    (ho : o.op = .call { callee := .builtin .append, args := #[s, x], argTypes := #[t, t] }) {z : Value} {bytes : Nat} (ht : P.underlying t = some (.slice e)) (hinfo : (P.info? e).map (fun i => (i.zero, i.size, i.bytes)) = some (some z, sz, bytes)) (hzs : z.cells.size = sz) (hs0 : 0 < sz) (hb8 : bytes ≤ 64)
    (hs : a.eval s = v) (ad : Addr) (m c : Nat) (news : List Value) (hx : a.eval x = .slice (some ad) m c) (hl : news.length = m * sz) (hm : 0 < m) (hnews : ∀ j u, news[j]? = some u → w.cell? (ad.add j) = some u) (h1 : ∀ u ∈ news, u.oneCell' = true)
    (h63 : n + m ≤ 1099511627776)
    (h : ∀ v' w', Sep W S (L.set i (queueR e sz v' (n + m) (xs ++ news))) w' → wpList P ops Q rest (a.put o.dst v') w') : wpList P ops Q (o :: rest) a w := by
  obtain ⟨i0, hi0, hz0, hz1, hz2⟩ := info_parts hinfo
  refine wpList_plain hgd fun _ hK => ?_
  obtain ⟨v', w', hr, h2, h3, h4⟩ := run_append_Q (P := P) w (ty := o.type) ht hi0 hz0 hz1 hz2 hzs hs0 (HS.all i _ hi) ad m c news hl hm hnews h1 h63 hb8
  have hs2 := HS.step hi (r' := queueR e sz v' (n + m) (xs ++ news)) h3 h2 h4
  unfold Oper.wp execOp
  simp only [ho, resolve, invoke, builtin, Sem.run_bind, Sem.run_pure, Result.andThen_ok, List.map_toArray, List.map_cons, List.map_nil, hs, hx, hr]
  exact hK _ _ (h v' w' hs2)
end
end Go.Proofs.Ytbdomdmnjclpdaa
