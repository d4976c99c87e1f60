/-
  A slice that grows, as a thing in memory; append.
-/
import Derived.Laws.AppendOwn
import Derived.Deep.DeepAppendRoom
import Derived.Maps.AppendAt
import Derived.Test.YtaophnicdbmojaaSep
import Derived.Test.YtaophnicdbmojaaRel
set_option linter.unusedVariables false
set_option linter.unusedSimpArgs false
set_option maxRecDepth 100000
namespace Go.Proofs.Ytaophnicdbmojaa
open Go.RowKit Go.Shelf

/-- A slice with a block of its own (or none yet), that reads so. -/
def rowR (e : TypeId) (v : Value) (xs : List Value) : Res :=
  ⟨v.ownBlock.toList, fun w => w.ownsRow 0 e 1 v xs.length xs,
   fun w h k hk => (h.lt k (by simpa using hk)).2,
   fun w w' h hs => by
    refine ⟨h.1, ?_⟩
    rcases h.2 with hn | ⟨g, cap, cur, hv, hb, hg, hr⟩
    · exact .inl hn
    · exact .inr ⟨g, cap, cur, hv, hb, (hs g (by rw [hv]; simp [Value.ownBlock])).trans hg, hr⟩⟩

section
variable {W w : World} {S : List Nat} {L : List Res} {e : TypeId} {v : Value} {xs : List Value}
theorem Keep.of_grown {w' : World} (h : w.grownBy w' v.ownBlock) : Keep w.heap.size v.ownBlock.toList w w' :=
  ⟨h.os, h.tape, h.output, h.size, fun k hk hm => h.block k hk fun he => hm (by rw [← he]; simp)⟩
/-- No slice yet. -/
theorem Sep.nilRow (h : Sep W S L w) (e : TypeId) : Sep W S (L ++ [rowR e (.slice none 0 0) []]) w :=
  h.add (Keep.refl _ _ _) (r := rowR e (.slice none 0 0) []) (World.ownsRow_nil w 0 e 1) (by simp [rowR, Value.ownBlock])
theorem Sep.row (h : Sep W S L w) (i : Nat) (hi : L[i]? = some (rowR e v xs)) : w.ownsRow 0 e 1 v xs.length xs := h.all i _ hi
theorem rowR_rd {w : World} (h : w.ownsRow 0 e 1 v xs.length xs) : Rd w v xs := by
  rcases h.2 with ⟨hv, hn⟩ | ⟨g, cap, cur, hv, _, hg, _⟩
  · have hx : xs = [] := List.eq_nil_of_length_eq_zero hn
    subst hx
    exact ⟨none, 0, hv, fun h => absurd h (by simp)⟩
  · subst hv
    refine ⟨some ⟨g, 0, none⟩, cap, rfl, fun _ => ⟨g, 0, rfl, fun j u hu => ?_⟩⟩
    have := h.cells (g := g) rfl j u hu
    rw [show (⟨g, 0, none⟩ : Addr).add j = ⟨g, j, none⟩ by unfold Addr.add; split <;> simp_all] at this
    simpa using this
theorem rowR_val {w : World} (h : w.ownsRow 0 e 1 v xs.length xs) : ∃ A c, v = .slice A xs.length c := by
  rcases h.2 with ⟨hv, hn⟩ | ⟨g, cap, cur, hv, _⟩
  · exact ⟨none, 0, by rw [hv, hn]⟩
  · exact ⟨_, cap, hv⟩

variable {P : Program}
/-- append, run. -/
theorem run_append_row (w : World) {t ty : TypeId} {i : TypeInfo} {z : Value} {bytes : Nat} (ht : P.underlying t = some (.slice e)) (hi : P.info? e = some i) (hz : i.zero = some z) (hsize : i.size = 1) (hby : i.bytes = bytes) (hzs : z.cells.size = 1)
    (hown : w.ownsRow 0 e 1 v xs.length xs) (a : Addr) (m c : Nat) (news : List Value) (hl : news.length = m) (hm : 0 < m) (hnews : ∀ j u, news[j]? = some u → w.cell? (a.add j) = some u) (h1 : ∀ u ∈ news, u.oneCell' = true)
    (h63 : xs.length + m ≤ 1099511627776) (hb8 : bytes ≤ 64) :
    ∃ v' w', (Builtin.append_ #[t, t] ty #[v, .slice (some a) m c]).run P w = .ok v' w' ∧ w'.ownsRow 0 e 1 v' (xs ++ news).length (xs ++ news) ∧ Keep w.heap.size v.ownBlock.toList w w' ∧ (∀ k ∈ v'.ownBlock.toList, k ∈ v.ownBlock.toList ∨ w.heap.size ≤ k) := by
  have hlen : (xs ++ news).length = xs.length + m := by simp [hl]
  have hmax : xs.length + m ≤ maxLen := by simp only [maxLen]; omega
  have hbb : (xs.length + m) * bytes ≤ 140737488355328 := by
    have := Nat.mul_le_mul h63 hb8
    omega
  by_cases hn : v = .slice none 0 0
  · subst hn
    have hx0 : xs.length = 0 := by
      rcases hown.2 with ⟨_, h⟩ | ⟨g, cap, cur, hv, _⟩
      · exact h
      · cases hv
    have hx : xs = [] := List.eq_nil_of_length_eq_zero hx0
    subst hx
    obtain ⟨v', w', hr, h2, h3, _⟩ := run_append_own (P := P) w w.heap.size t ty e i z 1 bytes ht hi hz hsize hby hzs (by omega) (.slice none 0 0) 0 [] (World.ownsRow_nil w _ e 1) a m c news (by simpa using hl) hnews h1 (by simpa using hmax) (by simpa using hbb) (Nat.le_refl _)
    refine ⟨v', w', hr, ?_, Keep.of_grown h3, fun k hk => .inr (h2.lt k (by simpa using hk)).1⟩
    rw [hlen]
    refine ⟨h2.1, ?_⟩
    rcases h2.2 with h | ⟨g, cap, cur, hv, hb, hg, hr⟩
    · exact .inl h
    · exact .inr ⟨g, cap, cur, hv, Nat.zero_le _, hg, hr⟩
  · rcases hown.2 with ⟨hv, _⟩ | ⟨g, cap, cur, hv, hb, hg, hnc, hcm, hcs, htk⟩
    · exact absurd hv hn
    · subst hv
      by_cases hroom : xs.length + m ≤ cap
      · obtain ⟨w', hr, h2, h3⟩ := run_append_own_spare (P := P) w 0 t ty e i 1 ht hi hsize g xs.length cap xs hown a m c news (by simpa using hl) hnews h1 hroom
        rw [hlen]
        exact ⟨_, w', hr, h2, Keep.of_grown (v := .slice (some ⟨g, 0, none⟩) xs.length cap) h3, fun k hk => .inl (by simpa [Value.ownBlock] using hk)⟩
      · have holds : ∀ j u, xs[j]? = some u → w.cell? ((⟨g, 0, none⟩ : Addr).add j) = some u := hown.cells (g := g) rfl
        have hr := run_append_grow (P := P) w t ty e i z ht hi hz ⟨g, 0, none⟩ xs.length cap xs (by rw [hsize]; simp) holds a m c news (by rw [hsize]; simpa using hl) hnews (by omega) (by simp only [maxLen] at hmax; omega) (growslice_fits (by omega) (by rw [hby]; exact hbb))
        have hge := grownCap_ge w (xs.length + m) cap e
        have hcm2 := grownCap_le_maxLen w (xs.length + m) cap e hmax
        refine ⟨_, _, hr, ?_, ?_, fun k hk => .inr (by simp [Value.ownBlock] at hk; omega)⟩
        · rw [hlen]
          refine ⟨by rw [hlen]; simp, .inr ⟨w.heap.size, _, _, rfl, Nat.zero_le _, heap_alloc_new w.drew _, hge, hcm2, ?_, ?_⟩⟩
          · simp only [Array.size_append, List.size_toArray, size_zeroCells, hzs, hl]
            omega
          · simp only [Array.toList_append, List.append_assoc]
            rw [← List.append_assoc, show (xs.length + m) * 1 = (xs ++ news).length by rw [hlen]; simp]
            exact List.take_left
        · exact ⟨rfl, rfl, rfl, by simp, fun k hk _ => Below.heap_alloc w.drew _ k hk⟩
/-- append, as an operation that comes in its order. -/
theorem wpList_append {ops : Array Oper} {rest : List Oper} {o : Oper} {a : Act} {Q : Exit → Act → World → Prop} (HS : Sep W S L w) (i : Nat) (hi : L[i]? = some (rowR e v xs)) (hgd : o.guard = none) (s x : Operand) (t : TypeId)
    (ho : o.op = .call { callee := .builtin .append, args := #[s, x], argTypes := #[t, t] }) {z : Value} {bytes : Nat} (ht : P.underlying t = some (.slice e)) (hinfo : (P.info? e).map (fun i => (i.zero, i.size, i.bytes)) = some (some z, 1, bytes)) (hzs : z.cells.size = 1) (hb8 : bytes ≤ 64)
    (hs : a.eval s = v) (ad : Addr) (m c : Nat) (news : List Value) (hx : a.eval x = .slice (some ad) m c) (hl : news.length = m) (hm : 0 < m) (hnews : ∀ j u, news[j]? = some u → w.cell? (ad.add j) = some u) (h1 : ∀ u ∈ news, u.oneCell' = true)
    (h63 : xs.length + m ≤ 1099511627776)
    (h : ∀ v' w', Sep W S (L.set i (rowR e v' (xs ++ news))) w' → wpList P ops Q rest (a.put o.dst v') w') : wpList P ops Q (o :: rest) a w := by
  obtain ⟨i0, hi0, hz0, hz1, hz2⟩ := info_parts hinfo
  refine wpList_plain hgd fun _ hK => ?_
  obtain ⟨v', w', hr, h2, h3, h4⟩ := run_append_row (P := P) w (ty := o.type) ht hi0 hz0 hz1 hz2 hzs (HS.row i hi) ad m c news hl hm hnews h1 h63 hb8
  have hs2 := HS.step hi (r' := rowR e v' (xs ++ news)) h3 h2 h4
  unfold Oper.wp execOp
  simp only [ho, resolve, invoke, builtin, Sem.run_bind, Sem.run_pure, Result.andThen_ok, List.map_toArray, List.map_cons, List.map_nil, hs, hx, hr]
  exact hK _ _ (h v' w' hs2)
end
end Go.Proofs.Ytaophnicdbmojaa
