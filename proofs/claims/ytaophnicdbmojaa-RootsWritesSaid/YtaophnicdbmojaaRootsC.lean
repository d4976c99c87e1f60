/-
  Package roots: Write by a function that counts.
-/
import Derived.Test.YtaophnicdbmojaaMerge
import Derived.Test.YtaophnicdbmojaaRootsS
set_option linter.unusedSimpArgs false
set_option linter.unusedVariables false
set_option maxRecDepth 100000
namespace Go.Proofs.Ytaophnicdbmojaa
open Go.RowKit Go.Shelf

/-- How many words are other ones. -/
def cnt (t : St) (na : Nat) (ws : List Int) : Nat → Nat
  | 0 => 0
  | i + 1 => cnt t na ws i + (if t.nw (na + i) = ws.getD i 0 then 0 else 1)
theorem cnt_le (t : St) (na : Nat) (ws : List Int) : ∀ i, cnt t na ws i ≤ i
  | 0 => Nat.le_refl _
  | i + 1 => by
    have := cnt_le t na ws i
    simp only [cnt]
    split <;> omega
theorem cnt_one {t : St} {na : Nat} {ws : List Int} (m : Nat) : ∀ n, (∀ j, j < n → j ≠ m → t.nw (na + j) = ws.getD j 0) → cnt t na ws n = if m < n ∧ t.nw (na + m) ≠ ws.getD m 0 then 1 else 0
  | 0, _ => by simp [cnt]
  | n + 1, h => by
    have ih := cnt_one m n fun j hj => h j (by omega)
    simp only [cnt, ih]
    by_cases hm : n = m
    · subst hm
      rw [if_neg (by omega)]
      by_cases he : t.nw (na + n) = ws.getD n 0
      · rw [if_pos he, if_neg (fun h => h.2 he)]
      · rw [if_neg he, if_pos ⟨by omega, he⟩]
    · rw [if_pos (h n (by omega) hm)]
      by_cases hc : m < n ∧ t.nw (na + m) ≠ ws.getD m 0
      · rw [if_pos hc, if_pos ⟨by omega, hc.2⟩]
      · rw [if_neg hc, if_neg (fun h => hc ⟨by omega, h.2⟩)]

set_option maxHeartbeats 400000 in
theorem count_one (g n : Nat) (x y : Int) (w : World) (hb : Blk w g 3 #[.int .i64 (n : Int)]) (hn : n ≤ 100000) :
    Calls Try.prog 27 (#[] ++ (#[.int .i64 x, .int .u64 y] ++ #[.pointer (some ⟨g, 0, none⟩)])) w fun e w' => e = .returned (.int .i64 0) ∧ w' = w.setCell ⟨g, 0, none⟩ (.int .i64 ((n + 1 : Nat) : Int)) := by
  have c0 := hb.cell 0
  have z0 := hb.frozen 0
  simp at c0
  have hn2 : (n : Int) ≤ 100000 := by omega
  clear hb
  simp only [List.append_toArray, List.cons_append, List.nil_append]
  go_enter Try.func27, Try.ntmps27
  go_wp2
  go_ret
  simp

theorem takes_count {d : DevI} {k : Kfg} {t : St} {ws : List Int} {g : Nat} (hk : k.Ok) (hn : ws.length ≤ 1000) :
    Takes 27 #[] #[.pointer (some ⟨g, 0, none⟩)] d k.act ws (fun i r => r = andR (devR d t) (blkR g 3 #[.int .i64 (cnt t k.act ws i : Int)])) (fun _ _ => False) := by
  refine ⟨enters_of Try.func27 (by kernel_rfl) rfl, ?_⟩
  rintro i hi r rfl
  refine ⟨t.nw (k.act + i), fun w hd => load_nat d t (k.act + i) w hd.1, fun hx => ?_, fun hx w hd => ?_⟩
  · have : cnt t k.act ws (i + 1) = cnt t k.act ws i := by simp only [cnt]; rw [if_pos hx]; rfl
    rw [this]
  · obtain ⟨h1, h2, h3⟩ := hd
    have hc : cnt t k.act ws (i + 1) = cnt t k.act ws i + 1 := by simp only [cnt]; rw [if_neg hx]
    refine (count_one g (cnt t k.act ws i) _ _ w h2 (by have := cnt_le t k.act ws i; omega)).mono ?_
    rintro e w' ⟨rfl, rfl⟩
    have hkk : Keep w.heap.size [g] w (w.setCell ⟨g, 0, none⟩ (.int .i64 ((cnt t k.act ws i + 1 : Nat) : Int))) := (Keep.refl _ _ _).setCell (by simp) _
    refine ⟨0, andR (devR d t) (blkR g 3 #[.int .i64 (cnt t k.act ws (i + 1) : Int)]), rfl, hkk.sub (fun k _ hk => by simp at hk; subst hk; simp [andR, blkR]), ?_, fun _ h => .inl h, .inl ⟨rfl, rfl⟩⟩
    refine ⟨Dev.keep h1 hkk fun k hk => ⟨Dev.lt h1 k hk, fun hm => h3 k hk (by simpa [blkR] using hm)⟩, ?_, h3⟩
    have := Blk.set_ h2 0 (.int .i64 ((cnt t k.act ws i + 1 : Nat) : Int))
    rw [hc]
    exact this

section
variable {W w : World} {S : List Nat} {L : List Res}
/-- A new block beside a thing, as one thing. -/
theorem Sep.andNew {r : Res} (h : Sep W S L w) {i : Nat} (hi : L[i]? = some r) (ty : TypeId) (cs : Array Value) : Sep W S (L.set i (andR r (blkR w.heap.size ty cs))) (w.alloc (.cells cs ty)) := by
  have hr := h.all i r hi
  have hk : Keep w.heap.size [] w (w.alloc (.cells cs ty)) := (Keep.refl _ _ _).alloc (Nat.le_refl _) _
  refine h.step hi (hk.sub (by simp)) (r' := andR r (blkR w.heap.size ty cs)) ⟨r.same w _ hr fun k hkk => hk.block k (r.lt w hr k hkk) (by simp), Blk.new _ _ _, fun k hkk hm => ?_⟩ (fun k hkk => ?_)
  · have := r.lt w hr k hkk
    simp [blkR] at hm
    omega
  · simp only [andR, blkR, List.mem_append, List.mem_singleton] at hkk
    rcases hkk with h | h
    · exact .inl h
    · exact .inr (by omega)
end
end Go.Proofs.Ytaophnicdbmojaa
