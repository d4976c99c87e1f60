/-
  slices.Equal of words.
-/
import Derived.Test.YtaophnicdbmojaaNvm2
set_option maxRecDepth 100000
namespace Go.Proofs.Ytaophnicdbmojaa
open Go.RowKit Go.Shelf

theorem Rd.cellAt {w : World} {v : Value} {xs : List Int} (h : Rd w v (uw xs)) : ∃ A c, v = .slice A xs.length c ∧ ∀ k, k < xs.length → ∃ g off, A = some ⟨g, off, none⟩ ∧ w.cell? ⟨g, off + k, none⟩ = some (.int .u64 (xs.getD k 0)) := by
  obtain ⟨A, c, rfl, h⟩ := h
  rw [show (uw xs).length = xs.length by simp [uw]] at *
  refine ⟨A, c, rfl, fun k hk => ?_⟩
  obtain ⟨g, off, hA, h⟩ := h (by omega)
  refine ⟨g, off, hA, h k _ ?_⟩
  simp [uw, hk]

theorem eq_of_getD {xs ys : List Int} (hl : xs.length = ys.length) (h : ∀ j, j < xs.length → xs.getD j 0 = ys.getD j 0) : xs = ys := by
  apply List.ext_getElem hl
  intro i h1 h2
  have := h i h1
  simpa [h1, h2] using this

set_option maxHeartbeats 1000000 in
theorem equal_any (a b : Value) (xs ys : List Int) (w : World) (ha : Rd w a (uw xs)) (hb : Rd w b (uw ys)) (hl : xs.length ≤ 1099511627776) :
    Calls Try.prog 30 #[a, b] w fun e w' => e = .returned (.bool (decide (xs = ys))) ∧ Keep w.heap.size [] w w' := by
  obtain ⟨A, c, rfl, hca⟩ := ha.cellAt
  obtain ⟨B, d, rfl, hcb⟩ := hb.cellAt
  clear ha hb
  have hlI : (xs.length : Int) ≤ 1099511627776 := by omega
  by_cases hlen : xs.length = ys.length
  · rw [← hlen]
    have HCA := Lib.hid hca
    have HCB := Lib.hid hcb
    have HL := Lib.hid hlen
    clear hca hcb hlen
    go_enter Try.func30, Try.ntmps30
    go_wp2_with fail
    go_loopw [13] (fun v wr => ∃ i : Nat, i ≤ xs.length ∧ v = .int .i64 i ∧ Keep w.heap.size [] w wr ∧ ∀ j, j < i → xs.getD j 0 = ys.getD j 0) (fun v _ => xs.length - (intOf v).toNat)
    case atStart => exact ⟨0, Nat.zero_le _, rfl, Keep.refl _ _ _, fun j hj => absurd hj (Nat.not_lt_zero _)⟩
    case round =>
      obtain ⟨i, hi, rfl, hkr, heq⟩ := hrel
      have HKR := Lib.hid hkr
      have HEQ := Lib.hid heq
      clear heq
      by_cases hlt : i < xs.length
      · obtain ⟨g, off, rfl, hx⟩ := HCA.out i hlt
        obtain ⟨g', off', rfl, hy⟩ := HCB.out i (by rw [← HL.out]; exact hlt)
        obtain ⟨x, hxx⟩ : ∃ x, xs.getD i 0 = x := ⟨_, rfl⟩
        obtain ⟨y, hyy⟩ : ∃ y, ys.getD i 0 = y := ⟨_, rfl⟩
        rw [hxx] at hx
        rw [hyy] at hy
        have hx : wr.cell? ⟨g, off + i, none⟩ = some (.int .u64 x) := (World.cell?_of_block (hkr.block g (World.block_lt_of_cell? w _ hx) (by simp))).trans hx
        have hy : wr.cell? ⟨g', off' + i, none⟩ = some (.int .u64 y) := (World.cell?_of_block (hkr.block g' (World.block_lt_of_cell? w _ hy) (by simp))).trans hy
        clear hkr
        have HXX := Lib.hid hxx
        have HYY := Lib.hid hyy
        clear hxx hyy
        by_cases hxy : x = y
        · subst hxy
          go_wp2_with fail
          go_quiet (fail)
          go_wp2
          refine ⟨⟨i + 1, by omega, by go_num, HKR.out.drewN _, fun j hj => ?_⟩, by simp [intOf]; omega⟩
          rcases Nat.lt_or_ge j i with h | h
          · exact HEQ.out j h
          · obtain rfl : j = i := by omega
            rw [HXX.out, HYY.out]
        · go_wp2_with fail
          go_quiet (fail)
          go_wp2
          go_ret
          refine ⟨?_, HKR.out.drewN _⟩
          have : xs ≠ ys := by
            rintro rfl
            exact hxy (HXX.out.symm.trans HYY.out)
          simp [this]
      · obtain rfl : i = xs.length := by omega
        go_wp2
        go_ret
        refine ⟨?_, HKR.out⟩
        simp [eq_of_getD HL.out HEQ.out]
  · have hne : xs ≠ ys := by rintro rfl; exact hlen rfl
    have hlen' : ((xs.length : Int) = ys.length) = False := by simp; omega
    rw [show decide (xs = ys) = false by simp [hne]]
    clear hca hcb hne
    go_enter Try.func30, Try.ntmps30
    go_wp2
    go_ret
    exact ⟨rfl, Keep.refl _ _ _⟩
end Go.Proofs.Ytaophnicdbmojaa
