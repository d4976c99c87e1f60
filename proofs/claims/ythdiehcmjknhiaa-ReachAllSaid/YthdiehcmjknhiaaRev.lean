/-
  slices.Reverse of words.
-/
import Derived.Test.YthdiehcmjknhiaaRelS
import Derived.Test.YthdiehcmjknhiaaMerge
import Derived.Test.YthdiehcmjknhiaaHead
import Derived.WalkMore
import Derived.Deep.CutRange
set_option linter.unusedSimpArgs false
set_option linter.unusedVariables false
set_option maxRecDepth 100000
namespace Go.Proofs.Ythdiehcmjknhiaa
open Go.RowKit Go.Shelf

theorem uw_setR (xs : List Int) (ex : List Value) (q : Nat) (v : Int) (hq : q < xs.length) : (uw xs ++ ex).toArray.setIfInBounds q (.int .u64 v) = (uw (xs.set q v) ++ ex).toArray := by
  simp [uw, List.set_append, hq, List.map_set]
theorem uw_getR (xs : List Int) (ex : List Value) (q : Nat) (hq : q < xs.length) : (uw xs ++ ex).toArray[q]? = some (.int .u64 (xs.getD q 0)) := by
  simp [uw, List.getElem?_append, hq]
/-- Behind i exchanges. -/
def swA (xs : List Int) (i q : Nat) : Int := if q < i ∨ xs.length - i ≤ q then xs.getD (xs.length - 1 - q) 0 else xs.getD q 0
def swL (xs : List Int) (i : Nat) : List Int := (List.range xs.length).map (swA xs i)
theorem swL_length (xs : List Int) (i : Nat) : (swL xs i).length = xs.length := by simp [swL]
theorem swL_get {xs : List Int} {i q : Nat} (hq : q < xs.length) : (swL xs i)[q]? = some (swA xs i q) := by simp [swL, hq]
theorem swL_getD {xs : List Int} {i q : Nat} (hq : q < xs.length) : (swL xs i).getD q 0 = swA xs i q := by rw [List.getD_eq_getElem?_getD, swL_get hq]; rfl
theorem swL_start (xs : List Int) : swL xs 0 = xs := by
  refine List.ext_getElem? fun q => ?_
  rcases Nat.lt_or_ge q xs.length with h | h
  · rw [swL_get h]
    unfold swA
    rw [if_neg (by omega), List.getD_eq_getElem?_getD, List.getElem?_eq_getElem h]
    rfl
  · rw [List.getElem?_eq_none (by rw [swL_length]; exact h), List.getElem?_eq_none h]
theorem swL_next {xs : List Int} {i : Nat} (h : 2 * i + 1 < xs.length) : ((swL xs i).set i (xs.getD (xs.length - 1 - i) 0)).set (xs.length - 1 - i) (xs.getD i 0) = swL xs (i + 1) := by
  refine List.ext_getElem? fun q => ?_
  rcases Nat.lt_or_ge q xs.length with hq | hq
  · rw [swL_get hq]
    by_cases h1 : q = xs.length - 1 - i
    · subst h1
      rw [List.getElem?_set_self (by rw [List.length_set, swL_length]; omega)]
      unfold swA
      rw [if_pos (by omega)]
      rw [show xs.length - 1 - (xs.length - 1 - i) = i by omega]
    · rw [List.getElem?_set_ne (fun h => h1 h.symm)]
      by_cases h2 : q = i
      · subst h2
        rw [List.getElem?_set_self (by rw [swL_length]; omega)]
        unfold swA
        rw [if_pos (by omega)]
      · rw [List.getElem?_set_ne (fun h => h2 h.symm), swL_get hq]
        unfold swA
        by_cases h3 : q < i ∨ xs.length - i ≤ q
        · rw [if_pos h3, if_pos (by omega)]
        · rw [if_neg h3, if_neg (by omega)]
  · rw [List.getElem?_eq_none (by simp [swL_length]; exact hq), List.getElem?_eq_none (by rw [swL_length]; exact hq)]
theorem swL_end {xs : List Int} {i : Nat} (h : xs.length ≤ 2 * i + 1) : swL xs i = xs.reverse := by
  refine List.ext_getElem? fun q => ?_
  rcases Nat.lt_or_ge q xs.length with hq | hq
  · rw [swL_get hq, List.getElem?_reverse hq]
    have e : xs[xs.length - 1 - q]? = some (xs.getD (xs.length - 1 - q) 0) := by
      rw [List.getD_eq_getElem?_getD, List.getElem?_eq_getElem (by omega)]
      rfl
    rw [e]
    unfold swA
    by_cases h3 : q < i ∨ xs.length - i ≤ q
    · rw [if_pos h3]
    · rw [if_neg h3, show xs.length - 1 - q = q by omega]
  · rw [List.getElem?_eq_none (by rw [swL_length]; exact hq), List.getElem?_eq_none (by simp; exact hq)]

set_option maxRecDepth 100000 in
set_option maxHeartbeats 8000000 in
theorem reverse_any (g c n : Nat) (xs : List Int) (ex : List Value) (w : World) (hb : Blk w g 26 (uw xs ++ ex).toArray) (hn : xs.length = n) (hl : n ≤ 100000) :
    Calls Try.prog 40 #[.slice (some ⟨g, 0, none⟩) n c] w fun e w' => (∃ r, e = .returned r) ∧ Blk w' g 26 (uw xs.reverse ++ ex).toArray ∧ Keep w.heap.size [g] w w' := by
  have HS := Lib.hid (Sep.one (r := blkR g 26 (uw xs ++ ex).toArray) hb)
  clear hb
  have HN := Lib.hid hn
  have hw0 : IntKind.i64.wrap ((n : Int) - 1) = (n : Int) - 1 := IntWalk.i64_in _ (by omega)
  go_enter Try.func40, Try.ntmps40
  go_wp2_with fail
  go_loopw [2, 3] (fun v2 v3 wr => ∃ (i : Nat), 2 * i ≤ n + 1 ∧ v2 = .int .i64 (i : Int) ∧ v3 = .int .i64 ((n : Int) - 1 - (i : Int)) ∧ Sep w [g] [blkR g 26 (uw (swL xs i) ++ ex).toArray] wr) (fun v2 _ _ => n - (intOf v2).toNat)
  case atStart => exact ⟨0, by omega, rfl, by simp, by rw [swL_start]; exact HS.out⟩
  case round =>
    clear HS
    obtain ⟨i, hi, rfl, rfl, hs⟩ := hrel
    have HS := Lib.hid hs
    clear hs
    by_cases hlt : 2 * i + 1 < n
    · obtain ⟨j9, hj⟩ : ∃ j9, n - 1 - i = j9 := ⟨_, rfl⟩
      have hjI : (n : Int) - 1 - (i : Int) = (j9 : Int) := by omega
      rw [hjI]
      have hij : (i : Int) < (j9 : Int) := by omega
      have hjn : (j9 : Int) < (n : Int) := by omega
      have hin : (i : Int) < (n : Int) := by omega
      have hw1 : IntKind.i64.wrap ((i : Int) + 1) = (i : Int) + 1 := IntWalk.i64_in _ (by omega)
      have hw2 : IntKind.i64.wrap ((j9 : Int) - 1) = (j9 : Int) - 1 := IntWalk.i64_in _ (by omega)
      obtain ⟨x, hx⟩ : ∃ x, xs.getD i 0 = x := ⟨_, rfl⟩
      obtain ⟨y, hy⟩ : ∃ y, xs.getD j9 0 = y := ⟨_, rfl⟩
      have hsx : (swL xs i).getD i 0 = x := by rw [swL_getD (by omega)]; unfold swA; rw [if_neg (by omega), hx]
      have hsy : (swL xs i).getD j9 0 = y := by rw [swL_getD (by omega)]; unfold swA; rw [if_neg (by omega), hy]
      have hnx := swL_next (xs := xs) (i := i) (by omega)
      rw [hn, hj, hx, hy] at hnx
      have hcx : (uw (swL xs i) ++ ex).toArray[i]? = some (.int .u64 x) := by rw [uw_getR _ _ _ (by rw [swL_length]; omega), hsx]
      have hcy : (uw (swL xs i) ++ ex).toArray[j9]? = some (.int .u64 y) := by rw [uw_getR _ _ _ (by rw [swL_length]; omega), hsy]
      have hA2 : ((uw (swL xs i) ++ ex).toArray.setIfInBounds i (.int .u64 y)).setIfInBounds j9 (.int .u64 x) = (uw (swL xs (i + 1)) ++ ex).toArray := by
        rw [uw_setR _ _ _ _ (by rw [swL_length]; omega), uw_setR _ _ _ _ (by rw [List.length_set, swL_length]; omega), hnx]
      obtain ⟨A0, hA0⟩ : ∃ A0, (uw (swL xs i) ++ ex).toArray = A0 := ⟨_, rfl⟩
      rw [hA0] at HS hcx hcy hA2
      have HJI := Lib.hid hjI
      have HCX := Lib.hid hcx
      have HCY := Lib.hid hcy
      have HA2 := Lib.hid hA2
      have hcj : (A0.setIfInBounds i (.int .u64 y))[j9]? = some (.int .u64 y) := by rw [Array.getElem?_setIfInBounds_ne (by omega)]; exact hcy
      have HCJ := Lib.hid hcj
      have hijn : ¬ (i : Int) = (j9 : Int) := by omega
      clear hn hj hjI hx hy hsx hsy hnx hcx hcy hA2 hA0 hcj
      go_upto_region 3 with fail
      refine wp_region_st3 (W := w) (S := [g]) (by kernel_rfl) (by kernel_rfl) (by kernel_rfl) (fun D uu => [blkR g 26 (bif D 15 then (A0.setIfInBounds i (.int .u64 y)).setIfInBounds j9 (.int .u64 x) else bif D 13 then A0.setIfInBounds i (.int .u64 y) else A0)])
        (fun j v => match j with
          | 0 => v = .slice (some ⟨g, 0, none⟩) n c
          | 1 => v = .int .i64 (i : Int)
          | 2 => v = .slice (some ⟨g, 0, none⟩) n c
          | 3 => v = .int .i64 (j9 : Int)
          | 4 => v = .slice (some ⟨g, 0, none⟩) n c
          | 5 => v = .int .i64 (j9 : Int)
          | 6 => v = .pointer (some ⟨g, j9, none⟩)
          | 7 => v = .int .u64 y
          | 8 => v = .slice (some ⟨g, 0, none⟩) n c
          | 9 => v = .int .i64 (i : Int)
          | 10 => v = .pointer (some ⟨g, i, none⟩)
          | 11 => v = .int .u64 x
          | 12 => v = .pointer (some ⟨g, i, none⟩)
          | 14 => v = .pointer (some ⟨g, j9, none⟩)
          | _ => True) ?start ?step ?fin
      case start => exact fun u => HS.out
      case step =>
        clear HS
        refine ⟨?_, ?_, ?_, ?_, ?_, ?_, ?_, ?_, ?_, ?_, ?_, ?_, ?_, ?_, ?_, ?_, trivial⟩
        · intro D uu w' K hD hF hl hS hK
          simp only [puts, Act.put, List.setIfInBounds_toArray, List.set_cons_succ, List.set_cons_zero, Nat.zero_add, Nat.reduceAdd]
          go_simp
          simp only [yUpon]
          exact hK _ _ rfl hS
        · intro D uu w' K hD hF hl hS hK
          simp only [puts, Act.put, List.setIfInBounds_toArray, List.set_cons_succ, List.set_cons_zero, Nat.zero_add, Nat.reduceAdd]
          go_simp
          simp only [yUpon]
          exact hK _ _ rfl hS
        · intro D uu w' K hD hF hl hS hK
          simp only [puts, Act.put, List.setIfInBounds_toArray, List.set_cons_succ, List.set_cons_zero, Nat.zero_add, Nat.reduceAdd]
          go_simp
          simp only [yUpon]
          exact hK _ _ rfl hS
        · intro D uu w' K hD hF hl hS hK
          simp only [puts, Act.put, List.setIfInBounds_toArray, List.set_cons_succ, List.set_cons_zero, Nat.zero_add, Nat.reduceAdd]
          go_simp
          simp only [yUpon]
          exact hK _ _ rfl hS
        · intro D uu w' K hD hF hl hS hK
          simp only [puts, Act.put, List.setIfInBounds_toArray, List.set_cons_succ, List.set_cons_zero, Nat.zero_add, Nat.reduceAdd]
          go_simp
          simp only [yUpon]
          exact hK _ _ rfl hS
        · intro D uu w' K hD hF hl hS hK
          simp only [puts, Act.put, List.setIfInBounds_toArray, List.set_cons_succ, List.set_cons_zero, Nat.zero_add, Nat.reduceAdd]
          go_simp
          simp only [yUpon]
          exact hK _ _ rfl hS
        · intro D uu w' K hD hF hl hS hK
          have f4 := (hF 4 (by kernel_rfl)).2
          simp only at f4
          have f5 := (hF 5 (by kernel_rfl)).2
          simp only at f5
          simp only [puts, Act.put, List.setIfInBounds_toArray, List.set_cons_succ, List.set_cons_zero, Nat.zero_add, Nat.reduceAdd]
          simp only [f4, f5]
          go_simp
          simp only [yUpon]
          exact hK _ _ rfl hS
        · intro D uu w' K hD hF hl hS hK
          have f6 := (hF 6 (by kernel_rfl)).2
          simp only at f6
          simp only [puts, Act.put, List.setIfInBounds_toArray, List.set_cons_succ, List.set_cons_zero, Nat.zero_add, Nat.reduceAdd]
          simp only [f6]
          have h13 := hl 13 (by kernel_rfl)
          have h15 := hl 15 (by kernel_rfl)
          have hS1 := hS
          simp only [h13, h15, cond_false] at hS1
          have x0 := (hS1.blk 0 rfl).cell j9
          rw [HCY.out] at x0
          clear hS1
          go_simp
          simp only [yUpon]
          exact hK _ _ rfl hS
        · intro D uu w' K hD hF hl hS hK
          simp only [puts, Act.put, List.setIfInBounds_toArray, List.set_cons_succ, List.set_cons_zero, Nat.zero_add, Nat.reduceAdd]
          go_simp
          simp only [yUpon]
          exact hK _ _ rfl hS
        · intro D uu w' K hD hF hl hS hK
          simp only [puts, Act.put, List.setIfInBounds_toArray, List.set_cons_succ, List.set_cons_zero, Nat.zero_add, Nat.reduceAdd]
          go_simp
          simp only [yUpon]
          exact hK _ _ rfl hS
        · intro D uu w' K hD hF hl hS hK
          have f8 := (hF 8 (by kernel_rfl)).2
          simp only at f8
          have f9 := (hF 9 (by kernel_rfl)).2
          simp only at f9
          simp only [puts, Act.put, List.setIfInBounds_toArray, List.set_cons_succ, List.set_cons_zero, Nat.zero_add, Nat.reduceAdd]
          simp only [f8, f9]
          go_simp
          simp only [yUpon]
          exact hK _ _ rfl hS
        · intro D uu w' K hD hF hl hS hK
          have f10 := (hF 10 (by kernel_rfl)).2
          simp only at f10
          simp only [puts, Act.put, List.setIfInBounds_toArray, List.set_cons_succ, List.set_cons_zero, Nat.zero_add, Nat.reduceAdd]
          simp only [f10]
          have h13 := hl 13 (by kernel_rfl)
          have h15 := hl 15 (by kernel_rfl)
          have hS1 := hS
          simp only [h13, h15, cond_false] at hS1
          have x0 := (hS1.blk 0 rfl).cell i
          rw [HCX.out] at x0
          clear hS1
          go_simp
          simp only [yUpon]
          exact hK _ _ rfl hS
        · intro D uu w' K hD hF hl hS hK
          have f0 := (hF 0 (by kernel_rfl)).2
          simp only at f0
          have f1 := (hF 1 (by kernel_rfl)).2
          simp only at f1
          simp only [puts, Act.put, List.setIfInBounds_toArray, List.set_cons_succ, List.set_cons_zero, Nat.zero_add, Nat.reduceAdd]
          simp only [f0, f1]
          go_simp
          simp only [yUpon]
          exact hK _ _ rfl hS
        · intro D uu w' K hD hF hl hS hK
          have f7 := (hF 7 (by kernel_rfl)).2
          simp only at f7
          have f12 := (hF 12 (by kernel_rfl)).2
          simp only at f12
          simp only [puts, Act.put, List.setIfInBounds_toArray, List.set_cons_succ, List.set_cons_zero, Nat.zero_add, Nat.reduceAdd]
          simp only [f7, f12]
          have h15 := hl 15 (by kernel_rfl)
          simp only [hD, h15, cond_false] at hS
          have x0 := (hS.blk 0 rfl).cell i
          rw [HCX.out] at x0
          have z0 := (hS.blk 0 rfl).frozen i
          have hput := hS.put (i := 0) rfl i (.int .u64 y)
          have e1 : (fset D 13 true) 13 = true := rfl
          have e2 : (fset D 13 true) 15 = false := h15
          go_simp
          simp only [yUpon]
          refine hK _ _ trivial ?_
          simp only [e1, e2, cond_true, cond_false]
          exact hput
        · intro D uu w' K hD hF hl hS hK
          have f2 := (hF 2 (by kernel_rfl)).2
          simp only at f2
          have f3 := (hF 3 (by kernel_rfl)).2
          simp only at f3
          simp only [puts, Act.put, List.setIfInBounds_toArray, List.set_cons_succ, List.set_cons_zero, Nat.zero_add, Nat.reduceAdd]
          simp only [f2, f3]
          go_simp
          simp only [yUpon]
          exact hK _ _ rfl hS
        · intro D uu w' K hD hF hl hS hK
          have f11 := (hF 11 (by kernel_rfl)).2
          simp only at f11
          have f14 := (hF 14 (by kernel_rfl)).2
          simp only at f14
          simp only [puts, Act.put, List.setIfInBounds_toArray, List.set_cons_succ, List.set_cons_zero, Nat.zero_add, Nat.reduceAdd]
          simp only [f11, f14]
          have d13 := (hF 13 (by kernel_rfl)).1
          simp only [hD, d13, cond_false, cond_true] at hS
          have x0 := (hS.blk 0 rfl).cell j9
          rw [HCJ.out] at x0
          have z0 := (hS.blk 0 rfl).frozen j9
          have hput := hS.put (i := 0) rfl j9 (.int .u64 x)
          have e1 : (fset D 15 true) 15 = true := rfl
          go_simp
          simp only [yUpon]
          refine hK _ _ trivial ?_
          simp only [e1, cond_true]
          exact hput
      case fin =>
        clear HS
        intro D uu wf hall hS
        have f15 := (hall 15 (by simp)).1
        simp only [f15, cond_true] at hS
        have HS := Lib.hid hS
        clear hall hS f15
        simp only [puts, Act.put, List.setIfInBounds_toArray, List.set_cons_succ, List.set_cons_zero, Nat.zero_add, Nat.reduceAdd]
        go_wp2
        exact ⟨⟨i + 1, by omega, by first | rfl | go_num | simp, by have hji := HJI.out; congr 1; omega, by rw [← HA2.out]; exact HS.out⟩, by simp [intOf]; omega⟩
    · have hlt' : ¬ (i : Int) < (n : Int) - 1 - (i : Int) := by omega
      have hend := swL_end (xs := xs) (i := i) (by omega)
      rw [hend] at HS
      clear hend
      go_wp2
      go_end0
      exact ⟨⟨_, rfl⟩, HS.out.blk 0 rfl, HS.out.keep⟩

theorem addrV (g off i : Nat) : (⟨g, off, none⟩ : Addr).add i = ⟨g, off + i, none⟩ := by unfold Addr.add; split <;> simp_all
set_option maxHeartbeats 4000000 in
theorem reverse_nil (w : World) : Calls Try.prog 40 #[.slice none 0 0] w fun e w' => (∃ r, e = .returned r) ∧ w' = w := by
  go_enter Try.func40, Try.ntmps40
  go_wp2_with fail
  go_loopw [2, 3] (fun v2 v3 wr => v2 = .int .i64 0 ∧ v3 = .int .i64 (-1) ∧ wr = w) (fun v2 _ _ => 0)
  case atStart => exact ⟨rfl, rfl, rfl⟩
  case round =>
    obtain ⟨rfl, rfl, rfl⟩ := hrel
    go_wp2
    go_end0
    exact ⟨⟨_, rfl⟩, rfl⟩
/-- Reverse, of a row. -/
theorem reverse_row {W w : World} {S : List Nat} {L : List Res} {v : Value} {xs : List Int} (hs : Sep W S L w) {i : Nat} (hi : L[i]? = some (rowR 26 v (uw xs))) (hl : xs.length ≤ 100000) :
    Calls Try.prog 40 #[v] w fun e w' => (∃ r, e = .returned r) ∧ Sep W S (L.set i (rowR 26 v (uw xs.reverse))) w' := by
  have hrow : w.ownsRow 0 26 1 v (uw xs).length (uw xs) := hs.row i hi
  have hlr : (uw xs.reverse).length = (uw xs).length := by simp [uw]
  rcases hrow.2 with ⟨hv, h0⟩ | ⟨g, cap, cur, hv, hb, hg, hnc, hcm, hcs, htk⟩
  · subst hv
    have hx : xs = [] := List.eq_nil_of_length_eq_zero (by simpa [uw] using h0)
    subst hx
    refine (reverse_nil w).mono ?_
    rintro e w' ⟨h1, rfl⟩
    exact ⟨h1, by have := hs.step hi (r' := rowR 26 (.slice none 0 0) (uw ([] : List Int).reverse)) ((Keep.refl _ _ _)) hrow (fun _ h => .inl h); exact this⟩
  · subst hv
    have hul : (uw xs).length = xs.length := by simp [uw]
    have hcur : cur = (uw xs ++ cur.toList.drop xs.length).toArray := by
      rw [Nat.mul_one, hul] at htk
      rw [← htk, List.take_append_drop]
    have hblk : Blk w g 26 (uw xs ++ cur.toList.drop xs.length).toArray := by
      unfold Blk; rw [← hcur]; exact hg
    refine (reverse_any g cap (uw xs).length xs _ w hblk hul.symm (by omega)).mono ?_
    rintro e w' ⟨h1, h2, h3⟩
    refine ⟨h1, hs.step hi (by simpa [rowR, Value.ownBlock] using h3) (r' := rowR 26 (.slice (some ⟨g, 0, none⟩) (uw xs).length cap) (uw xs.reverse)) ?_ (fun _ h => .inl h)⟩
    show w'.ownsRow 0 26 1 (.slice (some ⟨g, 0, none⟩) (uw xs).length cap) (uw xs.reverse).length (uw xs.reverse)
    rw [hlr]
    refine ⟨by rw [hlr]; simp, .inr ⟨g, cap, _, rfl, Nat.zero_le _, h2, hnc, hcm, ?_, ?_⟩⟩
    · rw [← hcs]
      have := congrArg Array.size hcur
      simp [uw] at this ⊢
      omega
    · simp only [Nat.mul_one]
      rw [← hlr]
      exact List.take_left
set_option maxHeartbeats 4000000 in
theorem clone_nil (w : World) : Calls Try.prog 41 #[.slice none 0 0] w fun e w' => e = .returned (.slice none 0 0) ∧ w' = w := by
  have hnil : ∀ w, (Go.binOp .eql 31 (.slice none 0 0) (.slice none 0 0)).run Try.prog w = .ok (.bool true) w := fun w => by kernel_rfl
  go_enter Try.func41, Try.ntmps41
  go_wp2
  go_ret
  exact ⟨rfl, rfl⟩
set_option maxHeartbeats 4000000 in
/-- Clone, of a row that isn't empty. -/
theorem clone_row {W w : World} {S : List Nat} {L : List Res} {v : Value} {xs : List Int} (hs : Sep W S L w) {i : Nat} (hi : L[i]? = some (rowR 26 v (uw xs))) (hx : 0 < xs.length) (hl : xs.length ≤ 100000) :
    Calls Try.prog 41 #[v] w fun e w' => ∃ v', e = .returned v' ∧ Sep W S (L ++ [rowR 26 v' (uw xs)]) w' := by
  have hrow : w.ownsRow 0 26 1 v (uw xs).length (uw xs) := hs.row i hi
  have hul : (uw xs).length = xs.length := by simp [uw]
  rcases hrow.2 with ⟨hv, h0⟩ | ⟨g, cap, cur, hv, _, hg, _⟩
  · omega
  · subst hv
    have hnil := fun (w : World) => Lib.run_eql_slice_nil (P := Try.prog) w 31 26 (some ⟨g, 0, none⟩) xs.length cap 0 0 underlying_words
    have hi' : L[i]? = some (rowR 26 (.slice (some ⟨g, 0, none⟩) xs.length cap) (uw xs)) := by rw [← hul]; exact hi
    rw [hul]
    have HS := Lib.hid hs
    have HI := Lib.hid hi'
    clear hs hi hi' hrow hg
    go_enter Try.func41, Try.ntmps41
    go_wp2_with (at_builtin; refine of_stop ?_)
    unfold Stop
    clear hnil
    replace HS := Lib.hid (HS.out.add ((Keep.refl _ _ _).alloc (Nat.le_refl _) _) (r := rowR 26 _ _) (ownsRow_new _ 26 [] (by simp)) (by simp [rowR, Value.ownBlock]))
    generalize w.alloc _ = w1 at *
    obtain ⟨gn, hgn⟩ : ∃ gn, w.heap.size = gn := ⟨_, rfl⟩
    rw [hgn] at HS
    simp only [hgn]
    replace HS : Hid (Sep W S (L ++ [rowR 26 (.slice (some ⟨gn, 0, none⟩) 0 0) []]) w1) := HS
    have hlast : (L ++ [rowR 26 (.slice (some ⟨gn, 0, none⟩) 0 0) []])[L.length]? = some (rowR 26 (.slice (some ⟨gn, 0, none⟩) 0 0) []) := by simp
    have hil : i < L.length := (List.getElem?_eq_some_iff.1 HI.out).1
    have hrow2 := HS.out.row i (e := 26) (by rw [List.getElem?_append_left hil]; exact HI.out)
    refine wpList_append HS.out L.length hlast rfl _ _ 31 rfl rfl rfl rfl (by decide) rfl ⟨g, 0, none⟩ xs.length cap (uw xs) rfl hul (by omega) (fun j u hu => hrow2.cells (g := g) rfl j u hu) (by intro u hu; simp [uw] at hu; obtain ⟨x, _, rfl⟩ := hu; rfl) (by simp only [List.length_nil]; omega) ?_
    intro v' w2 hS
    have hS2 : Sep W S (L ++ [rowR 26 v' (uw xs)]) w2 := by simpa [List.set_append] using hS
    replace HS := Lib.hid hS2
    clear hS hS2 hrow2
    go_wp2
    go_ret
    exact ⟨_, rfl, HS.out⟩
end Go.Proofs.Ythdiehcmjknhiaa
