/-
  Layer 14, as one text (printed by mk14.py).
-/
import Derived.Test.YtbdomdmnjclpdaaReachP
import Derived.Test.YtbdomdmnjclpdaaRchF
import Derived.Test.YtbdomdmnjclpdaaRelS
import Derived.Test.YtbdomdmnjclpdaaMerge
import Derived.Test.YtbdomdmnjclpdaaHead
import Derived.WalkMore
import Derived.Deep.CutRange
import Derived.Test.YtbdomdmnjclpdaaObj
import Derived.Test.YtbdomdmnjclpdaaRowN
import Derived.Test.YtbdomdmnjclpdaaNames
import Derived.Test.YtbdomdmnjclpdaaAppE
import Derived.Test.YtbdomdmnjclpdaaAwk13
set_option linter.unusedSimpArgs false
set_option linter.unusedVariables false
set_option maxRecDepth 100000
namespace Go.Proofs.Ytbdomdmnjclpdaa
open Go.RowKit Go.Shelf

section
variable {G : Int → Bool} {nm : Int → List Int}
theorem foldl_in : ∀ {l L : List Int}, (∀ x ∈ l, x ∈ L ∨ G x = false) → l.foldl (seeF G) L = L
  | [], L, _ => rfl
  | x :: l, L, h => by
    have e : seeF G L x = L := by
      rcases h x (by simp) with h1 | h1
      · exact seeF_old h1
      · exact seeF_no h1
    show l.foldl (seeF G) (seeF G L x) = L
    rw [e]
    exact foldl_in fun y hy => h y (List.mem_cons_of_mem _ hy)
theorem foldl_new : ∀ {l L : List Int}, (L ++ l).Nodup → (∀ x ∈ l, G x = true) → l.foldl (seeF G) L = L ++ l
  | [], L, _, _ => by simp
  | x :: l, L, hn, h => by
    have hx : x ∉ L := fun hm => by
      rw [List.nodup_append] at hn
      exact hn.2.2 x hm x (by simp) rfl
    show l.foldl (seeF G) (seeF G L x) = L ++ x :: l
    rw [seeF_new hx (h x (by simp)), foldl_new (by simpa using hn) fun y hy => h y (List.mem_cons_of_mem _ hy)]
    simp
theorem foF_all {ws vs : List Int} (hn : ws.Nodup) (hg : ∀ x ∈ ws, G x = true) (hv : ∀ x ∈ vs, x ∈ ws) (hnm : ∀ x ∈ ws, ∀ y ∈ nm x, y ∈ ws ∨ G y = false) : ∀ n, foF G nm (ws ++ vs) n = ws
  | 0 => by
    show (ws ++ vs).foldl (seeF G) [] = ws
    rw [List.foldl_append, foldl_new (by simpa using hn) hg, List.nil_append]
    exact foldl_in fun x hx => .inl (hv x hx)
  | n + 1 => by
    simp only [foF]
    rw [foF_all hn hg hv hnm n]
    split
    · rename_i x hx
      exact foldl_in (hnm x (List.mem_of_getElem? hx))
    · rfl
end
def placesI (os : List Ob) : List Int := os.map fun o => (o.at_ : Int)
theorem placesI_nodup {os : List Ob} {p q : Nat} (h : Chain p os q) : (placesI os).Nodup := by
  have key : ∀ {os : List Ob} {p q : Nat}, Chain p os q → (placesI os).Nodup ∧ ∀ x ∈ placesI os, (p : Int) ≤ x := by
    intro os
    induction os with
    | nil => intro p q _; exact ⟨List.nodup_nil, by simp [placesI]⟩
    | cons o os ih =>
      intro p q h
      obtain ⟨h1, h2⟩ := h
      obtain ⟨h3, h4⟩ := ih h2
      refine ⟨List.nodup_cons.2 ⟨fun hm => ?_, h3⟩, fun x hx => ?_⟩
      · have h5 : ((p + (o.n + 1) : Nat) : Int) ≤ (o.at_ : Int) := h4 _ hm
        omega
      · rcases List.mem_cons.1 hx with rfl | hx
        · show (p : Int) ≤ (o.at_ : Int); omega
        · have := h4 x hx
          omega
  exact (key h).1
theorem sizeF_append (t : St) (A B : List Int) : sizeF t (A ++ B) = sizeF t A + sizeF t B := by simp [sizeF]
theorem sizeF_reverse (t : St) : ∀ (L : List Int), sizeF t L.reverse = sizeF t L
  | [] => rfl
  | x :: L => by
    rw [List.reverse_cons, sizeF_append, sizeF_reverse t L]
    simp [sizeF]
    omega
section
variable {t : St} {k : Kfg} {os : List Ob} {u : Nat}
theorem LinkS.sizeAll {wr : Prop} (h : LinkS t k os u (nameP os wr)) : sizeF t (placesI os) = u := by
  have hh : ∀ o ∈ os, wordsOf t (o.at_ : Int) = o.n := fun o ho => by
    unfold wordsOf
    simp only [Int.toNat_natCast]
    rw [h.head ho]
    simp
  have key : ∀ {os : List Ob} {p q : Nat}, Chain p os q → (∀ o ∈ os, wordsOf t (o.at_ : Int) = o.n) → p + sizeF t (placesI os) = q := by
    intro os
    induction os with
    | nil => intro p q h _; have : p = q := h; simp [sizeF, placesI]; exact this
    | cons o os ih =>
      intro p q h hw
      have h1 := ih h.2 fun o' ho => hw o' (List.mem_cons_of_mem _ ho)
      have h2 := hw o (by simp)
      have e : sizeF t (placesI (o :: os)) = (o.n + 1) + sizeF t (placesI os) := by
        unfold sizeF placesI
        simp only [List.map_cons, List.sum_cons]
        rw [h2]
      rw [e]
      omega
  have := key h.fill.chain hh
  omega
theorem LinkS.names_in (h : LinkS t k os u (nameP os (¬ (0 : Int) = 0))) {o : Ob} (ho : o ∈ os) : ∀ y ∈ nmsOf t (o.at_ : Int), y ∈ placesI os := by
  intro y hy
  unfold nmsOf refsOf at hy
  simp only [Int.toNat_natCast] at hy
  rw [h.head ho] at hy
  simp only [Int.toNat_natCast] at hy
  obtain ⟨⟨i, z⟩, hz, rfl⟩ := List.mem_map.1 hy
  obtain ⟨h1, h2, h3⟩ := namesTo_mem.1 hz
  simp only at h1 h2 h3 ⊢
  have hp := h.names o ho i h1
  rw [← h2] at hp
  rcases hp with hp | ⟨o', ho', hp | ⟨hw, _⟩⟩
  · exact absurd hp h3
  · exact List.mem_map.2 ⟨o', ho', hp.symm⟩
  · exact absurd rfl hw
/-- Named one by one, in whatever order, twice or once: it is they. -/
theorem LinkS.reachAll (h : LinkS t k os u (nameP os (¬ (0 : Int) = 0))) {ws vs : List Int} (hp : ws.Perm (placesI os)) (hv : ∀ x ∈ vs, x ∈ ws) (n : Nat) : reachF (isOb t k 0 u) (nmsOf t) (ws ++ vs) n = ws := by
  have hin : ∀ x ∈ ws, ∃ o ∈ os, x = (o.at_ : Int) := fun x hx => by
    obtain ⟨o, ho, rfl⟩ := List.mem_map.1 (hp.mem_iff.1 hx)
    exact ⟨o, ho, rfl⟩
  refine foF_all (hp.nodup_iff.2 (placesI_nodup h.fill.chain)) (fun x hx => ?_) hv (fun x hx y hy => .inl ?_) n
  · obtain ⟨o, ho, rfl⟩ := hin x hx
    exact h.isOb_at ho
  · obtain ⟨o, ho, rfl⟩ := hin x hx
    exact hp.mem_iff.2 (h.names_in ho y hy)
end
end Go.Proofs.Ytbdomdmnjclpdaa
namespace Go.Proofs.Ytbdomdmnjclpdaa
set_option linter.unusedVariables false
section
variable {G : Int → Bool} {nm : Int → List Int} {ws vs : List Int} {B : Nat}
theorem foldl_mem : ∀ (l : List Int) {L : List Int} {x : Int}, x ∈ l → G x = true → x ∈ l.foldl (seeF G) L
  | y :: l, L, x, h, hg => by
    rcases List.mem_cons.1 h with rfl | h
    · refine (foldl_pre l _).subset ?_
      by_cases hx : x ∈ L
      · rw [seeF_old hx]; exact hx
      · rw [seeF_new hx hg]; simp
    · exact foldl_mem l h hg
theorem foldl_only : ∀ (l : List Int) {L : List Int} {x : Int}, x ∈ l.foldl (seeF G) L → x ∈ L ∨ (x ∈ l ∧ G x = true)
  | [], L, x, h => .inl h
  | y :: l, L, x, h => by
    rcases foldl_only l h with h | ⟨h1, h2⟩
    · unfold seeF at h
      split at h
      · exact .inl h
      · rename_i hc
        rcases List.mem_append.1 h with h | h
        · exact .inl h
        · simp at h
          subst h
          refine .inr ⟨by simp, ?_⟩
          cases hg : G x with
          | true => rfl
          | false => exact absurd (by simp [hg]) hc
    · exact .inr ⟨by simp [h1], h2⟩
theorem reach_min {P : Int → Prop} (h1 : ∀ x ∈ ws, G x = true → P x) (h2 : ∀ x, P x → ∀ y ∈ nm x, G y = true → P y) : ∀ n, ∀ x ∈ foF G nm ws n, P x
  | 0 => fun x hx => by
    rcases foldl_only _ hx with h | ⟨h, hg⟩
    · simp at h
    · exact h1 x h hg
  | n + 1 => fun x hx => by
    simp only [foF] at hx
    split at hx
    · rename_i z hz
      rcases foldl_only _ hx with h | ⟨h, hg⟩
      · exact reach_min h1 h2 n x h
      · exact h2 z (reach_min h1 h2 n z (List.mem_of_getElem? hz)) x h hg
    · exact reach_min h1 h2 n x hx
theorem reach_has {x : Int} (hx : x ∈ ws) (hg : G x = true) (n : Nat) : x ∈ foF G nm ws n := by
  have h := (foF_le (G := G) (nm := nm) (ws := ws) 0 n).subset (foldl_mem ws hx hg)
  rwa [Nat.zero_add] at h
theorem reach_closed (hB : ∀ L, Fine G L → L.length ≤ B) {x y : Int} (hx : x ∈ reachF G nm ws B) (hy : y ∈ nm x) (hg : G y = true) : y ∈ reachF G nm ws B := by
  obtain ⟨n, hn, rfl⟩ := List.getElem_of_mem hx
  obtain ⟨z, h1, h2⟩ := foF_at hB hn
  rw [List.getElem?_eq_getElem hn] at h2
  injection h2 with h2
  subst h2
  have h3 : y ∈ foF G nm ws (n + 1) := by
    simp only [foF, h1]
    exact foldl_mem _ hy hg
  exact (foF_reach hB (show n + 1 ≤ _ from hn)).subset h3
theorem reach_join (hB : ∀ L, Fine G L → L.length ≤ B) {x : Int} : x ∈ reachF G nm (ws ++ vs) B ↔ x ∈ reachF G nm ws B ∨ x ∈ reachF G nm vs B := by
  constructor
  · refine reach_min (P := fun x => x ∈ reachF G nm ws B ∨ x ∈ reachF G nm vs B) ?_ ?_ B x
    · intro y hy hg
      rcases List.mem_append.1 hy with h | h
      · exact .inl (reach_has h hg B)
      · exact .inr (reach_has h hg B)
    · rintro z (hz | hz) y hy hg
      · exact .inl (reach_closed hB hz hy hg)
      · exact .inr (reach_closed hB hz hy hg)
  · rintro (h | h)
    · exact reach_min (P := fun x => x ∈ reachF G nm (ws ++ vs) B) (fun y hy hg => reach_has (by simp [hy]) hg B) (fun z hz y hy hg => reach_closed hB hz hy hg) B x h
    · exact reach_min (P := fun x => x ∈ reachF G nm (ws ++ vs) B) (fun y hy hg => reach_has (by simp [hy]) hg B) (fun z hz y hy hg => reach_closed hB hz hy hg) B x h
theorem sizeF_sub {t : St} : ∀ {A L : List Int}, A.Nodup → (∀ x ∈ A, x ∈ L) → sizeF t A ≤ sizeF t L
  | [], L, _, _ => by simp [sizeF]
  | x :: A, L, hn, hs => by
    obtain ⟨L1, L2, rfl⟩ := List.append_of_mem (hs x (by simp))
    rw [List.nodup_cons] at hn
    have ih := sizeF_sub (t := t) (A := A) (L := L1 ++ L2) hn.2 (fun y hy => by
      have h := hs y (by simp [hy])
      simp only [List.mem_append, List.mem_cons] at h ⊢
      rcases h with h | rfl | h
      · exact .inl h
      · exact absurd hy hn.1
      · exact .inr h)
    rw [sizeF_append] at ih ⊢
    simp only [sizeF, List.map_cons, List.sum_cons] at ih ⊢
    omega
end
/-- What is reached fits into what is used. -/
theorem LinkS.reach_size {t : St} {k : Kfg} {os : List Ob} {u : Nat} {wr : Prop} (h : LinkS t k os u (nameP os wr)) (hk : k.Ok) (ws : List Int) (n : Nat) : sizeF t (reachF (isOb t k 0 u) (nmsOf t) ws n) ≤ u := by
  have hf := Fine.fo (G := isOb t k 0 u) (nm := nmsOf t) (ws := ws) n
  have h1 := sizeF_sub (t := t) (L := placesI os) hf.1 (fun x hx => by
    obtain ⟨o, ho, rfl⟩ := (h.isOb_iff' hk).1 (hf.2 x hx)
    exact List.mem_map.2 ⟨o, ho, rfl⟩)
  rw [h.sizeAll] at h1
  exact h1
/-- A name of what is reached is reached. -/
theorem LinkS.reach_names {t : St} {k : Kfg} {os : List Ob} {u : Nat} (h : LinkS t k os u (nameP os (¬ (0 : Int) = 0))) (hk : k.Ok) {ws : List Int} {x y : Int} (hx : x ∈ reachF (isOb t k 0 u) (nmsOf t) ws u) (hy : y ∈ nmsOf t x) : y ∈ reachF (isOb t k 0 u) (nmsOf t) ws u := by
  obtain ⟨o, ho, rfl⟩ := (h.isOb_iff' hk).1 ((Fine.fo (G := isOb t k 0 u) (nm := nmsOf t) (ws := ws) u).2 x hx)
  obtain ⟨o2, ho2, rfl⟩ := List.mem_map.1 (h.names_in ho y hy)
  exact reach_closed Fine.le hx hy (h.isOb_at ho2)
end Go.Proofs.Ytbdomdmnjclpdaa
set_option linter.unusedSimpArgs false
set_option linter.unusedVariables false
set_option maxRecDepth 100000
namespace Go.Proofs.Ytbdomdmnjclpdaa
open Go.RowKit Go.Shelf

theorem uw_setR (xs : List Int) (ex : List Value) (q : Nat) (v : Int) (hq : q < xs.length) : (uw xs ++ ex).toArray.setIfInBounds q (.int .u64 v) = (uw (xs.set q v) ++ ex).toArray := by
  simp [uw, List.set_append, hq, List.map_set]
theorem uw_getR (xs : List Int) (ex : List Value) (q : Nat) (hq : q < xs.length) : (uw xs ++ ex).toArray[q]? = some (.int .u64 (xs.getD q 0)) := by
  simp [uw, List.getElem?_append, hq]
/-- Behind i exchanges. -/
def swA (xs : List Int) (i q : Nat) : Int := if q < i ∨ xs.length - i ≤ q then xs.getD (xs.length - 1 - q) 0 else xs.getD q 0
def swL (xs : List Int) (i : Nat) : List Int := (List.range xs.length).map (swA xs i)
theorem swL_length (xs : List Int) (i : Nat) : (swL xs i).length = xs.length := by simp [swL]
theorem swL_get {xs : List Int} {i q : Nat} (hq : q < xs.length) : (swL xs i)[q]? = some (swA xs i q) := by simp [swL, hq]
theorem swL_getD {xs : List Int} {i q : Nat} (hq : q < xs.length) : (swL xs i).getD q 0 = swA xs i q := by rw [List.getD_eq_getElem?_getD, swL_get hq]; rfl
theorem swL_start (xs : List Int) : swL xs 0 = xs := by
  refine List.ext_getElem? fun q => ?_
  rcases Nat.lt_or_ge q xs.length with h | h
  · rw [swL_get h]
    unfold swA
    rw [if_neg (by omega), List.getD_eq_getElem?_getD, List.getElem?_eq_getElem h]
    rfl
  · rw [List.getElem?_eq_none (by rw [swL_length]; exact h), List.getElem?_eq_none h]
theorem swL_next {xs : List Int} {i : Nat} (h : 2 * i + 1 < xs.length) : ((swL xs i).set i (xs.getD (xs.length - 1 - i) 0)).set (xs.length - 1 - i) (xs.getD i 0) = swL xs (i + 1) := by
  refine List.ext_getElem? fun q => ?_
  rcases Nat.lt_or_ge q xs.length with hq | hq
  · rw [swL_get hq]
    by_cases h1 : q = xs.length - 1 - i
    · subst h1
      rw [List.getElem?_set_self (by rw [List.length_set, swL_length]; omega)]
      unfold swA
      rw [if_pos (by omega)]
      rw [show xs.length - 1 - (xs.length - 1 - i) = i by omega]
    · rw [List.getElem?_set_ne (fun h => h1 h.symm)]
      by_cases h2 : q = i
      · subst h2
        rw [List.getElem?_set_self (by rw [swL_length]; omega)]
        unfold swA
        rw [if_pos (by omega)]
      · rw [List.getElem?_set_ne (fun h => h2 h.symm), swL_get hq]
        unfold swA
        by_cases h3 : q < i ∨ xs.length - i ≤ q
        · rw [if_pos h3, if_pos (by omega)]
        · rw [if_neg h3, if_neg (by omega)]
  · rw [List.getElem?_eq_none (by simp [swL_length]; exact hq), List.getElem?_eq_none (by rw [swL_length]; exact hq)]
theorem swL_end {xs : List Int} {i : Nat} (h : xs.length ≤ 2 * i + 1) : swL xs i = xs.reverse := by
  refine List.ext_getElem? fun q => ?_
  rcases Nat.lt_or_ge q xs.length with hq | hq
  · rw [swL_get hq, List.getElem?_reverse hq]
    have e : xs[xs.length - 1 - q]? = some (xs.getD (xs.length - 1 - q) 0) := by
      rw [List.getD_eq_getElem?_getD, List.getElem?_eq_getElem (by omega)]
      rfl
    rw [e]
    unfold swA
    by_cases h3 : q < i ∨ xs.length - i ≤ q
    · rw [if_pos h3]
    · rw [if_neg h3, show xs.length - 1 - q = q by omega]
  · rw [List.getElem?_eq_none (by rw [swL_length]; exact hq), List.getElem?_eq_none (by simp; exact hq)]

set_option maxRecDepth 100000 in
set_option maxHeartbeats 8000000 in
theorem reverse_any (g c n : Nat) (xs : List Int) (ex : List Value) (w : World) (hb : Blk w g 38 (uw xs ++ ex).toArray) (hn : xs.length = n) (hl : n ≤ 100000) :
    Calls Try.prog 17 #[.slice (some ⟨g, 0, none⟩) n c] w fun e w' => (∃ r, e = .returned r) ∧ Blk w' g 38 (uw xs.reverse ++ ex).toArray ∧ Keep w.heap.size [g] w w' := by
  have HS := Lib.hid (Sep.one (r := blkR g 38 (uw xs ++ ex).toArray) hb)
  clear hb
  have HN := Lib.hid hn
  have hw0 : IntKind.i64.wrap ((n : Int) - 1) = (n : Int) - 1 := IntWalk.i64_in _ (by omega)
  go_enter Try.func17, Try.ntmps17
  go_wp2_with fail
  go_loopw [2, 3] (fun v2 v3 wr => ∃ (i : Nat), 2 * i ≤ n + 1 ∧ v2 = .int .i64 (i : Int) ∧ v3 = .int .i64 ((n : Int) - 1 - (i : Int)) ∧ Sep w [g] [blkR g 38 (uw (swL xs i) ++ ex).toArray] wr) (fun v2 _ _ => n - (intOf v2).toNat)
  case atStart => exact ⟨0, by omega, rfl, by simp, by rw [swL_start]; exact HS.out⟩
  case round =>
    clear HS
    obtain ⟨i, hi, rfl, rfl, hs⟩ := hrel
    have HS := Lib.hid hs
    clear hs
    by_cases hlt : 2 * i + 1 < n
    · obtain ⟨j9, hj⟩ : ∃ j9, n - 1 - i = j9 := ⟨_, rfl⟩
      have hjI : (n : Int) - 1 - (i : Int) = (j9 : Int) := by omega
      rw [hjI]
      have hij : (i : Int) < (j9 : Int) := by omega
      have hjn : (j9 : Int) < (n : Int) := by omega
      have hin : (i : Int) < (n : Int) := by omega
      have hw1 : IntKind.i64.wrap ((i : Int) + 1) = (i : Int) + 1 := IntWalk.i64_in _ (by omega)
      have hw2 : IntKind.i64.wrap ((j9 : Int) - 1) = (j9 : Int) - 1 := IntWalk.i64_in _ (by omega)
      obtain ⟨x, hx⟩ : ∃ x, xs.getD i 0 = x := ⟨_, rfl⟩
      obtain ⟨y, hy⟩ : ∃ y, xs.getD j9 0 = y := ⟨_, rfl⟩
      have hsx : (swL xs i).getD i 0 = x := by rw [swL_getD (by omega)]; unfold swA; rw [if_neg (by omega), hx]
      have hsy : (swL xs i).getD j9 0 = y := by rw [swL_getD (by omega)]; unfold swA; rw [if_neg (by omega), hy]
      have hnx := swL_next (xs := xs) (i := i) (by omega)
      rw [hn, hj, hx, hy] at hnx
      have hcx : (uw (swL xs i) ++ ex).toArray[i]? = some (.int .u64 x) := by rw [uw_getR _ _ _ (by rw [swL_length]; omega), hsx]
      have hcy : (uw (swL xs i) ++ ex).toArray[j9]? = some (.int .u64 y) := by rw [uw_getR _ _ _ (by rw [swL_length]; omega), hsy]
      have hA2 : ((uw (swL xs i) ++ ex).toArray.setIfInBounds i (.int .u64 y)).setIfInBounds j9 (.int .u64 x) = (uw (swL xs (i + 1)) ++ ex).toArray := by
        rw [uw_setR _ _ _ _ (by rw [swL_length]; omega), uw_setR _ _ _ _ (by rw [List.length_set, swL_length]; omega), hnx]
      obtain ⟨A0, hA0⟩ : ∃ A0, (uw (swL xs i) ++ ex).toArray = A0 := ⟨_, rfl⟩
      rw [hA0] at HS hcx hcy hA2
      have HJI := Lib.hid hjI
      have HCX := Lib.hid hcx
      have HCY := Lib.hid hcy
      have HA2 := Lib.hid hA2
      have hcj : (A0.setIfInBounds i (.int .u64 y))[j9]? = some (.int .u64 y) := by rw [Array.getElem?_setIfInBounds_ne (by omega)]; exact hcy
      have HCJ := Lib.hid hcj
      have hijn : ¬ (i : Int) = (j9 : Int) := by omega
      clear hn hj hjI hx hy hsx hsy hnx hcx hcy hA2 hA0 hcj
      go_upto_region 3 with fail
      refine wp_region_st3 (W := w) (S := [g]) (by kernel_rfl) (by kernel_rfl) (by kernel_rfl) (fun D uu => [blkR g 38 (bif D 15 then (A0.setIfInBounds i (.int .u64 y)).setIfInBounds j9 (.int .u64 x) else bif D 13 then A0.setIfInBounds i (.int .u64 y) else A0)])
        (fun j v => match j with
          | 0 => v = .slice (some ⟨g, 0, none⟩) n c
          | 1 => v = .int .i64 (i : Int)
          | 2 => v = .slice (some ⟨g, 0, none⟩) n c
          | 3 => v = .int .i64 (j9 : Int)
          | 4 => v = .slice (some ⟨g, 0, none⟩) n c
          | 5 => v = .int .i64 (j9 : Int)
          | 6 => v = .pointer (some ⟨g, j9, none⟩)
          | 7 => v = .int .u64 y
          | 8 => v = .slice (some ⟨g, 0, none⟩) n c
          | 9 => v = .int .i64 (i : Int)
          | 10 => v = .pointer (some ⟨g, i, none⟩)
          | 11 => v = .int .u64 x
          | 12 => v = .pointer (some ⟨g, i, none⟩)
          | 14 => v = .pointer (some ⟨g, j9, none⟩)
          | _ => True) ?start ?step ?fin
      case start => exact fun u => HS.out
      case step =>
        clear HS
        refine ⟨?_, ?_, ?_, ?_, ?_, ?_, ?_, ?_, ?_, ?_, ?_, ?_, ?_, ?_, ?_, ?_, trivial⟩
        · intro D uu w' K hD hF hl hS hK
          simp only [puts, Act.put, List.setIfInBounds_toArray, List.set_cons_succ, List.set_cons_zero, Nat.zero_add, Nat.reduceAdd]
          go_simp
          simp only [yUpon]
          exact hK _ _ rfl hS
        · intro D uu w' K hD hF hl hS hK
          simp only [puts, Act.put, List.setIfInBounds_toArray, List.set_cons_succ, List.set_cons_zero, Nat.zero_add, Nat.reduceAdd]
          go_simp
          simp only [yUpon]
          exact hK _ _ rfl hS
        · intro D uu w' K hD hF hl hS hK
          simp only [puts, Act.put, List.setIfInBounds_toArray, List.set_cons_succ, List.set_cons_zero, Nat.zero_add, Nat.reduceAdd]
          go_simp
          simp only [yUpon]
          exact hK _ _ rfl hS
        · intro D uu w' K hD hF hl hS hK
          simp only [puts, Act.put, List.setIfInBounds_toArray, List.set_cons_succ, List.set_cons_zero, Nat.zero_add, Nat.reduceAdd]
          go_simp
          simp only [yUpon]
          exact hK _ _ rfl hS
        · intro D uu w' K hD hF hl hS hK
          simp only [puts, Act.put, List.setIfInBounds_toArray, List.set_cons_succ, List.set_cons_zero, Nat.zero_add, Nat.reduceAdd]
          go_simp
          simp only [yUpon]
          exact hK _ _ rfl hS
        · intro D uu w' K hD hF hl hS hK
          simp only [puts, Act.put, List.setIfInBounds_toArray, List.set_cons_succ, List.set_cons_zero, Nat.zero_add, Nat.reduceAdd]
          go_simp
          simp only [yUpon]
          exact hK _ _ rfl hS
        · intro D uu w' K hD hF hl hS hK
          have f4 := (hF 4 (by kernel_rfl)).2
          simp only at f4
          have f5 := (hF 5 (by kernel_rfl)).2
          simp only at f5
          simp only [puts, Act.put, List.setIfInBounds_toArray, List.set_cons_succ, List.set_cons_zero, Nat.zero_add, Nat.reduceAdd]
          simp only [f4, f5]
          go_simp
          simp only [yUpon]
          exact hK _ _ rfl hS
        · intro D uu w' K hD hF hl hS hK
          have f6 := (hF 6 (by kernel_rfl)).2
          simp only at f6
          simp only [puts, Act.put, List.setIfInBounds_toArray, List.set_cons_succ, List.set_cons_zero, Nat.zero_add, Nat.reduceAdd]
          simp only [f6]
          have h13 := hl 13 (by kernel_rfl)
          have h15 := hl 15 (by kernel_rfl)
          have hS1 := hS
          simp only [h13, h15, cond_false] at hS1
          have x0 := (hS1.blk 0 rfl).cell j9
          rw [HCY.out] at x0
          clear hS1
          go_simp
          simp only [yUpon]
          exact hK _ _ rfl hS
        · intro D uu w' K hD hF hl hS hK
          simp only [puts, Act.put, List.setIfInBounds_toArray, List.set_cons_succ, List.set_cons_zero, Nat.zero_add, Nat.reduceAdd]
          go_simp
          simp only [yUpon]
          exact hK _ _ rfl hS
        · intro D uu w' K hD hF hl hS hK
          simp only [puts, Act.put, List.setIfInBounds_toArray, List.set_cons_succ, List.set_cons_zero, Nat.zero_add, Nat.reduceAdd]
          go_simp
          simp only [yUpon]
          exact hK _ _ rfl hS
        · intro D uu w' K hD hF hl hS hK
          have f8 := (hF 8 (by kernel_rfl)).2
          simp only at f8
          have f9 := (hF 9 (by kernel_rfl)).2
          simp only at f9
          simp only [puts, Act.put, List.setIfInBounds_toArray, List.set_cons_succ, List.set_cons_zero, Nat.zero_add, Nat.reduceAdd]
          simp only [f8, f9]
          go_simp
          simp only [yUpon]
          exact hK _ _ rfl hS
        · intro D uu w' K hD hF hl hS hK
          have f10 := (hF 10 (by kernel_rfl)).2
          simp only at f10
          simp only [puts, Act.put, List.setIfInBounds_toArray, List.set_cons_succ, List.set_cons_zero, Nat.zero_add, Nat.reduceAdd]
          simp only [f10]
          have h13 := hl 13 (by kernel_rfl)
          have h15 := hl 15 (by kernel_rfl)
          have hS1 := hS
          simp only [h13, h15, cond_false] at hS1
          have x0 := (hS1.blk 0 rfl).cell i
          rw [HCX.out] at x0
          clear hS1
          go_simp
          simp only [yUpon]
          exact hK _ _ rfl hS
        · intro D uu w' K hD hF hl hS hK
          have f0 := (hF 0 (by kernel_rfl)).2
          simp only at f0
          have f1 := (hF 1 (by kernel_rfl)).2
          simp only at f1
          simp only [puts, Act.put, List.setIfInBounds_toArray, List.set_cons_succ, List.set_cons_zero, Nat.zero_add, Nat.reduceAdd]
          simp only [f0, f1]
          go_simp
          simp only [yUpon]
          exact hK _ _ rfl hS
        · intro D uu w' K hD hF hl hS hK
          have f7 := (hF 7 (by kernel_rfl)).2
          simp only at f7
          have f12 := (hF 12 (by kernel_rfl)).2
          simp only at f12
          simp only [puts, Act.put, List.setIfInBounds_toArray, List.set_cons_succ, List.set_cons_zero, Nat.zero_add, Nat.reduceAdd]
          simp only [f7, f12]
          have h15 := hl 15 (by kernel_rfl)
          simp only [hD, h15, cond_false] at hS
          have x0 := (hS.blk 0 rfl).cell i
          rw [HCX.out] at x0
          have z0 := (hS.blk 0 rfl).frozen i
          have hput := hS.put (i := 0) rfl i (.int .u64 y)
          have e1 : (fset D 13 true) 13 = true := rfl
          have e2 : (fset D 13 true) 15 = false := h15
          go_simp
          simp only [yUpon]
          refine hK _ _ trivial ?_
          simp only [e1, e2, cond_true, cond_false]
          exact hput
        · intro D uu w' K hD hF hl hS hK
          have f2 := (hF 2 (by kernel_rfl)).2
          simp only at f2
          have f3 := (hF 3 (by kernel_rfl)).2
          simp only at f3
          simp only [puts, Act.put, List.setIfInBounds_toArray, List.set_cons_succ, List.set_cons_zero, Nat.zero_add, Nat.reduceAdd]
          simp only [f2, f3]
          go_simp
          simp only [yUpon]
          exact hK _ _ rfl hS
        · intro D uu w' K hD hF hl hS hK
          have f11 := (hF 11 (by kernel_rfl)).2
          simp only at f11
          have f14 := (hF 14 (by kernel_rfl)).2
          simp only at f14
          simp only [puts, Act.put, List.setIfInBounds_toArray, List.set_cons_succ, List.set_cons_zero, Nat.zero_add, Nat.reduceAdd]
          simp only [f11, f14]
          have d13 := (hF 13 (by kernel_rfl)).1
          simp only [hD, d13, cond_false, cond_true] at hS
          have x0 := (hS.blk 0 rfl).cell j9
          rw [HCJ.out] at x0
          have z0 := (hS.blk 0 rfl).frozen j9
          have hput := hS.put (i := 0) rfl j9 (.int .u64 x)
          have e1 : (fset D 15 true) 15 = true := rfl
          go_simp
          simp only [yUpon]
          refine hK _ _ trivial ?_
          simp only [e1, cond_true]
          exact hput
      case fin =>
        clear HS
        intro D uu wf hall hS
        have f15 := (hall 15 (by simp)).1
        simp only [f15, cond_true] at hS
        have HS := Lib.hid hS
        clear hall hS f15
        simp only [puts, Act.put, List.setIfInBounds_toArray, List.set_cons_succ, List.set_cons_zero, Nat.zero_add, Nat.reduceAdd]
        go_wp2
        exact ⟨⟨i + 1, by omega, by first | rfl | go_num | simp, by have hji := HJI.out; congr 1; omega, by rw [← HA2.out]; exact HS.out⟩, by simp [intOf]; omega⟩
    · have hlt' : ¬ (i : Int) < (n : Int) - 1 - (i : Int) := by omega
      have hend := swL_end (xs := xs) (i := i) (by omega)
      rw [hend] at HS
      clear hend
      go_wp2
      go_end0
      exact ⟨⟨_, rfl⟩, HS.out.blk 0 rfl, HS.out.keep⟩

theorem addrV (g off i : Nat) : (⟨g, off, none⟩ : Addr).add i = ⟨g, off + i, none⟩ := by unfold Addr.add; split <;> simp_all
set_option maxHeartbeats 4000000 in
theorem reverse_nil (w : World) : Calls Try.prog 17 #[.slice none 0 0] w fun e w' => (∃ r, e = .returned r) ∧ w' = w := by
  go_enter Try.func17, Try.ntmps17
  go_wp2_with fail
  go_loopw [2, 3] (fun v2 v3 wr => v2 = .int .i64 0 ∧ v3 = .int .i64 (-1) ∧ wr = w) (fun v2 _ _ => 0)
  case atStart => exact ⟨rfl, rfl, rfl⟩
  case round =>
    obtain ⟨rfl, rfl, rfl⟩ := hrel
    go_wp2
    go_end0
    exact ⟨⟨_, rfl⟩, rfl⟩
/-- Reverse, of a row. -/
theorem reverse_row {W w : World} {S : List Nat} {L : List Res} {v : Value} {xs : List Int} (hs : Sep W S L w) {i : Nat} (hi : L[i]? = some (rowR 38 v (uw xs))) (hl : xs.length ≤ 100000) :
    Calls Try.prog 17 #[v] w fun e w' => (∃ r, e = .returned r) ∧ Sep W S (L.set i (rowR 38 v (uw xs.reverse))) w' := by
  have hrow : w.ownsRow 0 38 1 v (uw xs).length (uw xs) := hs.row i hi
  have hlr : (uw xs.reverse).length = (uw xs).length := by simp [uw]
  rcases hrow.2 with ⟨hv, h0⟩ | ⟨g, cap, cur, hv, hb, hg, hnc, hcm, hcs, htk⟩
  · subst hv
    have hx : xs = [] := List.eq_nil_of_length_eq_zero (by simpa [uw] using h0)
    subst hx
    refine (reverse_nil w).mono ?_
    rintro e w' ⟨h1, rfl⟩
    exact ⟨h1, by have := hs.step hi (r' := rowR 38 (.slice none 0 0) (uw ([] : List Int).reverse)) ((Keep.refl _ _ _)) hrow (fun _ h => .inl h); exact this⟩
  · subst hv
    have hul : (uw xs).length = xs.length := by simp [uw]
    have hcur : cur = (uw xs ++ cur.toList.drop xs.length).toArray := by
      rw [Nat.mul_one, hul] at htk
      rw [← htk, List.take_append_drop]
    have hblk : Blk w g 38 (uw xs ++ cur.toList.drop xs.length).toArray := by
      unfold Blk; rw [← hcur]; exact hg
    refine (reverse_any g cap (uw xs).length xs _ w hblk hul.symm (by omega)).mono ?_
    rintro e w' ⟨h1, h2, h3⟩
    refine ⟨h1, hs.step hi (by simpa [rowR, Value.ownBlock] using h3) (r' := rowR 38 (.slice (some ⟨g, 0, none⟩) (uw xs).length cap) (uw xs.reverse)) ?_ (fun _ h => .inl h)⟩
    show w'.ownsRow 0 38 1 (.slice (some ⟨g, 0, none⟩) (uw xs).length cap) (uw xs.reverse).length (uw xs.reverse)
    rw [hlr]
    refine ⟨by rw [hlr]; simp, .inr ⟨g, cap, _, rfl, Nat.zero_le _, h2, hnc, hcm, ?_, ?_⟩⟩
    · rw [← hcs]
      have := congrArg Array.size hcur
      simp [uw] at this ⊢
      omega
    · simp only [Nat.mul_one]
      rw [← hlr]
      exact List.take_left
set_option maxHeartbeats 4000000 in
theorem clone_nil (w : World) : Calls Try.prog 8 #[.slice none 0 0] w fun e w' => e = .returned (.slice none 0 0) ∧ w' = w := by
  have hnil : ∀ w, (Go.binOp .eql 31 (.slice none 0 0) (.slice none 0 0)).run Try.prog w = .ok (.bool true) w := fun w => by kernel_rfl
  go_enter Try.func8, Try.ntmps8
  go_wp2
  go_ret
  exact ⟨rfl, rfl⟩
set_option maxHeartbeats 4000000 in
/-- Clone, of a row that isn't empty. -/
theorem clone_row {W w : World} {S : List Nat} {L : List Res} {v : Value} {xs : List Int} (hs : Sep W S L w) {i : Nat} (hi : L[i]? = some (rowR 38 v (uw xs))) (hx : 0 < xs.length) (hl : xs.length ≤ 100000) :
    Calls Try.prog 8 #[v] w fun e w' => ∃ v', e = .returned v' ∧ Sep W S (L ++ [rowR 38 v' (uw xs)]) w' := by
  have hrow : w.ownsRow 0 38 1 v (uw xs).length (uw xs) := hs.row i hi
  have hul : (uw xs).length = xs.length := by simp [uw]
  rcases hrow.2 with ⟨hv, h0⟩ | ⟨g, cap, cur, hv, _, hg, _⟩
  · omega
  · subst hv
    have hnil := fun (w : World) => Lib.run_eql_slice_nil (P := Try.prog) w 31 38 (some ⟨g, 0, none⟩) xs.length cap 0 0 underlying_words
    have hi' : L[i]? = some (rowR 38 (.slice (some ⟨g, 0, none⟩) xs.length cap) (uw xs)) := by rw [← hul]; exact hi
    rw [hul]
    have HS := Lib.hid hs
    have HI := Lib.hid hi'
    clear hs hi hi' hrow hg
    go_enter Try.func8, Try.ntmps8
    go_wp2_with (at_builtin; refine of_stop ?_)
    unfold Stop
    clear hnil
    replace HS := Lib.hid (HS.out.add ((Keep.refl _ _ _).alloc (Nat.le_refl _) _) (r := rowR 38 _ _) (ownsRow_new _ 38 [] (by simp)) (by simp [rowR, Value.ownBlock]))
    generalize w.alloc _ = w1 at *
    obtain ⟨gn, hgn⟩ : ∃ gn, w.heap.size = gn := ⟨_, rfl⟩
    rw [hgn] at HS
    simp only [hgn]
    replace HS : Hid (Sep W S (L ++ [rowR 38 (.slice (some ⟨gn, 0, none⟩) 0 0) []]) w1) := HS
    have hlast : (L ++ [rowR 38 (.slice (some ⟨gn, 0, none⟩) 0 0) []])[L.length]? = some (rowR 38 (.slice (some ⟨gn, 0, none⟩) 0 0) []) := by simp
    have hil : i < L.length := (List.getElem?_eq_some_iff.1 HI.out).1
    have hrow2 := HS.out.row i (e := 38) (by rw [List.getElem?_append_left hil]; exact HI.out)
    refine wpList_append HS.out L.length hlast rfl _ _ 31 rfl rfl rfl rfl (by decide) rfl ⟨g, 0, none⟩ xs.length cap (uw xs) rfl hul (by omega) (fun j u hu => hrow2.cells (g := g) rfl j u hu) (by intro u hu; simp [uw] at hu; obtain ⟨x, _, rfl⟩ := hu; rfl) (by simp only [List.length_nil]; omega) ?_
    intro v' w2 hS
    have hS2 : Sep W S (L ++ [rowR 38 v' (uw xs)]) w2 := by simpa [List.set_append] using hS
    replace HS := Lib.hid hS2
    clear hS hS2 hrow2
    go_wp2
    go_ret
    exact ⟨_, rfl, HS.out⟩
end Go.Proofs.Ytbdomdmnjclpdaa
set_option linter.unusedSimpArgs false
set_option linter.unusedVariables false
set_option maxRecDepth 100000
namespace Go.Proofs.Ytbdomdmnjclpdaa
open Go.RowKit Go.Shelf

/-- Some words: places, beside them, noughts. -/
def pickAt (os : List Ob) (n : Int) : Int := if n % 6 = 0 ∨ os.length = 0 then n / 6 else ((os[(n / 6).toNat % os.length]?.map fun o => (o.at_ : Int)).getD 0)
def pickF (os : List Ob) (nm : List Int) : List Int := nm.map (pickAt os)
theorem pickF_take {os : List Ob} {nm : List Int} {i : Nat} {x : Int} (h : nm[i]? = some x) : uw (pickF os (nm.take (i + 1))) = uw (pickF os (nm.take i)) ++ [.int .u64 (pickAt os x)] := by
  rw [List.take_add_one, h]
  simp [pickF, uw]
theorem pickF_length (os : List Ob) (nm : List Int) : (pickF os nm).length = nm.length := by simp [pickF]
theorem addrP (g off i : Nat) : (⟨g, off, none⟩ : Addr).add i = ⟨g, off + i, none⟩ := by unfold Addr.add; split <;> simp_all
theorem oneP {x : Int} : ∀ u ∈ [Value.int .u64 x], u.oneCell' = true := by intro u hu; simp at hu; subst hu; rfl
/-- Places, as they are read. -/
def RdP (w : World) (v : Value) (os : List Ob) : Prop := ∃ A C, v = .slice A os.length C ∧ ∀ (j : Nat) (o : Ob), os[j]? = some o → ∃ g off, A = some ⟨g, off, none⟩ ∧ w.cell? ⟨g, off + j, none⟩ = some (.int .i64 (o.at_ : Int))
theorem RdP.keep {w w' : World} {v : Value} {os : List Ob} (h : RdP w v os) (hk : Keep w.heap.size [] w w') : RdP w' v os := by
  obtain ⟨A, C, hv, h1⟩ := h
  refine ⟨A, C, hv, fun j o ho => ?_⟩
  obtain ⟨g, off, hA, hc⟩ := h1 j o ho
  have hlt := World.block_lt_of_cell? w _ hc
  exact ⟨g, off, hA, (World.cell?_of_block (hk.block g hlt (by simp))).trans hc⟩
theorem RdP.of_row {w : World} {A : Option Addr} {C : Nat} {os : List Ob} (h : w.ownsRow 0 3 1 (.slice A os.length C) (atsOf os).length (atsOf os)) : RdP w (.slice A os.length C) os := by
  refine ⟨A, C, rfl, fun j o ho => ?_⟩
  have hj := (List.getElem?_eq_some_iff.1 ho).1
  rcases h.2 with ⟨hv, h0⟩ | ⟨g, cap, cur, hv, _⟩
  · rw [atsOf_length] at h0; omega
  · injection hv with e1 e2 e3
    refine ⟨g, 0, e1, ?_⟩
    subst e1
    have := h.cells (g := g) rfl j (.int .i64 (o.at_ : Int)) (by simp [atsOf, ho])
    rwa [addrP] at this

set_option maxRecDepth 100000 in
set_option maxHeartbeats 8000000 in
theorem pick_any (v1 v2 : Value) (os : List Ob) (nm : List Int) (w : World) (hp : RdP w v1 os) (hr : Rd w v2 (nm.map (Value.int .u16))) (hb : ∀ x ∈ nm, 0 ≤ x ∧ x ≤ 65535) (hl : nm.length ≤ 1000) (hol : os.length ≤ 1000) (hat : ∀ o ∈ os, o.at_ ≤ 20000) :
    Calls Try.prog 9 #[v1, v2] w fun e w' => ∃ v, e = .returned v ∧ Sep w [] [rowR 38 v (uw (pickF os nm))] w' := by
  obtain ⟨PA, PC, rfl, hpc⟩ := hp
  obtain ⟨NA, NC, hv2, hnc⟩ := hr.cells
  subst hv2
  have HPC := Lib.hid hpc
  have HNC := Lib.hid hnc
  have HB := Lib.hid hb
  have HAT := Lib.hid hat
  have HS := Lib.hid ((Sep.start w []).nilRow 38)
  clear hpc hnc hr hb hat
  go_enter Try.func9, Try.ntmps9
  go_wp2_with fail
  go_loopw [5, 7, 10, 27] (fun v5 _ v10 _ wr => ∃ (i : Nat) (A : Option Addr) (c : Nat), i ≤ nm.length ∧ v10 = .int .i64 (i : Int) ∧ v5 = .slice A i c ∧ Sep w [] [rowR 38 (.slice A i c) (uw (pickF os (nm.take i)))] wr) (fun _ _ v10 _ _ => nm.length - (intOf v10).toNat)
  case atStart => exact ⟨0, none, 0, by omega, rfl, rfl, HS.out⟩
  case round =>
    clear HS
    obtain ⟨i, A, c, hi, rfl, rfl, hs⟩ := hrel
    have HS := Lib.hid hs
    clear hs
    by_cases hlt : i < nm.length
    · have hltI : (i : Int) < (nm.length : Int) := by omega
      obtain ⟨xi, hxi⟩ : ∃ xi, nm[i]? = some xi := ⟨_, List.getElem?_eq_getElem hlt⟩
      have hxb := HB.out xi (List.mem_of_getElem? hxi)
      obtain ⟨x, rfl⟩ : ∃ x : Nat, xi = (x : Int) := ⟨xi.toNat, by omega⟩
      obtain ⟨g, off, hNA, hcx⟩ := HNC.out i hlt
      rw [List.getD_eq_getElem?_getD, hxi] at hcx
      simp only [Option.getD_some] at hcx
      subst hNA
      have k0 := (Ext.mk wr HS.out.keep : Ext w).cell hcx
      simp only at k0
      have hpt := pickF_take (os := os) hxi
      obtain ⟨r6, hr6⟩ : ∃ r6, x % 6 = r6 := ⟨_, rfl⟩
      obtain ⟨d6, hd6⟩ : ∃ d6, x / 6 = d6 := ⟨_, rfl⟩
      have hrem : ((x : Int)).tmod 6 = (r6 : Int) := by rw [show (6 : Int) = ((6 : Nat) : Int) from rfl, tmod_natN, hr6]
      have hquo : ((x : Int)).tdiv 6 = (d6 : Int) := by rw [Int.tdiv_eq_ediv_of_nonneg (by omega)]; omega
      have hwd : IntKind.u64.wrap (d6 : Int) = (d6 : Int) := by rw [IntKind.wrap_u64]; omega
      have hwd2 : IntKind.i64.wrap (d6 : Int) = (d6 : Int) := IntWalk.i64_in _ (by omega)
      have hwd3 : IntKind.u16.wrap (d6 : Int) = (d6 : Int) := by rw [IntKind.wrap_u16]; omega
      have hpa : pickAt os (x : Int) = if r6 = 0 ∨ os.length = 0 then (d6 : Int) else ((os[d6 % os.length]?.map fun o => (o.at_ : Int)).getD 0) := by
        unfold pickAt
        have e1 : ((x : Int) / 6).toNat = d6 := by omega
        have e2 : (x : Int) / 6 = (d6 : Int) := by omega
        rw [e1, e2]
        by_cases h : r6 = 0 ∨ os.length = 0
        · rw [if_pos h, if_pos (by omega)]
        · rw [if_neg h, if_neg (by omega)]
      rw [hpa] at hpt
      have HPT := Lib.hid hpt
      clear hcx hxi hxb hr6 hd6 hpa hpt
      by_cases hz6 : r6 = 0
      · rw [if_pos (.inl hz6)] at HPT
        subst hz6
        go_wp2_with (at_builtin; refine of_stop ?_)
        unfold Stop
        replace HS := Lib.hid (HS.out.new 38 #[.int .u64 (d6 : Int)])
        generalize wr.alloc _ = wa at *
        generalize wr.heap.size = gn at *
        have hc := (HS.out.blk 1 rfl).cell
        refine wpList_append HS.out 0 rfl rfl _ _ 31 rfl rfl rfl rfl (by decide) rfl ⟨gn, 0, none⟩ 1 1 [.int .u64 (d6 : Int)] rfl rfl (by decide) (fun i v hv => by rw [addrP, Nat.zero_add, hc]; simpa using hv) oneP (by simp [uw, pickF_length]; omega) ?_
        intro v' wb hS
        obtain ⟨A2, c2, hv'⟩ := rowR_val (hS.row 0 rfl)
        rw [show (uw (pickF os (nm.take i)) ++ [Value.int .u64 (d6 : Int)]).length = i + 1 by simp [uw, pickF_length]; omega] at hv'
        subst hv'
        have hS1 := hS.take 1
        replace HS := Lib.hid hS1
        clear hS hc hS1 k0
        go_wp2
        exact ⟨⟨i + 1, A2, c2, by omega, by first | rfl | go_num | simp, rfl, by rw [HPT.out]; exact HS.out⟩, by simp [intOf]; omega⟩
      have hz6I : ((r6 : Int) = 0) = False := by rw [eq_iff_iff, iff_false]; omega
      have hz6b : ((r6 : Int) == 0) = false := by rw [beq_eq_false_iff_ne]; omega
      have hz6c : decide ((r6 : Int) = 0) = false := decide_eq_false (by omega)
      have hz6d : decide (r6 = 0) = false := decide_eq_false hz6
      have hz6e : (r6 == 0) = false := by rw [beq_eq_false_iff_ne]; exact hz6
      by_cases hz0 : os.length = 0
      · rw [if_pos (.inr hz0)] at HPT
        obtain rfl : os = [] := List.eq_nil_of_length_eq_zero hz0
        clear hz0 hol
        go_wp2_with (at_builtin; refine of_stop ?_)
        unfold Stop
        replace HS := Lib.hid (HS.out.new 38 #[.int .u64 (d6 : Int)])
        generalize wr.alloc _ = wa at *
        generalize wr.heap.size = gn at *
        have hc := (HS.out.blk 1 rfl).cell
        refine wpList_append HS.out 0 rfl rfl _ _ 31 rfl rfl rfl rfl (by decide) rfl ⟨gn, 0, none⟩ 1 1 [.int .u64 (d6 : Int)] rfl rfl (by decide) (fun i v hv => by rw [addrP, Nat.zero_add, hc]; simpa using hv) oneP (by simp [uw, pickF_length]; omega) ?_
        intro v' wb hS
        obtain ⟨A2, c2, hv'⟩ := rowR_val (hS.row 0 rfl)
        rw [show (uw (pickF ([] : List Ob) (nm.take i)) ++ [Value.int .u64 (d6 : Int)]).length = i + 1 by simp [uw, pickF_length]; omega] at hv'
        subst hv'
        have hS1 := hS.take 1
        replace HS := Lib.hid hS1
        clear hS hc hS1 k0
        go_wp2
        refine ⟨?_, by simp [intOf]; omega⟩
        (repeat apply Exists.intro)
        exact ⟨⟨i + 1, A2, c2, by omega, rfl, rfl, by rw [HPT.out]; exact HS.out⟩, rfl⟩
      rw [if_neg (by omega)] at HPT
      have hz0I : ((os.length : Int) = 0) = False := by rw [eq_iff_iff, iff_false]; omega
      have hz0b : ((os.length : Int) == 0) = false := by rw [beq_eq_false_iff_ne]; omega
      have hz0c : decide ((os.length : Int) = 0) = false := decide_eq_false (by omega)
      have hz0d : decide (os.length = 0) = false := decide_eq_false hz0
      obtain ⟨pj, hpj⟩ : ∃ pj, d6 % os.length = pj := ⟨_, rfl⟩
      have hpl : pj < os.length := by rw [← hpj]; exact Nat.mod_lt _ (by omega)
      have hrm : ((d6 : Int)).tmod (os.length : Int) = (pj : Int) := by rw [tmod_natN, hpj]
      obtain ⟨ob, hob⟩ : ∃ ob, os[pj]? = some ob := ⟨_, List.getElem?_eq_getElem hpl⟩
      rw [hpj, hob] at HPT
      simp only [Option.map_some, Option.getD_some] at HPT
      obtain ⟨g5, off5, hPA, hc5⟩ := HPC.out pj ob hob
      subst hPA
      have k5 := (Ext.mk wr HS.out.keep : Ext w).cell hc5
      simp only at k5
      have hab := HAT.out ob (List.mem_of_getElem? hob)
      obtain ⟨q, hq⟩ : ∃ q, ob.at_ = q := ⟨_, rfl⟩
      rw [hq] at k5 HPT hab
      have hwq : IntKind.u64.wrap (q : Int) = (q : Int) := by rw [IntKind.wrap_u64]; omega
      have hplI : (pj : Int) < (os.length : Int) := by omega
      clear hpj hob hc5 hq
      go_wp2_with (at_builtin; refine of_stop ?_)
      unfold Stop
      replace HS := Lib.hid (HS.out.new 38 #[.int .u64 (q : Int)])
      generalize wr.alloc _ = wa at *
      generalize wr.heap.size = gn at *
      have hc := (HS.out.blk 1 rfl).cell
      refine wpList_append HS.out 0 rfl rfl _ _ 31 rfl rfl rfl rfl (by decide) rfl ⟨gn, 0, none⟩ 1 1 [.int .u64 (q : Int)] rfl rfl (by decide) (fun i v hv => by rw [addrP, Nat.zero_add, hc]; simpa using hv) oneP (by simp [uw, pickF_length]; omega) ?_
      intro v' wb hS
      obtain ⟨A2, c2, hv'⟩ := rowR_val (hS.row 0 rfl)
      rw [show (uw (pickF os (nm.take i)) ++ [Value.int .u64 (q : Int)]).length = i + 1 by simp [uw, pickF_length]; omega] at hv'
      subst hv'
      have hS1 := hS.take 1
      replace HS := Lib.hid hS1
      clear hS hc hS1 k0
      go_wp2
      exact ⟨⟨i + 1, A2, c2, by omega, by first | rfl | go_num | simp, rfl, by rw [HPT.out]; exact HS.out⟩, by simp [intOf]; omega⟩
    · have hltI : ¬ (i : Int) < (nm.length : Int) := by omega
      obtain rfl : i = nm.length := by omega
      rw [List.take_length] at HS
      go_wp2
      go_ret
      exact ⟨_, rfl, HS.out⟩
end Go.Proofs.Ytbdomdmnjclpdaa
set_option linter.unusedSimpArgs false
set_option linter.unusedVariables false
set_option maxRecDepth 100000
namespace Go.Proofs.Ytbdomdmnjclpdaa
open Go.RowKit Go.Shelf
section
variable {W w : World} {S : List Nat} {L : List Res} {e : TypeId} {v : Value} {xs : List Value}
variable {P : Program}
variable {P : Program} {Q : Exit → Act → World → Prop} {W : World} {S : List Nat}
def CStep (P : Program) (Q : Exit → Act → World → Prop) (l : List Oper) (a : Act) (C : (Nat → Bool) → (Nat → Value) → World → Prop) (V : (Nat → Bool) → (Nat → Value) → Prop) (j : Nat) (o : Oper) : Prop :=
  ∀ (D : Nat → Bool) (u : Nat → Value) (w : World) (K : Value → World → Prop), D j = false → (∀ e ∈ o.after.toList, Region.binds .any e = true → D e.on = true) →
    (∀ k o', l[k]? = some o' → (∃ e ∈ o'.after.toList, Region.binds .any e = true ∧ e.on = j) → D k = false) → V D u → C D u w →
    (∀ v w', V (fset D j true) (fset u j v) → C (fset D j true) (fset u j v) w' → K v w') →
    (if Region.wanted o (yielded l.toArray (puts u 0 l a).tmps) then yUpon P (puts u 0 l a) K Q ((execOp (puts u 0 l a).eval o).run P w) else K undef w)

theorem wp_region_c {id : Nat} {a : Act} {w : World} {l : List Oper} (hm : P.follows .mixedOrders = true) (hB : downB .any l.toArray = true) (hF : freshB l = true)
    (C : (Nat → Bool) → (Nat → Value) → World → Prop) (V : (Nat → Bool) → (Nat → Value) → Prop)
    (h0 : ∀ u, V (fun _ => false) u ∧ C (fun _ => false) u w.drew)
    (hs : ∀ j o, l[j]? = some o → CStep P Q l a C V j o)
    (he : ∀ D u w, (∀ j, j < l.length → D j = true) → V D u → C D u w → Q .normal (puts u 0 l a) w) : (Code.region id l.toArray true).wp P Q a w := by
  refine wp_region_inv hm hB (fun L a' w' => ∃ (D : Nat → Bool) (u : Nat → Value), (∀ i, i < l.length → D i = L.getD i false) ∧ (∀ i, l.length ≤ i → D i = false) ∧ L.size = l.length ∧
    (∀ k o, l[k]? = some o → L.getD k false = true → ∀ e ∈ o.after.toList, Region.binds .any e = true → L.getD e.on false = true) ∧ a' = puts u 0 l a ∧ V D u ∧ C D u w') ?_ ?_ ?_
  · obtain ⟨u, hu⟩ : ∃ u : Nat → Value, u = fun i => match l[i]? with | some o => (match o.dst with | some d => a.tmps.getD d undef | none => undef) | none => undef := ⟨_, rfl⟩
    refine ⟨fun _ => false, u, fun i _ => (getD_replicate_false _ _).symm, fun _ _ => rfl, by simp, fun k o _ hl => (by rw [getD_replicate_false] at hl; cases hl), ?_, (h0 u).1, (h0 u).2⟩
    refine (puts_start l _ 0 a (fun j o hj d hd => ?_)).symm
    rw [hu]
    simp only [Nat.zero_add, hj, hd]
  · rintro L a' w' i ⟨D, u, hD, hD2, hsz, hcl, rfl, hV, hS⟩ hi
    obtain ⟨hun, o, ho, hall⟩ := mem_ready.1 hi
    have ho' : l[i]? = some o := by simpa using ho
    have hil : i < l.length := (List.getElem?_eq_some_iff.1 ho').1
    have hDi : D i = false := by rw [hD i hil]; exact getD_both hun
    have hlt : ∀ e ∈ o.after.toList, Region.binds .any e = true → e.on < l.length := fun e he hb => by
      have h1 := hall e (by simpa using he) hb
      rcases Nat.lt_or_ge e.on l.length with h | h
      · exact h
      · rw [← hsz] at h
        simp [Array.getElem?_eq_none h] at h1
    have hdep : ∀ e ∈ o.after.toList, Region.binds .any e = true → D e.on = true := fun e he hb => by
      rw [hD _ (hlt e he hb)]
      exact hall e (by simpa using he) hb
    have hlate : ∀ k o', l[k]? = some o' → (∃ e ∈ o'.after.toList, Region.binds .any e = true ∧ e.on = i) → D k = false := by
      rintro k o' hk ⟨e, he, hb, rfl⟩
      have hkl : k < l.length := (List.getElem?_eq_some_iff.1 hk).1
      cases hDk : D k with
      | false => rfl
      | true =>
        rw [hD k hkl] at hDk
        have := hcl k o' hk hDk e he hb
        rw [getD_both hun] at this
        cases this
    have hq := hs i o ho' D u w' (fun v w'' => V (fset D i true) (fset u i v) ∧ C (fset D i true) (fset u i v) w'') hDi hdep hlate hV hS (fun v w'' h1 h2 => ⟨h1, h2⟩)
    have hnext : ∀ v w'', (V (fset D i true) (fset u i v) ∧ C (fset D i true) (fset u i v) w'') →
        ∃ (D' : Nat → Bool) (u' : Nat → Value), (∀ k, k < l.length → D' k = (L.setIfInBounds i true).getD k false) ∧ (∀ k, l.length ≤ k → D' k = false) ∧ (L.setIfInBounds i true).size = l.length ∧
          (∀ k o, l[k]? = some o → (L.setIfInBounds i true).getD k false = true → ∀ e ∈ o.after.toList, Region.binds .any e = true → (L.setIfInBounds i true).getD e.on false = true) ∧ (puts u 0 l a).put o.dst v = puts u' 0 l a ∧ V D' u' ∧ C D' u' w'' := by
      rintro v w'' ⟨h1, h2⟩
      refine ⟨fset D i true, fset u i v, fun k hk => ?_, fun k hk => ?_, by simp [hsz], fun k ok hk hl e he hb => ?_, ?_, h1, h2⟩
      · unfold fset
        by_cases hki : k = i
        · subst hki
          rw [if_pos rfl]
          simp [hsz, hil]
        · rw [if_neg hki, hD k hk]
          simp only [Array.getD_eq_getD_getElem?, Array.getElem?_setIfInBounds_ne (fun e => hki e.symm)]
      · unfold fset
        rw [if_neg (by omega)]
        exact hD2 k hk
      · by_cases hki : k = i
        · subst hki
          rw [ho'] at hk
          injection hk with hk
          subst hk
          exact getD_set_true (hall e (by simpa using he) hb)
        · have : L.getD k false = true := by
            rw [← hl]
            simp only [Array.getD_eq_getD_getElem?, Array.getElem?_setIfInBounds_ne (fun e => hki e.symm)]
          exact getD_set_true (hcl k ok hk this e he hb)
      · rw [puts_one v l u 0 i a o hF ho']
        refine puts_congr _ _ l 0 a fun k _ => ?_
        simp only [fset, Nat.zero_add]
    unfold wpOp
    rw [ho]
    simp only
    split
    · rename_i hw
      rw [if_pos hw] at hq
      exact .inl (upon_of_y hnext hq)
    · rename_i hw
      rw [if_neg hw] at hq
      exact hnext _ _ hq
  · rintro L a' w' ⟨D, u, hD, _, hsz, _, rfl, hV, hS⟩ hr
    exact he D u w' (fun j hj => by rw [hD j hj]; exact hr j (by simpa using hj)) hV hS

/-- The same, by what is told of each value. -/
theorem wp_region_c2 {id : Nat} {a : Act} {w : World} {l : List Oper} (hm : P.follows .mixedOrders = true) (hB : downB .any l.toArray = true) (hF : freshB l = true)
    (C : (Nat → Bool) → (Nat → Value) → World → Prop) (pf : Nat → Value → Prop)
    (h0 : ∀ u, C (fun _ => false) u w.drew)
    (hs : ∀ j o, l[j]? = some o → ∀ (D : Nat → Bool) (u : Nat → Value) (w : World) (K : Value → World → Prop), D j = false → (∀ i ∈ depsOf o, D i = true ∧ pf i (u i)) → (∀ k ∈ lateOf l j, D k = false) → C D u w →
      (∀ v w', pf j v → C (fset D j true) (fset u j v) w' → K v w') →
      (if Region.wanted o (yielded l.toArray (puts u 0 l a).tmps) then yUpon P (puts u 0 l a) K Q ((execOp (puts u 0 l a).eval o).run P w) else K undef w))
    (he : ∀ D u w, (∀ j, j < l.length → D j = true ∧ pf j (u j)) → C D u w → Q .normal (puts u 0 l a) w) : (Code.region id l.toArray true).wp P Q a w := by
  refine wp_region_c hm hB hF C (fun D u => ∀ i, D i = true → pf i (u i)) (fun u => ⟨fun i h => by simp at h, h0 u⟩) ?_ (fun D u w hD hV hS => he D u w (fun j hj => ⟨hD j hj, hV j (hD j hj)⟩) hS)
  intro j o hj D u w K hDj hdep hlate hV hS hK
  refine hs j o hj D u w K hDj (fun i hi => ?_) (fun k hk => ?_) hS (fun v w' hp hs' => hK v w' (fun i hi => ?_) hs')
  · obtain ⟨e, he, rfl⟩ := List.mem_map.1 hi
    obtain ⟨he1, he2⟩ := List.mem_filter.1 he
    have := hdep e he1 he2
    exact ⟨this, hV _ this⟩
  · obtain ⟨hk1, hk2⟩ := List.mem_filter.1 hk
    cases hlk : l[k]? with
    | none => rw [hlk] at hk2; cases hk2
    | some o' =>
      rw [hlk] at hk2
      simp only [List.contains_iff_mem] at hk2
      obtain ⟨e, he, he3⟩ := List.mem_map.1 hk2
      obtain ⟨he1, he2⟩ := List.mem_filter.1 he
      exact hlate k o' hlk ⟨e, he1, he2, he3⟩
  · unfold fset at hi ⊢
    by_cases hij : i = j
    · subst hij
      rw [if_pos rfl]
      exact hp
    · rw [if_neg hij] at hi ⊢
      exact hV i hi

/-- What is asked of operation j. -/
def COp (P : Program) (Q : Exit → Act → World → Prop) (l : List Oper) (a : Act) (C : (Nat → Bool) → (Nat → Value) → World → Prop) (pf : Nat → Value → Prop) (j : Nat) (o : Oper) : Prop :=
  ∀ (D : Nat → Bool) (u : Nat → Value) (w : World) (K : Value → World → Prop), D j = false → (∀ i, (depsOf o).contains i = true → D i = true ∧ pf i (u i)) → (∀ k, (lateOf l j).contains k = true → D k = false) → C D u w →
      (∀ v w', pf j v → C (fset D j true) (fset u j v) w' → K v w') →
      (if Region.wanted o (yielded l.toArray (puts u 0 l a).tmps) then yUpon P (puts u 0 l a) K Q ((execOp (puts u 0 l a).eval o).run P w) else K undef w)
theorem wp_region_c3 {id : Nat} {a : Act} {w : World} {l : List Oper} (hm : P.follows .mixedOrders = true) (hB : downB .any l.toArray = true) (hF : freshB l = true)
    (C : (Nat → Bool) → (Nat → Value) → World → Prop) (pf : Nat → Value → Prop)
    (h0 : ∀ u, C (fun _ => false) u w.drew)
    (hs : AllFrom (COp P Q l a C pf) 0 l)
    (he : ∀ D u w, (∀ j, j < l.length → D j = true ∧ pf j (u j)) → C D u w → Q .normal (puts u 0 l a) w) : (Code.region id l.toArray true).wp P Q a w :=
  wp_region_c2 hm hB hF C pf h0 (fun j o hj => by
    have := hs.get j o hj
    rw [Nat.zero_add] at this
    intro D u w K h1 h2 h3
    exact this D u w K h1 (fun i hi => h2 i (by simpa using hi)) (fun k hk => h3 k (by simpa using hk))) he
end
end Go.Proofs.Ytbdomdmnjclpdaa
set_option linter.unusedVariables false
set_option linter.unusedSimpArgs false
namespace Go.Proofs.Ytbdomdmnjclpdaa

/-- An operation on words from lo to ahead of hi. -/
def OpIn (lo hi : Nat) : Dop → Prop
  | .st k v => lo ≤ k ∧ k < hi ∧ Wd v
  | .fl k => lo ≤ k ∧ k < hi
  | .fe => True
/-- Such operations have turned t into t'. -/
def Moved (lo hi : Nat) (t t' : St) : Prop := ∃ ops, (∀ o ∈ ops, OpIn lo hi o) ∧ t' = t.run ops
section
variable {lo hi n : Nat} {t t' t2 : St}
theorem Moved.refl (lo hi : Nat) (t : St) : Moved lo hi t t := ⟨[], by simp, rfl⟩
theorem Moved.trans (h : Moved lo hi t t') (h2 : Moved lo hi t' t2) : Moved lo hi t t2 := by
  obtain ⟨a, ha, rfl⟩ := h
  obtain ⟨b, hb, rfl⟩ := h2
  exact ⟨a ++ b, fun o ho => (List.mem_append.1 ho).elim (ha o) (hb o), (St.run_append _ _ _).symm⟩
theorem Moved.op {o : Dop} (h : Moved lo hi t t') (ho : OpIn lo hi o) : Moved lo hi t (t'.op o) :=
  h.trans ⟨[o], by simpa using ho, rfl⟩
theorem Moved.mono {lo' hi' : Nat} (h : Moved lo hi t t') (h1 : lo' ≤ lo) (h2 : hi ≤ hi') : Moved lo' hi' t t' := by
  obtain ⟨ops, ho, rfl⟩ := h
  refine ⟨ops, fun o hm => ?_, rfl⟩
  have := ho o hm
  cases o with
  | st k v => exact ⟨by have := this.1; omega, by have := this.2.1; omega, this.2.2⟩
  | fl k => exact ⟨by have := this.1; omega, by have := this.2; omega⟩
  | fe => trivial
theorem Moved.is (h : Moved lo hi t t') (hI : t.Is n) : t'.Is n := by
  obtain ⟨ops, _, rfl⟩ := h
  exact hI.run ops
theorem Moved.lim (h : Moved lo hi t t') : t'.l = t.l := by
  obtain ⟨ops, _, rfl⟩ := h
  exact St.run_l ops t
theorem OpIn.wd {o : Dop} (h : OpIn lo hi o) : o.wd := by
  cases o with
  | st k v => exact h.2.2
  | fl k => trivial
  | fe => trivial
theorem Moved.rng (h : Moved lo hi t t') (hr : t.rng) : t'.rng := by
  obtain ⟨ops, ho, rfl⟩ := h
  exact hr.run ops fun o hm => (ho o hm).wd
theorem op_nw {o : Dop} (hI : t.Is n) (hh : hi ≤ n) (ho : OpIn lo hi o) {j : Nat} (hj : j < lo ∨ hi ≤ j) : (t.op o).nw j = t.nw j := by
  cases o with
  | st k v =>
    obtain ⟨h1, h2, _⟩ := ho
    show (t.store k v).nw j = _
    rw [St.nw_store hI (by omega), if_neg (by omega)]
  | fl k => rfl
  | fe => rfl
theorem op_all {o : Dop} (hI : t.Is n) (hh : hi ≤ n) (ho : OpIn lo hi o) {j : Nat} {v : Int} (hn : j < n) (hj : j < lo ∨ hi ≤ j) (h : t.all j v) : (t.op o).all j v := by
  obtain ⟨h1, h2, h3⟩ := h
  refine ⟨(op_nw hI hh ho hj).trans h1, ?_⟩
  cases o with
  | st k x => exact ⟨h2, h3⟩
  | fl k =>
    refine ⟨?_, h3⟩
    show (t.flush k).pd j = v
    rw [St.pd_flush]
    split
    · exact h1
    · exact h2
  | fe =>
    refine ⟨?_, ?_⟩
    · show t.fence.pd j = v
      rw [St.pd_fence hI hn]; exact h2
    · show t.fence.kp j = v
      rw [St.kp_fence hI hn]; exact h2
theorem Moved.nw (h : Moved lo hi t t') (hI : t.Is n) (hh : hi ≤ n) {j : Nat} (hj : j < lo ∨ hi ≤ j) : t'.nw j = t.nw j := by
  obtain ⟨ops, ho, rfl⟩ := h
  induction ops generalizing t with
  | nil => rfl
  | cons o l ih =>
    rw [St.run_cons, ih (hI.op o) (fun o' h' => ho o' (List.mem_cons_of_mem _ h'))]
    exact op_nw hI hh (ho o (by simp)) hj
theorem Moved.all (h : Moved lo hi t t') (hI : t.Is n) (hh : hi ≤ n) {j : Nat} {v : Int} (hn : j < n) (hj : j < lo ∨ hi ≤ j) (ha : t.all j v) : t'.all j v := by
  obtain ⟨ops, ho, rfl⟩ := h
  induction ops generalizing t with
  | nil => exact ha
  | cons o l ih =>
    rw [St.run_cons]
    exact ih (hI.op o) (op_all hI hh (ho o (by simp)) hn hj ha) (fun o' h' => ho o' (List.mem_cons_of_mem _ h'))
end

/-- Where an object is copied to, by the row of what is copied. -/
def placeF (t : St) : Nat → List Int → Int → Option Nat
  | _, [], _ => none
  | p, y :: L, x => if x = y then some p else placeF t (p + (wordsOf t y + 1)) L x
section
variable {t : St} {G : Int → Bool}
theorem placeF_snoc (t : St) (x y : Int) : ∀ (L : List Int) (p : Nat), placeF t p (L ++ [y]) x = (placeF t p L x).or (if x = y then some (p + sizeF t L) else none)
  | [], p => by simp [placeF, sizeF]
  | z :: L, p => by
    simp only [List.cons_append, placeF]
    by_cases h : x = z
    · rw [if_pos h, if_pos h]; rfl
    · rw [if_neg h, if_neg h, placeF_snoc t x y L]
      have : p + (wordsOf t z + 1) + sizeF t L = p + sizeF t (z :: L) := by simp [sizeF]; omega
      rw [this]
theorem placeF_none {x : Int} : ∀ {L : List Int} {p : Nat}, placeF t p L x = none ↔ x ∉ L
  | [], p => by simp [placeF]
  | z :: L, p => by
    simp only [placeF, List.mem_cons, not_or]
    by_cases h : x = z
    · rw [if_pos h]; simp [h]
    · rw [if_neg h, placeF_none]; simp [h]
theorem placeF_at {x : Int} : ∀ {L : List Int} {p i : Nat}, L.Nodup → L[i]? = some x → placeF t p L x = some (p + sizeF t (L.take i))
  | [], p, i, _, h => by simp at h
  | z :: L, p, 0, hn, h => by
    simp at h
    subst h
    simp [placeF, sizeF]
  | z :: L, p, i + 1, hn, h => by
    rw [List.getElem?_cons_succ] at h
    rw [List.nodup_cons] at hn
    have hne : x ≠ z := fun e => hn.1 (e ▸ List.mem_of_getElem? h)
    simp only [placeF]
    rw [if_neg hne, placeF_at hn.2 h, List.take_succ_cons]
    congr 1
    simp [sizeF]; omega
theorem placeF_in {x : Int} {L : List Int} {p q : Nat} (hn : L.Nodup) (h : placeF t p L x = some q) : ∃ i, L[i]? = some x ∧ q = p + sizeF t (L.take i) := by
  have hx : x ∈ L := by
    by_cases hx : x ∈ L
    · exact hx
    · rw [placeF_none.2 hx] at h; simp at h
  obtain ⟨i, hi⟩ := List.mem_iff_getElem?.1 hx
  rw [placeF_at hn hi] at h
  injection h with h
  exact ⟨i, hi, h.symm⟩
theorem sizeF_lt {L : List Int} {i : Nat} {x : Int} (h : L[i]? = some x) : sizeF t (L.take i) + (wordsOf t x + 1) ≤ sizeF t L := by
  have h1 := sizeF_take (t := t) h
  have h2 := sizeF_append t (L.take (i + 1)) (L.drop (i + 1))
  rw [List.take_append_drop] at h2
  omega
theorem sizeF_mono {L : List Int} {i j : Nat} (h : i ≤ j) : sizeF t (L.take i) ≤ sizeF t (L.take j) := by
  have h2 := sizeF_append t ((L.take j).take i) ((L.take j).drop i)
  rw [List.take_append_drop, List.take_take, Nat.min_eq_left h] at h2
  omega
theorem sizeF_next {L : List Int} {i j : Nat} {x : Int} (hx : L[i]? = some x) (h : i < j) : sizeF t (L.take i) + (wordsOf t x + 1) ≤ sizeF t (L.take j) := by
  have h1 := sizeF_take (t := t) hx
  have h2 := sizeF_mono (t := t) (L := L) (show i + 1 ≤ j by omega)
  omega
/-- A word of the copied objects: whose it is. -/
theorem sizeF_find : ∀ {L : List Int} {q : Nat}, q < sizeF t L → ∃ i x, L[i]? = some x ∧ sizeF t (L.take i) ≤ q ∧ q < sizeF t (L.take i) + (wordsOf t x + 1)
  | [], q, h => by simp [sizeF] at h
  | z :: L, q, h => by
    by_cases hq : q < wordsOf t z + 1
    · exact ⟨0, z, rfl, by simp [sizeF], by simpa [sizeF] using hq⟩
    · have h1 : sizeF t (z :: L) = (wordsOf t z + 1) + sizeF t L := by simp [sizeF]
      obtain ⟨i, x, hi, h2, h3⟩ := sizeF_find (L := L) (q := q - (wordsOf t z + 1)) (by omega)
      have h4 : sizeF t ((z :: L).take (i + 1)) = (wordsOf t z + 1) + sizeF t (L.take i) := by simp [sizeF]
      exact ⟨i + 1, x, by simpa using hi, by omega, by omega⟩

/-- What a name becomes. -/
def fwd (t : St) (tb : Nat) (L : List Int) (w : Int) : Int := if w = 0 then 0 else (((placeF t tb L w).getD 0 : Nat) : Int)
theorem fwd_snoc {tb : Nat} {L : List Int} {w y : Int} (h : w = 0 ∨ w ∈ L ∨ w ≠ y) : fwd t tb (L ++ [y]) w = fwd t tb L w := by
  unfold fwd
  by_cases h0 : w = 0
  · rw [if_pos h0, if_pos h0]
  · rw [if_neg h0, if_neg h0, placeF_snoc]
    rcases h with h | h | h
    · exact absurd h h0
    · cases hp : placeF t tb L w with
      | none => exact absurd h (placeF_none.1 hp)
      | some q => rfl
    · rw [if_neg h, Option.or_none]

/-- Is field f of the copied object i one whose name has been followed, j objects and f0 fields of the next one behind it? -/
def scanned (j f0 i f : Nat) : Prop := i < j ∨ (i = j ∧ f < f0)
instance (j f0 i f : Nat) : Decidable (scanned j f0 i f) := inferInstanceAs (Decidable (_ ∨ _))
/-- Copies of L stand from tb on; j of them, and f0 fields of the next one, have been followed. -/
structure CopyInv (t0 t : St) (G : Int → Bool) (tb : Nat) (L : List Int) (j f0 : Nat) : Prop where
  fine : Fine G L
  head : ∀ (i : Nat) (x : Int), L[i]? = some x → t.nw (tb + sizeF t0 (L.take i)) = t0.nw x.toNat
  body : ∀ (i : Nat) (x : Int) (f : Nat), L[i]? = some x → f < wordsOf t0 x → t.nw (tb + sizeF t0 (L.take i) + 1 + f) = if f < refsOf t0 x ∧ scanned j f0 i f then fwd t0 tb L (t0.nw (x.toNat + 1 + f)) else t0.nw (x.toNat + 1 + f)
  far : ∀ p, p < tb ∨ tb + sizeF t0 L ≤ p → t.nw p = t0.nw p
  clos : ∀ (i : Nat) (x : Int) (f : Nat), L[i]? = some x → f < refsOf t0 x → scanned j f0 i f → t0.nw (x.toNat + 1 + f) ≠ 0 → G (t0.nw (x.toNat + 1 + f)) = true → t0.nw (x.toNat + 1 + f) ∈ L
  le : j < L.length ∨ (j = L.length ∧ f0 = 0)
theorem CopyInv.start {t0 : St} {tb : Nat} : CopyInv t0 t0 G tb [] 0 0 :=
  ⟨⟨List.nodup_nil, by simp⟩, by simp, by simp, fun _ _ => rfl, by simp, .inr ⟨rfl, rfl⟩⟩
/-- Stores of an object's words. -/
def copyOps (t0 : St) (tb : Nat) (x : Int) (m : Nat) : List Dop := (List.range m).map fun i => .st (tb + i) (t0.nw (x.toNat + i))
theorem copyOps_snoc (t0 : St) (tb : Nat) (x : Int) (m : Nat) : copyOps t0 tb x (m + 1) = copyOps t0 tb x m ++ [.st (tb + m) (t0.nw (x.toNat + m))] := by simp [copyOps, List.range_succ]
theorem copyOps_nw {t0 t : St} {n tb : Nat} {x : Int} (hI : t.Is n) : ∀ {m : Nat}, tb + m ≤ n → ∀ p, (t.run (copyOps t0 tb x m)).nw p = if tb ≤ p ∧ p < tb + m then t0.nw (x.toNat + (p - tb)) else t.nw p
  | 0, _, p => by rw [if_neg (by omega)]; rfl
  | m + 1, h, p => by
    rw [copyOps_snoc, St.run_snoc]
    show (St.store _ _ _).nw p = _
    rw [St.nw_store (hI.run _) (by omega), copyOps_nw hI (by omega)]
    by_cases h1 : p = tb + m
    · subst h1
      rw [if_pos rfl, if_pos (by omega)]
      congr 2; omega
    · rw [if_neg h1]
      by_cases h2 : tb ≤ p ∧ p < tb + m
      · rw [if_pos h2, if_pos (by omega)]
      · rw [if_neg h2, if_neg (by omega)]
theorem copyOps_in {t0 : St} {lo hi tb m : Nat} {x : Int} (hr : t0.rng) (h1 : lo ≤ tb) (h2 : tb + m ≤ hi) : ∀ o ∈ copyOps t0 tb x m, OpIn lo hi o := by
  intro o ho
  obtain ⟨i, hi', rfl⟩ := List.mem_map.1 ho
  have := List.mem_range.1 hi'
  exact ⟨by omega, by omega, hr.nw _⟩
/-- One more is copied. -/
theorem CopyInv.copy {t0 t t' : St} {tb j f0 : Nat} {L : List Int} {x : Int} (h : CopyInv t0 t G tb L j f0) (hx : x ∉ L) (hg : G x = true)
    (ht : ∀ p, t'.nw p = if tb + sizeF t0 L ≤ p ∧ p < tb + sizeF t0 L + (wordsOf t0 x + 1) then t0.nw (x.toNat + (p - (tb + sizeF t0 L))) else t.nw p) : CopyInv t0 t' G tb (L ++ [x]) j f0 := by
  have hsz : sizeF t0 (L ++ [x]) = sizeF t0 L + (wordsOf t0 x + 1) := by rw [sizeF_append]; simp [sizeF]
  have htk : ∀ i, i ≤ L.length → (L ++ [x]).take i = L.take i := fun i hi => by rw [List.take_append_of_le_length hi]
  have hgt : ∀ (i : Nat) (y : Int), (L ++ [x])[i]? = some y → (L[i]? = some y ∧ i < L.length) ∨ (i = L.length ∧ y = x) := fun i y hy => by
    rcases Nat.lt_or_ge i L.length with hi | hi
    · rw [List.getElem?_append_left hi] at hy; exact .inl ⟨hy, hi⟩
    · rw [List.getElem?_append_right hi] at hy
      have h1 : i - L.length = 0 := by
        rcases Nat.eq_zero_or_pos (i - L.length) with h | h
        · exact h
        · rw [List.getElem?_eq_none (by simp; omega)] at hy; simp at hy
      rw [h1] at hy
      simp at hy
      exact .inr ⟨by omega, hy.symm⟩
  refine ⟨⟨List.nodup_append.2 ⟨h.fine.1, by simp, fun y hy z hz e => by simp at hz; subst hz; subst e; exact hx hy⟩, fun y hy => ?_⟩, ?_, ?_, ?_, ?_, ?_⟩
  · rcases List.mem_append.1 hy with hy | hy
    · exact h.fine.2 y hy
    · simp at hy; subst hy; exact hg
  · intro i y hy
    rcases hgt i y hy with ⟨hy, hi⟩ | ⟨rfl, rfl⟩
    · have := sizeF_lt (t := t0) hy
      rw [htk i (by omega), ht, if_neg (by omega)]
      exact h.head i y hy
    · rw [htk _ (Nat.le_refl _), List.take_length, ht, if_pos (by omega)]
      congr 1; omega
  · intro i y f hy hf
    rcases hgt i y hy with ⟨hy, hi⟩ | ⟨rfl, rfl⟩
    · have := sizeF_lt (t := t0) hy
      rw [htk i (by omega), ht, if_neg (by omega), h.body i y f hy hf]
      by_cases hs : f < refsOf t0 y ∧ scanned j f0 i f
      · rw [if_pos hs, if_pos hs, fwd_snoc]
        by_cases h0 : t0.nw (y.toNat + 1 + f) = 0
        · exact .inl h0
        · by_cases hgy : G (t0.nw (y.toNat + 1 + f)) = true
          · exact .inr (.inl (h.clos i y f hy hs.1 hs.2 h0 hgy))
          · exact .inr (.inr fun e => hgy (by rw [e]; exact hg))
      · rw [if_neg hs, if_neg hs]
    · rw [htk _ (Nat.le_refl _), List.take_length, ht, if_pos (by omega), if_neg]
      · congr 1; omega
      · rintro ⟨_, hs⟩
        unfold scanned at hs
        have := h.le
        omega
  · intro p hp
    rw [hsz] at hp
    rw [ht, if_neg (by omega)]
    exact h.far p (by omega)
  · intro i y f hy hf hs h0 hgy
    rcases hgt i y hy with ⟨hy, hi⟩ | ⟨rfl, rfl⟩
    · exact List.mem_append_left _ (h.clos i y f hy hf hs h0 hgy)
    · unfold scanned at hs
      have := h.le
      omega
  · have := h.le
    simp only [List.length_append, List.length_singleton]
    omega
theorem CopyInv.same {t0 t t' : St} {tb j f0 : Nat} {L : List Int} (h : CopyInv t0 t G tb L j f0) (e : ∀ p, t'.nw p = t.nw p) : CopyInv t0 t' G tb L j f0 :=
  ⟨h.fine, fun i x hx => (e _).trans (h.head i x hx), fun i x f hx hf => (e _).trans (h.body i x f hx hf), fun p hp => (e _).trans (h.far p hp), h.clos, h.le⟩
/-- A name is followed: it stands behind what it names now. -/
theorem CopyInv.follow {t0 t t' : St} {tb j f0 : Nat} {L : List Int} {x w : Int} (h : CopyInv t0 t G tb L j f0) (hx : L[j]? = some x) (hf : f0 < refsOf t0 x) (hrw : refsOf t0 x ≤ wordsOf t0 x) (hw : t0.nw (x.toNat + 1 + f0) = w)
    (hin : w ≠ 0 → G w = true → w ∈ L) (ht : ∀ p, t'.nw p = if p = tb + sizeF t0 (L.take j) + 1 + f0 then fwd t0 tb L w else t.nw p) : CopyInv t0 t' G tb L j (f0 + 1) := by
  have hsz := sizeF_lt (t := t0) hx
  refine ⟨h.fine, ?_, ?_, ?_, ?_, ?_⟩
  · intro i y hy
    rw [ht, if_neg]
    · exact h.head i y hy
    · intro e
      rcases Nat.lt_trichotomy i j with hij | rfl | hij
      · have := sizeF_next (t := t0) hy hij; omega
      · omega
      · have := sizeF_next (t := t0) hx hij; omega
  · intro i y f hy hfy
    have hiff : tb + sizeF t0 (L.take i) + 1 + f = tb + sizeF t0 (L.take j) + 1 + f0 ↔ i = j ∧ f = f0 := by
      constructor
      · intro e
        rcases Nat.lt_trichotomy i j with hij | rfl | hij
        · have := sizeF_next (t := t0) hy hij; omega
        · exact ⟨rfl, by omega⟩
        · have := sizeF_next (t := t0) hx hij; omega
      · rintro ⟨rfl, rfl⟩; rfl
    rw [ht]
    by_cases he : i = j ∧ f = f0
    · rw [if_pos (hiff.2 he)]
      obtain ⟨rfl, rfl⟩ := he
      rw [hx] at hy
      injection hy with hy
      subst hy
      rw [if_pos ⟨hf, .inr ⟨rfl, by omega⟩⟩, hw]
    · rw [if_neg (fun e => he (hiff.1 e)), h.body i y f hy hfy]
      have hsc : scanned j f0 i f ↔ scanned j (f0 + 1) i f := by unfold scanned; omega
      simp only [hsc]
  · intro p hp
    rw [ht, if_neg (by omega)]
    exact h.far p hp
  · intro i y f hy hfy hs h0 hgy
    by_cases he : i = j ∧ f = f0
    · obtain ⟨rfl, rfl⟩ := he
      rw [hx] at hy
      injection hy with hy
      subst hy
      rw [hw] at h0 hgy ⊢
      exact hin h0 hgy
    · exact h.clos i y f hy hfy (by unfold scanned at hs ⊢; omega) h0 hgy
  · have := (List.getElem?_eq_some_iff.1 hx).1
    exact .inl this
/-- A name that is nothing. -/
theorem CopyInv.skip {t0 t : St} {tb j f0 : Nat} {L : List Int} {x : Int} (h : CopyInv t0 t G tb L j f0) (hx : L[j]? = some x) (hf : f0 < refsOf t0 x) (hrw : refsOf t0 x ≤ wordsOf t0 x) (hw : t0.nw (x.toNat + 1 + f0) = 0) : CopyInv t0 t G tb L j (f0 + 1) := by
  refine h.follow hx hf hrw hw (fun h => absurd rfl h) fun p => ?_
  split
  · rename_i e
    subst e
    rw [h.body j x f0 hx (by omega), if_neg]
    · rw [hw]; unfold fwd; rw [if_pos rfl]
    · rintro ⟨_, hs⟩; unfold scanned at hs; omega
  · rfl
/-- An object is through. -/
theorem CopyInv.next {t0 t : St} {tb j f0 : Nat} {L : List Int} {x : Int} (h : CopyInv t0 t G tb L j f0) (hx : L[j]? = some x) (hf : f0 = refsOf t0 x) : CopyInv t0 t G tb L (j + 1) 0 := by
  have hj := (List.getElem?_eq_some_iff.1 hx).1
  refine ⟨h.fine, h.head, ?_, h.far, ?_, by omega⟩
  · intro i y f hy hfy
    rw [h.body i y f hy hfy]
    have hsc : (f < refsOf t0 y ∧ scanned j f0 i f) ↔ (f < refsOf t0 y ∧ scanned (j + 1) 0 i f) := by
      unfold scanned
      constructor
      · rintro ⟨h1, h2⟩; exact ⟨h1, by omega⟩
      · rintro ⟨h1, h2⟩
        refine ⟨h1, ?_⟩
        rcases Nat.lt_or_ge i j with h3 | h3
        · exact .inl h3
        · obtain rfl : i = j := by omega
          rw [hx] at hy
          injection hy with hy
          subst hy
          exact .inr ⟨rfl, by omega⟩
    simp only [hsc]
  · intro i y f hy hfy hs h0 hgy
    refine h.clos i y f hy hfy ?_ h0 hgy
    unfold scanned at hs ⊢
    rcases Nat.lt_or_ge i j with h3 | h3
    · exact .inl h3
    · obtain rfl : i = j := by omega
      rw [hx] at hy
      injection hy with hy
      subst hy
      exact .inr ⟨rfl, by omega⟩
end

theorem isOb_congr {t t' : St} {k : Kfg} {a u : Nat} (h : ∀ p, k.from_ a ≤ p → p < k.from_ a + u → t'.nw p = t.nw p) : isOb t' k a u = isOb t k a u := by
  funext x
  unfold isOb
  cases hB : hasB k a u x with
  | false => rfl
  | true =>
    unfold hasB at hB
    rw [Bool.and_eq_true, decide_eq_true_iff, decide_eq_true_iff] at hB
    obtain ⟨p, rfl⟩ : ∃ p : Nat, x = (p : Int) := ⟨x.toNat, by omega⟩
    simp only [Int.toNat_natCast]
    have e := h p (by omega) (by omega)
    have : goodAt t' (k.from_ a + u) p ↔ goodAt t (k.from_ a + u) p := by unfold goodAt; rw [e]
    simp only [this]
/-- The other space: where it begins, where it ends. -/
abbrev toA (k : Kfg) (a : Nat) : Nat := k.from_ (1 - a)
abbrev toZ (k : Kfg) (a : Nat) : Nat := k.from_ (1 - a) + up8 k.S
theorem toA_apart {k : Kfg} {a u p : Nat} (ha : a ≤ 1) (hu : u ≤ k.S) (h1 : k.from_ a ≤ p) (h2 : p < k.from_ a + u) : p < toA k a ∨ toZ k a ≤ p := by
  have h3 : k.from_ 1 = k.from_ 0 + up8 k.S := k.from_step 0
  have h4 := (up8_le k.S).1
  rcases Nat.lt_or_ge a 1 with h | h
  · obtain rfl : a = 0 := by omega
    exact .inl (by show p < k.from_ 1; omega)
  · obtain rfl : a = 1 := by omega
    exact .inr (by show k.from_ 0 + up8 k.S ≤ p; omega)
theorem toZ_words {k : Kfg} {a : Nat} (ha : a ≤ 1) (hk : k.Ok) : toZ k a ≤ k.words ∧ k.act + 2 + k.R ≤ toA k a ∧ k.words ≤ 10000 := by
  have h3 := k.from_step (1 - a)
  have h5 := Kfg.from_words hk (a := 1 - a + 1) (by omega)
  have h6 := Kfg.from_words hk (a := 1 - a) (by omega)
  have h7 := k.from_le
  unfold toZ toA
  omega
theorem toA_mod (k : Kfg) (a : Nat) : toA k a % 8 = 0 ∧ toZ k a % 8 = 0 := by
  have h1 := k.from_mod (1 - a)
  have h2 := k.from_mod (1 - a + 1)
  have h3 := k.from_step (1 - a)
  unfold toA toZ
  omega
/-- What a collection is asked of: t0 as it begins; G tells the objects among the words that it meets. -/
structure ChyOk (t0 : St) (k : Kfg) (a u : Nat) (G : Int → Bool) : Prop where
  ok : k.Ok
  ha : a ≤ 1
  hu : u ≤ k.S
  is : t0.Is k.words
  rng : t0.rng
  sub : ∀ x, G x = true → isOb t0 k a u x = true
  size : ∀ L, Fine G L → sizeF t0 L ≤ u
theorem ChyOk.at_ {t0 : St} {k : Kfg} {a u : Nat} {G : Int → Bool} (h : ChyOk t0 k a u G) {x : Int} (hx : G x = true) :
    ∃ p : Nat, x = (p : Int) ∧ k.from_ a ≤ p ∧ p < k.from_ a + u ∧ goodAt t0 (k.from_ a + u) p ∧ wordsOf t0 x ≤ 64 ∧ refsOf t0 x ≤ wordsOf t0 x ∧ p + (wordsOf t0 x + 1) ≤ k.from_ a + u ∧ headOf (t0.nw p) = ((wordsOf t0 x : Int), (refsOf t0 x : Int), true) := by
  obtain ⟨p, rfl, h1, h2, h3⟩ := isOb_in (h.sub x hx)
  have hok := headOf_ok (x := t0.nw p) (h.rng.nw p).1
  obtain ⟨e1, e2, e3, e4⟩ := hok
  have h4 := h3.2
  have e5 : (wordsOf t0 (p : Int) : Int) = (headOf (t0.nw p)).1 := by unfold wordsOf; simp only [Int.toNat_natCast]; omega
  have e6 : (refsOf t0 (p : Int) : Int) = (headOf (t0.nw p)).2.1 := by unfold refsOf; simp only [Int.toNat_natCast]; omega
  refine ⟨p, rfl, h1, h2, h3, by omega, by omega, by omega, ?_⟩
  rw [e5, e6, ← h3.1]
end Go.Proofs.Ytbdomdmnjclpdaa
set_option linter.unusedSimpArgs false
set_option linter.unusedVariables false
set_option maxRecDepth 100000
namespace Go.Proofs.Ytbdomdmnjclpdaa
open Go.RowKit Go.Shelf

theorem u_went : Try.prog.underlying 68 = some (.map 38 3) := by kernel_rfl
theorem zero_int (w : World) : (zeroValue 3).run Try.prog w = .ok (.int .i64 0) w := by kernel_rfl
/-- A collector's cells. -/
abbrev cyC (d : DevI) (k : Kfg) (a u : Nat) (rv : Value) (tb scan free : Nat) (tv : Value) (mr : Nat) (dn : Bool) : Array Value :=
  #[.pointer (some ⟨d.b, 0, none⟩), .int .i64 (k.L : Int), .int .i64 (k.R : Int), .int .i64 (k.S : Int), .int .i64 (a : Int), .int .i64 (u : Int), rv, .int .i64 (tb : Int), .int .i64 (scan : Int), .int .i64 (free : Int), tv, .map (some mr), .bool dn]
def wentM (t0 : St) (tb : Nat) (L : List Int) : Int → Option Value := fun x => (placeF t0 tb L x).map fun q => .int .i64 (q : Int)
theorem wentM_snoc {t0 : St} {tb : Nat} {L : List Int} {x : Int} (hx : x ∉ L) : wentM t0 tb (L ++ [x]) = mset (wentM t0 tb L) x (.int .i64 ((tb + sizeF t0 L : Nat) : Int)) := by
  funext z
  unfold wentM mset
  rw [placeF_snoc]
  by_cases h : z = x
  · subst h; rw [placeF_none.2 hx]; simp
  · simp [h]
/-- What copied does with a device. -/
def cpOps (t0 : St) (tb : Nat) (G : Int → Bool) (L : List Int) (x : Int) : List Dop := if x ∈ L ∨ G x = false then [] else copyOps t0 (tb + sizeF t0 L) x (wordsOf t0 x + 1)
theorem cpOps_old {t0 : St} {tb : Nat} {G : Int → Bool} {L : List Int} {x : Int} (h : x ∈ L ∨ G x = false) : cpOps t0 tb G L x = [] := if_pos h
theorem cpOps_new {t0 : St} {tb : Nat} {G : Int → Bool} {L : List Int} {x : Int} (h : x ∉ L) (hg : G x = true) : cpOps t0 tb G L x = copyOps t0 (tb + sizeF t0 L) x (wordsOf t0 x + 1) := if_neg (by rintro (h1 | h1); exact h h1; rw [hg] at h1; cases h1)
/-- A map whose keys are words. -/
def wentR (g : Nat) (m : Int → Option Value) : Res := ⟨[g], fun w => IMap w g .u64 m, fun w h k hk => by simp at hk; subst hk; exact h.lt, fun w w' h e => h.same (e g (by simp))⟩

set_option maxRecDepth 100000 in
set_option maxHeartbeats 8000000 in
theorem copied_any {W : World} {S : List Nat} {X : List Res} {G : Int → Bool} (d : DevI) (t0 t : St) (k : Kfg) (a u gx mr sc j f0 : Nat) (y : Int) (tv : Value) (dn : Bool) (L : List Int) (RA : Option Addr) (RL RC : Nat) (w : World) (hC : ChyOk t0 k a u G)
    (hM : Moved (toA k a) (toZ k a) t0 t) (hI : CopyInv t0 t G (toA k a) L j f0) (hx : 0 ≤ y ∧ y ≤ 18446744073709551615) (hg : isOb t0 k a u y = G y) (htv : ∃ A n c, tv = .slice A n c)
    (hs : Sep W S ([devR d (t), blkR gx 70 (cyC d k a u (.slice RA RL RC) (toA k a) sc (toA k a + sizeF t0 L) tv mr dn), wentR mr (wentM t0 (toA k a) L)] ++ X) w) :
    Calls Try.prog 37 #[.pointer (some ⟨gx, 0, none⟩), .int .u64 y] w fun e w' =>
      (e = .returned (.int .i64 (((placeF t0 (toA k a) (seeF G L y) y).getD 0 : Nat) : Int)) ∧ ∃ t', t' = t.run (cpOps t0 (toA k a) G L y) ∧ Moved (toA k a) (toZ k a) t t' ∧ CopyInv t0 t' G (toA k a) (seeF G L y) j f0 ∧ Sep W S ([devR d (t'), blkR gx 70 (cyC d k a u (.slice RA RL RC) (toA k a) sc (toA k a + sizeF t0 (seeF G L y)) tv mr dn), wentR mr (wentM t0 (toA k a) (seeF G L y))] ++ X) w') ∨
      (e = offE ∧ 0 ≤ t.l ∧ ∃ t', Moved (toA k a) (toZ k a) t t' ∧ Sep W S [devR d t'] w') := by
  obtain ⟨TA, TN, TC, rfl⟩ := htv
  have HS := Lib.hid hs
  have HC := Lib.hid hC
  have HM := Lib.hid hM
  have HI := Lib.hid hI
  have HK := Lib.hid hC.ok
  have ha := hC.ha
  have hu := hC.hu
  have hkS : k.S ≤ 4096 := hC.ok.s1
  have hZW := toZ_words hC.ha hC.ok
  have hfw := Kfg.from_words hC.ok (show a ≤ 2 by omega)
  obtain ⟨tb, hto⟩ : ∃ tb, toA k a = tb := ⟨_, rfl⟩
  obtain ⟨tz, htz⟩ : ∃ tz, toZ k a = tz := ⟨_, rfl⟩
  have hmap : IMap w mr .u64 (wentM t0 (toA k a) L) := hs.all 2 _ rfl
  have hl := lookup_ok (P := Try.prog) (w := w) (T := 68) hmap u_went u_u64 y (zero_int w)
  clear hs hM hI hC hmap
  have m0 := (HS.out.blk 1 rfl).cell 11
  simp at m0
  cases hp : placeF t0 (toA k a) L y with
  | some q =>
    have hxL : y ∈ L := by
      by_cases h : y ∈ L
      · exact h
      · rw [placeF_none.2 h] at hp; cases hp
    have e1 : wentM t0 (toA k a) L y = some (.int .i64 (q : Int)) := by unfold wentM; rw [hp]; rfl
    rw [e1] at hl
    simp only [Option.getD_some, Option.isSome_some] at hl
    rw [seeF_old hxL, hp]
    simp only [Option.getD_some]
    have HXI := Lib.hid hxL
    clear e1 hp hxL
    go_enter Try.func37, Try.ntmps37
    go_wp2
    go_ret
    exact .inl ⟨rfl, t, by rw [cpOps_old (.inl HXI.out)]; rfl, Moved.refl _ _ _, HI.out, HS.out⟩
  | none =>
    have hxL : y ∉ L := placeF_none.1 hp
    have e1 : wentM t0 (toA k a) L y = none := by unfold wentM; rw [hp]; rfl
    rw [e1] at hl
    simp only [Option.getD_none, Option.isSome_none] at hl
    obtain ⟨B, hB⟩ : ∃ B, hasB k a u y = B := ⟨_, rfl⟩
    have hh := fun w => has_is k a u y (.slice RA RL RC) w HK.out (by omega) (show u ≤ 1000000000 by omega) hx
    rw [hB] at hh
    simp only [rbC, Kfg.cells] at hh
    have HH := Lib.hid hh
    have HB := Lib.hid hB
    have HXL := Lib.hid hxL
    clear e1 hp hh hB hxL
    go_enter Try.func37, Try.ntmps37
    go_upto_region 4 with fail
    clear hl m0
    have c1 : ∀ x : Ext w, x.now.cell? ⟨gx, 1, none⟩ = some (.int .i64 (k.L : Int)) := fun x => x.cell (by simpa using (HS.out.blk 1 rfl).cell 1)
    have c2 : ∀ x : Ext w, x.now.cell? ⟨gx, 2, none⟩ = some (.int .i64 (k.R : Int)) := fun x => x.cell (by simpa using (HS.out.blk 1 rfl).cell 2)
    have c3 : ∀ x : Ext w, x.now.cell? ⟨gx, 3, none⟩ = some (.int .i64 (k.S : Int)) := fun x => x.cell (by simpa using (HS.out.blk 1 rfl).cell 3)
    have c4 : ∀ x : Ext w, x.now.cell? ⟨gx, 4, none⟩ = some (.int .i64 (a : Int)) := fun x => x.cell (by simpa using (HS.out.blk 1 rfl).cell 4)
    have c5 : ∀ x : Ext w, x.now.cell? ⟨gx, 5, none⟩ = some (.int .i64 (u : Int)) := fun x => x.cell (by simpa using (HS.out.blk 1 rfl).cell 5)
    have c6 : ∀ x : Ext w, x.now.cell? ⟨gx, 6, none⟩ = some (.slice RA RL RC) := fun x => x.cell (by simpa using (HS.out.blk 1 rfl).cell 6)
    refine wp_region_ext (by kernel_rfl) (by kernel_rfl) ?_
    repeat (go_big_quiet_step ((first | (go_at_call 34; with_reducible exact Calls.ext (HH.out _)))))
    refine wpQuiet_nil ?_
    rintro _ ⟨x, rfl⟩
    replace HS := Lib.hid (HS.out.grow x.keep)
    clear c1 c2 c3 c4 c5 c6 HH
    cases B with
    | false =>
      have hno : G y = false := by rw [← hg]; unfold isOb; rw [HB.out]; rfl
      have HNO := Lib.hid hno
      have hpn := placeF_none (t := t0) (p := toA k a) |>.2 HXL.out
      have HPN := Lib.hid hpn
      clear hno hpn
      go_wp2
      go_ret
      refine .inl ⟨?_, t, by rw [cpOps_old (.inr HNO.out)]; rfl, Moved.refl _ _ _, ?_, ?_⟩
      · rw [seeF_no HNO.out, HPN.out]; rfl
      · rw [seeF_no HNO.out]; exact HI.out
      · rw [seeF_no HNO.out]; exact HS.out
    | true =>
      obtain ⟨p, rfl⟩ : ∃ p : Nat, y = (p : Int) := ⟨y.toNat, by omega⟩
      have hpi := (hasB_iff k a u p).1 HB.out
      have hnw : t.nw p = t0.nw p := HM.out.nw HC.out.is hZW.1 (toA_apart ha hu hpi.1 hpi.2)
      have hob := isOb_iff (t := t0) hpi.1 hpi.2
      rw [hg] at hob
      have hpw : IntKind.i64.wrap (p : Int) = (p : Int) := IntWalk.i64_in _ (by omega)
      have hxr := HC.out.rng.nw p
      replace HS := Lib.hid (Sep.bring (r := noR) [devR d (t), blkR gx 70 (cyC d k a u (.slice RA RL RC) (toA k a) sc (toA k a + sizeF t0 L) (.slice TA TN TC) mr dn), wentR mr (wentM t0 (toA k a) L)] _ (HS.out.add (Keep.refl _ _ _) (r := noR) trivial (by simp [noR])))
      by_cases hgd : goodAt t0 (k.from_ a + u) p
      rotate_left
      · have hno : G (p : Int) = false := by rw [hob]; simp [hgd]
        have hbad : (headOf (t0.nw p)).2.2 = false ∨ ((k.from_ a + u : Nat) : Int) - (p : Int) < (headOf (t0.nw p)).1 + 1 := by
          unfold goodAt at hgd
          cases h : (headOf (t0.nw p)).2.2 with
          | false => exact .inl rfl
          | true => exact .inr (by rw [h] at hgd; simp only [true_and] at hgd; omega)
        have hof := fun w (hd : Dev w d t) => of_bad d t k a u p (k.from_ a + u) _ _ _ _ (.slice RA RL RC) w hd HK.out ha hu hpi rfl hnw hxr.1 hxr.2 rfl hbad
        simp only [Kfg.cells, rbC] at hof
        have HOF := Lib.hid hof
        have HNO := Lib.hid hno
        have hpn := placeF_none (t := t0) (p := toA k a) |>.2 HXL.out
        have HPN := Lib.hid hpn
        clear hno hbad hof hpn hgd hob hg hnw hpi hxr
        go_wp2
        refine wp_region_st3 (W := W) (S := S) (by kernel_rfl) (by kernel_rfl) (by kernel_rfl) (fun D uu => ([devR d (t), blkR gx 70 (cyC d k a u (.slice RA RL RC) (toA k a) sc (toA k a + sizeF t0 L) (.slice TA TN TC) mr dn), wentR mr (wentM t0 (toA k a) L)] ++ [bif D 18 then ptrR (uu 18) 53 (bif D 19 then #[.int .i64 0, .int .i64 0, .int .i64 0] else #[.int .i64 0, .int .i64 0, .int .i64 0]) else noR] ++ X))
          (fun j v => match j with
            | 0 => v = .pointer (some ⟨gx, 0, none⟩)
            | 1 => v = .pointer (some ⟨gx, 0, none⟩)
            | 2 => v = .pointer (some ⟨gx, 0, none⟩)
            | 3 => v = .pointer (some ⟨d.b, 0, none⟩)
            | 4 => v = .pointer (some ⟨gx, 0, none⟩)
            | 5 => v = .pointer (some ⟨gx, 0, none⟩)
            | 6 => v = .pointer (some ⟨gx, 1, none⟩)
            | 7 => v = .agg #[.int .i64 (k.L : Int), .int .i64 (k.R : Int), .int .i64 (k.S : Int)]
            | 8 => v = .pointer (some ⟨gx, 0, none⟩)
            | 9 => v = .pointer (some ⟨gx, 0, none⟩)
            | 10 => v = .pointer (some ⟨gx, 4, none⟩)
            | 11 => v = .agg #[.int .i64 (a : Int), .int .i64 (u : Int), .slice RA RL RC]
            | 12 => v = .int .u64 (p : Int)
            | 13 => v = .int .i64 (p : Int)
            | 14 => v = ofR (0) (0) (0) 8
            | 15 => v = ofR (0) (0) (0) 8
            | 16 => v = .agg #[.int .i64 0, .int .i64 0, .int .i64 0]
            | 17 => v = .int .i64 8
            | 18 => ∃ h, v = .pointer (some ⟨h, 0, none⟩)
            | 20 => v = .int .i64 8
            | _ => True) ?start ?step ?fin
        case start => exact fun u => HS.out
        case step =>
          clear HS
          refine ⟨?_, ?_, ?_, ?_, ?_, ?_, ?_, ?_, ?_, ?_, ?_, ?_, ?_, ?_, ?_, ?_, ?_, ?_, ?_, ?_, ?_, trivial⟩
          · intro D uu w' K hD hF hl hS hK
            simp only [puts, Act.put, List.setIfInBounds_toArray, List.set_cons_succ, List.set_cons_zero, Nat.zero_add, Nat.reduceAdd]
            go_simp
            simp only [yUpon]
            exact hK _ _ rfl hS
          · intro D uu w' K hD hF hl hS hK
            have f0 := (hF 0 (by kernel_rfl)).2
            simp only at f0
            simp only [puts, Act.put, List.setIfInBounds_toArray, List.set_cons_succ, List.set_cons_zero, Nat.zero_add, Nat.reduceAdd]
            simp only [f0]
            go_simp
            simp only [yUpon]
            exact hK _ _ rfl hS
          · intro D uu w' K hD hF hl hS hK
            have f1 := (hF 1 (by kernel_rfl)).2
            simp only at f1
            simp only [puts, Act.put, List.setIfInBounds_toArray, List.set_cons_succ, List.set_cons_zero, Nat.zero_add, Nat.reduceAdd]
            simp only [f1]
            go_simp
            simp only [yUpon]
            exact hK _ _ rfl hS
          · intro D uu w' K hD hF hl hS hK
            have f2 := (hF 2 (by kernel_rfl)).2
            simp only at f2
            simp only [puts, Act.put, List.setIfInBounds_toArray, List.set_cons_succ, List.set_cons_zero, Nat.zero_add, Nat.reduceAdd]
            simp only [f2]
            have x0 := (hS.blk 1 rfl).cell 0
            simp at x0
            go_simp
            simp only [yUpon]
            exact hK _ _ rfl hS
          · intro D uu w' K hD hF hl hS hK
            simp only [puts, Act.put, List.setIfInBounds_toArray, List.set_cons_succ, List.set_cons_zero, Nat.zero_add, Nat.reduceAdd]
            go_simp
            simp only [yUpon]
            exact hK _ _ rfl hS
          · intro D uu w' K hD hF hl hS hK
            have f4 := (hF 4 (by kernel_rfl)).2
            simp only at f4
            simp only [puts, Act.put, List.setIfInBounds_toArray, List.set_cons_succ, List.set_cons_zero, Nat.zero_add, Nat.reduceAdd]
            simp only [f4]
            go_simp
            simp only [yUpon]
            exact hK _ _ rfl hS
          · intro D uu w' K hD hF hl hS hK
            have f5 := (hF 5 (by kernel_rfl)).2
            simp only at f5
            simp only [puts, Act.put, List.setIfInBounds_toArray, List.set_cons_succ, List.set_cons_zero, Nat.zero_add, Nat.reduceAdd]
            simp only [f5]
            go_simp
            simp only [yUpon]
            exact hK _ _ rfl hS
          · intro D uu w' K hD hF hl hS hK
            have f6 := (hF 6 (by kernel_rfl)).2
            simp only at f6
            simp only [puts, Act.put, List.setIfInBounds_toArray, List.set_cons_succ, List.set_cons_zero, Nat.zero_add, Nat.reduceAdd]
            simp only [f6]
            have x1 := (hS.blk 1 rfl).cell 1
            have x2 := (hS.blk 1 rfl).cell 2
            have x3 := (hS.blk 1 rfl).cell 3
            simp at x1 x2 x3
            go_simp
            simp only [yUpon]
            exact hK _ _ rfl hS
          · intro D uu w' K hD hF hl hS hK
            simp only [puts, Act.put, List.setIfInBounds_toArray, List.set_cons_succ, List.set_cons_zero, Nat.zero_add, Nat.reduceAdd]
            go_simp
            simp only [yUpon]
            exact hK _ _ rfl hS
          · intro D uu w' K hD hF hl hS hK
            have f8 := (hF 8 (by kernel_rfl)).2
            simp only at f8
            simp only [puts, Act.put, List.setIfInBounds_toArray, List.set_cons_succ, List.set_cons_zero, Nat.zero_add, Nat.reduceAdd]
            simp only [f8]
            go_simp
            simp only [yUpon]
            exact hK _ _ rfl hS
          · intro D uu w' K hD hF hl hS hK
            have f9 := (hF 9 (by kernel_rfl)).2
            simp only at f9
            simp only [puts, Act.put, List.setIfInBounds_toArray, List.set_cons_succ, List.set_cons_zero, Nat.zero_add, Nat.reduceAdd]
            simp only [f9]
            go_simp
            simp only [yUpon]
            exact hK _ _ rfl hS
          · intro D uu w' K hD hF hl hS hK
            have f10 := (hF 10 (by kernel_rfl)).2
            simp only at f10
            simp only [puts, Act.put, List.setIfInBounds_toArray, List.set_cons_succ, List.set_cons_zero, Nat.zero_add, Nat.reduceAdd]
            simp only [f10]
            have x4 := (hS.blk 1 rfl).cell 4
            have x5 := (hS.blk 1 rfl).cell 5
            have x6 := (hS.blk 1 rfl).cell 6
            simp at x4 x5 x6
            go_simp
            simp only [yUpon]
            exact hK _ _ rfl hS
          · intro D uu w' K hD hF hl hS hK
            simp only [puts, Act.put, List.setIfInBounds_toArray, List.set_cons_succ, List.set_cons_zero, Nat.zero_add, Nat.reduceAdd]
            go_simp
            simp only [yUpon]
            exact hK _ _ rfl hS
          · intro D uu w' K hD hF hl hS hK
            have f12 := (hF 12 (by kernel_rfl)).2
            simp only at f12
            simp only [puts, Act.put, List.setIfInBounds_toArray, List.set_cons_succ, List.set_cons_zero, Nat.zero_add, Nat.reduceAdd]
            simp only [f12]
            go_simp
            simp only [yUpon]
            exact hK _ _ rfl hS
          · intro D uu w' K hD hF hl hS hK
            have f3 := (hF 3 (by kernel_rfl)).2
            simp only at f3
            have f7 := (hF 7 (by kernel_rfl)).2
            simp only at f7
            have f11 := (hF 11 (by kernel_rfl)).2
            simp only at f11
            have f13 := (hF 13 (by kernel_rfl)).2
            simp only at f13
            simp only [puts, Act.put, List.setIfInBounds_toArray, List.set_cons_succ, List.set_cons_zero, Nat.zero_add, Nat.reduceAdd]
            simp only [f3, f7, f11, f13]
            go_simp
            simp only [yUpon]
            refine (HOF.out _ (hS.dev 0 rfl)).mono ?_
            rintro e w1 ⟨rfl, hkk⟩
            exact hK _ _ rfl (hS.grow hkk)
          · intro D uu w' K hD hF hl hS hK
            have f14 := (hF 14 (by kernel_rfl)).2
            simp only at f14
            simp only [puts, Act.put, List.setIfInBounds_toArray, List.set_cons_succ, List.set_cons_zero, Nat.zero_add, Nat.reduceAdd]
            simp only [f14]
            go_simp
            simp only [yUpon]
            exact hK _ _ rfl hS
          · intro D uu w' K hD hF hl hS hK
            have f15 := (hF 15 (by kernel_rfl)).2
            simp only at f15
            simp only [puts, Act.put, List.setIfInBounds_toArray, List.set_cons_succ, List.set_cons_zero, Nat.zero_add, Nat.reduceAdd]
            simp only [f15]
            go_simp
            simp only [yUpon]
            exact hK _ _ rfl hS
          · intro D uu w' K hD hF hl hS hK
            have f15 := (hF 15 (by kernel_rfl)).2
            simp only at f15
            simp only [puts, Act.put, List.setIfInBounds_toArray, List.set_cons_succ, List.set_cons_zero, Nat.zero_add, Nat.reduceAdd]
            simp only [f15]
            go_simp
            simp only [yUpon]
            exact hK _ _ rfl hS
          · intro D uu w' K hD hF hl hS hK
            simp only [puts, Act.put, List.setIfInBounds_toArray, List.set_cons_succ, List.set_cons_zero, Nat.zero_add, Nat.reduceAdd]
            have hlate := hl 19 (by kernel_rfl)
            simp only [hD, cond_false] at hS
            have hs2 := hS.step (i := 3) (r := noR) rfl (w' := w'.alloc (.cells #[.int .i64 0, .int .i64 0, .int .i64 0] 53)) ((Keep.refl _ _ _).alloc (Nat.le_refl _) _) (r' := blkR w'.heap.size 53 #[.int .i64 0, .int .i64 0, .int .i64 0]) (Blk.new _ _ _) (by simp [blkR])
            have e1 : (fset D 18 true) 18 = true := rfl
            have e2 : (fset D 18 true) 19 = false := hlate
            go_simp
            simp only [yUpon]
            refine hK _ _ ⟨_, rfl⟩ ?_
            simp only [e1, e2, cond_true, cond_false]
            exact hs2
          · intro D uu w' K hD hF hl hS hK
            have f16 := (hF 16 (by kernel_rfl)).2
            simp only at f16
            simp only [puts, Act.put, List.setIfInBounds_toArray, List.set_cons_succ, List.set_cons_zero, Nat.zero_add, Nat.reduceAdd]
            simp only [f16]
            obtain ⟨d18, g, hg⟩ := hF 18 (by kernel_rfl)
            simp only [hD, d18, hg, ptrR, cond_false, cond_true] at hS
            have x0 := (hS.blk 3 rfl).cell 0
            have x1 := (hS.blk 3 rfl).cell 1
            have x2 := (hS.blk 3 rfl).cell 2
            simp at x0 x1 x2
            have z0 := (hS.blk 3 rfl).frozen 0
            have z1 := (hS.blk 3 rfl).frozen 1
            have z2 := (hS.blk 3 rfl).frozen 2
            have hput := (((hS.put (i := 3) rfl 0 (.int .i64 0)).put (i := 3) rfl 1 (.int .i64 0)).put (i := 3) rfl 2 (.int .i64 0))
            have e1 : (fset D 19 true) 19 = true := rfl
            have e2 : (fset D 19 true) 18 = true := d18
            simp only [hg]
            go_simp
            simp only [yUpon]
            refine hK _ _ trivial ?_
            simp only [e1, e2, cond_true]
            have e4 : ∀ v, (fset uu 19 v) 18 = .pointer (some ⟨g, 0, none⟩) := fun v => hg
            simp only [e4, ptrR]
            exact hput
          · intro D uu w' K hD hF hl hS hK
            have f17 := (hF 17 (by kernel_rfl)).2
            simp only at f17
            simp only [puts, Act.put, List.setIfInBounds_toArray, List.set_cons_succ, List.set_cons_zero, Nat.zero_add, Nat.reduceAdd]
            simp only [f17]
            go_simp
            simp only [yUpon]
            exact hK _ _ rfl hS
        case fin =>
          clear HS
          intro D uu w7 hall hS
          have f18 := (hall 18 (by simp)).1
          have f19 := (hall 19 (by simp)).1
          obtain ⟨go, v18⟩ := (hall 18 (by simp)).2
          have v20 := (hall 20 (by simp)).2
          simp only at v20
          simp only [f18, f19, v18, ptrR, cond_true] at hS
          have HS := Lib.hid hS
          clear hall hS f18 f19
          simp only [puts, Act.put, List.setIfInBounds_toArray, List.set_cons_succ, List.set_cons_zero, Nat.zero_add, Nat.reduceAdd]
          simp only [v18, v20]
          clear v18 v20 HOF
          go_wp2
          go_ret
          refine .inl ⟨?_, t, by rw [cpOps_old (.inr HNO.out)]; rfl, Moved.refl _ _ _, ?_, ?_⟩
          · rw [seeF_no HNO.out, HPN.out]; rfl
          · rw [seeF_no HNO.out]; exact HI.out
          · rw [seeF_no HNO.out]; exact Sep.dropMid _ _ HS.out
      · have hyes : G (p : Int) = true := by rw [hob]; simpa using hgd
        obtain ⟨p', hp', _, _, _, hm64, hbm, hfit, hhd⟩ := HC.out.at_ hyes
        obtain rfl : p = p' := by omega
        obtain ⟨m, hm⟩ : ∃ m, wordsOf t0 (p : Int) = m := ⟨_, rfl⟩
        obtain ⟨b, hb⟩ : ∃ b, refsOf t0 (p : Int) = b := ⟨_, rfl⟩
        rw [hm, hb] at hhd
        rw [hm] at hm64 hbm hfit
        rw [hb] at hbm
        have hof := fun w (hd : Dev w d t) => of_yes d t k a u p (k.from_ a + u) _ (m : Int) (b : Int) (.slice RA RL RC) w hd HK.out ha hu hpi rfl hnw hxr.1 hxr.2 hhd (by omega)
        simp only [Kfg.cells, rbC] at hof
        have HOF := Lib.hid hof
        have hfin : Fine G (L ++ [(p : Int)]) := ⟨List.nodup_append.2 ⟨HI.out.fine.1, by simp, fun y hy z hz e => by simp at hz; subst hz; subst e; exact HXL.out hy⟩, fun y hy => (List.mem_append.1 hy).elim (HI.out.fine.2 y) (fun h => by simp at h; subst h; exact hyes)⟩
        have hsz2 := HC.out.size _ hfin
        have hsz3 : sizeF t0 (L ++ [(p : Int)]) = sizeF t0 L + (m + 1) := by rw [sizeF_append, ← hm]; simp [sizeF]
        rw [hsz3] at hsz2
        obtain ⟨fr, hfr⟩ : ∃ fr, toA k a + sizeF t0 L = fr := ⟨_, rfl⟩
        have hup := (up8_le k.S).1
        have hfrz : fr + (m + 1) ≤ toZ k a := by show fr + (m + 1) ≤ toA k a + up8 k.S; omega
        have hfra : toA k a ≤ fr := by omega
        have htI := HM.out.is HC.out.is
        have hsrc : ∀ i, i < m + 1 → ∀ j, (t.run (copyOps t0 fr (p : Int) j)).nw (p + i) = t0.nw (p + i) ∨ ¬ j ≤ m + 1 := fun i hi j => by
          by_cases hj : j ≤ m + 1
          · refine .inl ?_
            have h2 := toA_apart (p := p + i) ha hu (by omega) (by omega)
            rw [copyOps_nw htI (by omega), if_neg (by omega)]
            exact HM.out.nw HC.out.is hZW.1 h2
          · exact .inr hj
        have HSRC := Lib.hid hsrc
        have HFR := Lib.hid hfr
        have HYES := Lib.hid hyes
        have HMM : Hid (wordsOf t0 (p : Int) = m) := Lib.hid hm
        have HSZ3 := Lib.hid hsz3
        have HTI := Lib.hid htI
        rw [hfr] at HS
        have hfr2 : fr ≤ 10000 := by omega
        have hp2 : p ≤ 20000 := by omega
        clear hgd hob hg hnw hpi hxr hhd hof hfin hsz2 hsz3 hsrc hyes hm hb hfr hup htI
        go_wp2
        refine wp_region_st3 (W := W) (S := S) (by kernel_rfl) (by kernel_rfl) (by kernel_rfl) (fun D uu => ([devR d (t), blkR gx 70 (cyC d k a u (.slice RA RL RC) (toA k a) sc fr (.slice TA TN TC) mr dn), wentR mr (wentM t0 (toA k a) L)] ++ [bif D 18 then ptrR (uu 18) 53 (bif D 19 then #[.int .i64 (m : Int), .int .i64 (b : Int), .int .i64 (p : Int)] else #[.int .i64 0, .int .i64 0, .int .i64 0]) else noR] ++ X))
          (fun j v => match j with
            | 0 => v = .pointer (some ⟨gx, 0, none⟩)
            | 1 => v = .pointer (some ⟨gx, 0, none⟩)
            | 2 => v = .pointer (some ⟨gx, 0, none⟩)
            | 3 => v = .pointer (some ⟨d.b, 0, none⟩)
            | 4 => v = .pointer (some ⟨gx, 0, none⟩)
            | 5 => v = .pointer (some ⟨gx, 0, none⟩)
            | 6 => v = .pointer (some ⟨gx, 1, none⟩)
            | 7 => v = .agg #[.int .i64 (k.L : Int), .int .i64 (k.R : Int), .int .i64 (k.S : Int)]
            | 8 => v = .pointer (some ⟨gx, 0, none⟩)
            | 9 => v = .pointer (some ⟨gx, 0, none⟩)
            | 10 => v = .pointer (some ⟨gx, 4, none⟩)
            | 11 => v = .agg #[.int .i64 (a : Int), .int .i64 (u : Int), .slice RA RL RC]
            | 12 => v = .int .u64 (p : Int)
            | 13 => v = .int .i64 (p : Int)
            | 14 => v = ofR ((m : Int)) ((b : Int)) ((p : Int)) 0
            | 15 => v = ofR ((m : Int)) ((b : Int)) ((p : Int)) 0
            | 16 => v = .agg #[.int .i64 (m : Int), .int .i64 (b : Int), .int .i64 (p : Int)]
            | 17 => v = .int .i64 0
            | 18 => ∃ h, v = .pointer (some ⟨h, 0, none⟩)
            | 20 => v = .int .i64 0
            | _ => True) ?start ?step ?fin
        case start => exact fun u => HS.out
        case step =>
          clear HS
          refine ⟨?_, ?_, ?_, ?_, ?_, ?_, ?_, ?_, ?_, ?_, ?_, ?_, ?_, ?_, ?_, ?_, ?_, ?_, ?_, ?_, ?_, trivial⟩
          · intro D uu w' K hD hF hl hS hK
            simp only [puts, Act.put, List.setIfInBounds_toArray, List.set_cons_succ, List.set_cons_zero, Nat.zero_add, Nat.reduceAdd]
            go_simp
            simp only [yUpon]
            exact hK _ _ rfl hS
          · intro D uu w' K hD hF hl hS hK
            have f0 := (hF 0 (by kernel_rfl)).2
            simp only at f0
            simp only [puts, Act.put, List.setIfInBounds_toArray, List.set_cons_succ, List.set_cons_zero, Nat.zero_add, Nat.reduceAdd]
            simp only [f0]
            go_simp
            simp only [yUpon]
            exact hK _ _ rfl hS
          · intro D uu w' K hD hF hl hS hK
            have f1 := (hF 1 (by kernel_rfl)).2
            simp only at f1
            simp only [puts, Act.put, List.setIfInBounds_toArray, List.set_cons_succ, List.set_cons_zero, Nat.zero_add, Nat.reduceAdd]
            simp only [f1]
            go_simp
            simp only [yUpon]
            exact hK _ _ rfl hS
          · intro D uu w' K hD hF hl hS hK
            have f2 := (hF 2 (by kernel_rfl)).2
            simp only at f2
            simp only [puts, Act.put, List.setIfInBounds_toArray, List.set_cons_succ, List.set_cons_zero, Nat.zero_add, Nat.reduceAdd]
            simp only [f2]
            have x0 := (hS.blk 1 rfl).cell 0
            simp at x0
            go_simp
            simp only [yUpon]
            exact hK _ _ rfl hS
          · intro D uu w' K hD hF hl hS hK
            simp only [puts, Act.put, List.setIfInBounds_toArray, List.set_cons_succ, List.set_cons_zero, Nat.zero_add, Nat.reduceAdd]
            go_simp
            simp only [yUpon]
            exact hK _ _ rfl hS
          · intro D uu w' K hD hF hl hS hK
            have f4 := (hF 4 (by kernel_rfl)).2
            simp only at f4
            simp only [puts, Act.put, List.setIfInBounds_toArray, List.set_cons_succ, List.set_cons_zero, Nat.zero_add, Nat.reduceAdd]
            simp only [f4]
            go_simp
            simp only [yUpon]
            exact hK _ _ rfl hS
          · intro D uu w' K hD hF hl hS hK
            have f5 := (hF 5 (by kernel_rfl)).2
            simp only at f5
            simp only [puts, Act.put, List.setIfInBounds_toArray, List.set_cons_succ, List.set_cons_zero, Nat.zero_add, Nat.reduceAdd]
            simp only [f5]
            go_simp
            simp only [yUpon]
            exact hK _ _ rfl hS
          · intro D uu w' K hD hF hl hS hK
            have f6 := (hF 6 (by kernel_rfl)).2
            simp only at f6
            simp only [puts, Act.put, List.setIfInBounds_toArray, List.set_cons_succ, List.set_cons_zero, Nat.zero_add, Nat.reduceAdd]
            simp only [f6]
            have x1 := (hS.blk 1 rfl).cell 1
            have x2 := (hS.blk 1 rfl).cell 2
            have x3 := (hS.blk 1 rfl).cell 3
            simp at x1 x2 x3
            go_simp
            simp only [yUpon]
            exact hK _ _ rfl hS
          · intro D uu w' K hD hF hl hS hK
            simp only [puts, Act.put, List.setIfInBounds_toArray, List.set_cons_succ, List.set_cons_zero, Nat.zero_add, Nat.reduceAdd]
            go_simp
            simp only [yUpon]
            exact hK _ _ rfl hS
          · intro D uu w' K hD hF hl hS hK
            have f8 := (hF 8 (by kernel_rfl)).2
            simp only at f8
            simp only [puts, Act.put, List.setIfInBounds_toArray, List.set_cons_succ, List.set_cons_zero, Nat.zero_add, Nat.reduceAdd]
            simp only [f8]
            go_simp
            simp only [yUpon]
            exact hK _ _ rfl hS
          · intro D uu w' K hD hF hl hS hK
            have f9 := (hF 9 (by kernel_rfl)).2
            simp only at f9
            simp only [puts, Act.put, List.setIfInBounds_toArray, List.set_cons_succ, List.set_cons_zero, Nat.zero_add, Nat.reduceAdd]
            simp only [f9]
            go_simp
            simp only [yUpon]
            exact hK _ _ rfl hS
          · intro D uu w' K hD hF hl hS hK
            have f10 := (hF 10 (by kernel_rfl)).2
            simp only at f10
            simp only [puts, Act.put, List.setIfInBounds_toArray, List.set_cons_succ, List.set_cons_zero, Nat.zero_add, Nat.reduceAdd]
            simp only [f10]
            have x4 := (hS.blk 1 rfl).cell 4
            have x5 := (hS.blk 1 rfl).cell 5
            have x6 := (hS.blk 1 rfl).cell 6
            simp at x4 x5 x6
            go_simp
            simp only [yUpon]
            exact hK _ _ rfl hS
          · intro D uu w' K hD hF hl hS hK
            simp only [puts, Act.put, List.setIfInBounds_toArray, List.set_cons_succ, List.set_cons_zero, Nat.zero_add, Nat.reduceAdd]
            go_simp
            simp only [yUpon]
            exact hK _ _ rfl hS
          · intro D uu w' K hD hF hl hS hK
            have f12 := (hF 12 (by kernel_rfl)).2
            simp only at f12
            simp only [puts, Act.put, List.setIfInBounds_toArray, List.set_cons_succ, List.set_cons_zero, Nat.zero_add, Nat.reduceAdd]
            simp only [f12]
            go_simp
            simp only [yUpon]
            exact hK _ _ rfl hS
          · intro D uu w' K hD hF hl hS hK
            have f3 := (hF 3 (by kernel_rfl)).2
            simp only at f3
            have f7 := (hF 7 (by kernel_rfl)).2
            simp only at f7
            have f11 := (hF 11 (by kernel_rfl)).2
            simp only at f11
            have f13 := (hF 13 (by kernel_rfl)).2
            simp only at f13
            simp only [puts, Act.put, List.setIfInBounds_toArray, List.set_cons_succ, List.set_cons_zero, Nat.zero_add, Nat.reduceAdd]
            simp only [f3, f7, f11, f13]
            go_simp
            simp only [yUpon]
            refine (HOF.out _ (hS.dev 0 rfl)).mono ?_
            rintro e w1 ⟨rfl, hkk⟩
            exact hK _ _ rfl (hS.grow hkk)
          · intro D uu w' K hD hF hl hS hK
            have f14 := (hF 14 (by kernel_rfl)).2
            simp only at f14
            simp only [puts, Act.put, List.setIfInBounds_toArray, List.set_cons_succ, List.set_cons_zero, Nat.zero_add, Nat.reduceAdd]
            simp only [f14]
            go_simp
            simp only [yUpon]
            exact hK _ _ rfl hS
          · intro D uu w' K hD hF hl hS hK
            have f15 := (hF 15 (by kernel_rfl)).2
            simp only at f15
            simp only [puts, Act.put, List.setIfInBounds_toArray, List.set_cons_succ, List.set_cons_zero, Nat.zero_add, Nat.reduceAdd]
            simp only [f15]
            go_simp
            simp only [yUpon]
            exact hK _ _ rfl hS
          · intro D uu w' K hD hF hl hS hK
            have f15 := (hF 15 (by kernel_rfl)).2
            simp only at f15
            simp only [puts, Act.put, List.setIfInBounds_toArray, List.set_cons_succ, List.set_cons_zero, Nat.zero_add, Nat.reduceAdd]
            simp only [f15]
            go_simp
            simp only [yUpon]
            exact hK _ _ rfl hS
          · intro D uu w' K hD hF hl hS hK
            simp only [puts, Act.put, List.setIfInBounds_toArray, List.set_cons_succ, List.set_cons_zero, Nat.zero_add, Nat.reduceAdd]
            have hlate := hl 19 (by kernel_rfl)
            simp only [hD, cond_false] at hS
            have hs2 := hS.step (i := 3) (r := noR) rfl (w' := w'.alloc (.cells #[.int .i64 0, .int .i64 0, .int .i64 0] 53)) ((Keep.refl _ _ _).alloc (Nat.le_refl _) _) (r' := blkR w'.heap.size 53 #[.int .i64 0, .int .i64 0, .int .i64 0]) (Blk.new _ _ _) (by simp [blkR])
            have e1 : (fset D 18 true) 18 = true := rfl
            have e2 : (fset D 18 true) 19 = false := hlate
            go_simp
            simp only [yUpon]
            refine hK _ _ ⟨_, rfl⟩ ?_
            simp only [e1, e2, cond_true, cond_false]
            exact hs2
          · intro D uu w' K hD hF hl hS hK
            have f16 := (hF 16 (by kernel_rfl)).2
            simp only at f16
            simp only [puts, Act.put, List.setIfInBounds_toArray, List.set_cons_succ, List.set_cons_zero, Nat.zero_add, Nat.reduceAdd]
            simp only [f16]
            obtain ⟨d18, g, hg⟩ := hF 18 (by kernel_rfl)
            simp only [hD, d18, hg, ptrR, cond_false, cond_true] at hS
            have x0 := (hS.blk 3 rfl).cell 0
            have x1 := (hS.blk 3 rfl).cell 1
            have x2 := (hS.blk 3 rfl).cell 2
            simp at x0 x1 x2
            have z0 := (hS.blk 3 rfl).frozen 0
            have z1 := (hS.blk 3 rfl).frozen 1
            have z2 := (hS.blk 3 rfl).frozen 2
            have hput := (((hS.put (i := 3) rfl 0 (.int .i64 (m : Int))).put (i := 3) rfl 1 (.int .i64 (b : Int))).put (i := 3) rfl 2 (.int .i64 (p : Int)))
            have e1 : (fset D 19 true) 19 = true := rfl
            have e2 : (fset D 19 true) 18 = true := d18
            simp only [hg]
            go_simp
            simp only [yUpon]
            refine hK _ _ trivial ?_
            simp only [e1, e2, cond_true]
            have e4 : ∀ v, (fset uu 19 v) 18 = .pointer (some ⟨g, 0, none⟩) := fun v => hg
            simp only [e4, ptrR]
            exact hput
          · intro D uu w' K hD hF hl hS hK
            have f17 := (hF 17 (by kernel_rfl)).2
            simp only at f17
            simp only [puts, Act.put, List.setIfInBounds_toArray, List.set_cons_succ, List.set_cons_zero, Nat.zero_add, Nat.reduceAdd]
            simp only [f17]
            go_simp
            simp only [yUpon]
            exact hK _ _ rfl hS
        case fin =>
          clear HS
          intro D uu w7 hall hS
          have f18 := (hall 18 (by simp)).1
          have f19 := (hall 19 (by simp)).1
          obtain ⟨go, v18⟩ := (hall 18 (by simp)).2
          have v20 := (hall 20 (by simp)).2
          simp only at v20
          simp only [f18, f19, v18, ptrR, cond_true] at hS
          have HS := Lib.hid hS
          clear hall hS f18 f19
          simp only [puts, Act.put, List.setIfInBounds_toArray, List.set_cons_succ, List.set_cons_zero, Nat.zero_add, Nat.reduceAdd]
          simp only [v18, v20]
          clear v18 v20 HOF
          have fr0 := (HS.out.blk 1 rfl).cell 9
          simp at fr0
          go_upto_region 10 with fail
          clear fr0
          have o0 := (HS.out.blk 3 rfl).cell 0
          simp at o0
          have o1 := (HS.out.blk 3 rfl).cell 1
          simp at o1
          have hsz := fun w => hsize_eq (m : Int) (b : Int) ((m : Int) + 1) w (by omega) (by omega) rfl
          have HSZ := Lib.hid hsz
          clear hsz
          go_wp2_with fail
          refine (HSZ.out _).mono ?_
          rintro e w8 ⟨rfl, hkk⟩
          replace HS := Lib.hid (HS.out.grow hkk)
          clear hkk o0 o1
          go_wp2_with fail
          go_loopw [60] (fun v60 wr => ∃ i : Nat, i ≤ m + 1 ∧ v60 = .int .i64 (i : Int) ∧ Sep W S ([devR d (t.run (copyOps t0 fr (p : Int) i)), blkR gx 70 (cyC d k a u (.slice RA RL RC) (toA k a) sc fr (.slice TA TN TC) mr dn), wentR mr (wentM t0 (toA k a) L)] ++ [blkR go 53 #[.int .i64 (m : Int), .int .i64 (b : Int), .int .i64 (p : Int)]] ++ X) wr) (fun v60 _ => m + 1 - (intOf v60).toNat)
          case atStart => exact ⟨0, by omega, rfl, HS.out⟩
          case round =>
            clear HS
            obtain ⟨i, hi, rfl, hs⟩ := hrel
            have HS := Lib.hid hs
            clear hs
            by_cases hlt : i < m + 1
            · have hltI : (i : Int) < (m : Int) + 1 := by omega
              have hsi := (HSRC.out i hlt i).resolve_right (by omega)
              have hq1 : IntKind.i64.wrap ((fr : Int) + (i : Int)) = ((fr + i : Nat) : Int) := by rw [IntWalk.i64_in _ (by omega)]; omega
              have hq2 : IntKind.i64.wrap ((p : Int) + (i : Int)) = ((p + i : Nat) : Int) := by rw [IntWalk.i64_in _ (by omega)]; omega
              have HSI := Lib.hid hsi
              clear hsi
              go_upto_region 13 with fail
              refine wp_region_st3 (W := W) (S := S) (by kernel_rfl) (by kernel_rfl) (by kernel_rfl) (fun D uu => ([devR d (bif D 16 then (t.run (copyOps t0 fr (p : Int) i)).op (.st (fr + i) (t0.nw (p + i))) else t.run (copyOps t0 fr (p : Int) i)), blkR gx 70 (cyC d k a u (.slice RA RL RC) (toA k a) sc fr (.slice TA TN TC) mr dn), wentR mr (wentM t0 (toA k a) L)] ++ [blkR go 53 #[.int .i64 (m : Int), .int .i64 (b : Int), .int .i64 (p : Int)]] ++ X))
                (fun j v => match j with
                  | 0 => v = .pointer (some ⟨gx, 0, none⟩)
                  | 1 => v = .pointer (some ⟨gx, 0, none⟩)
                  | 2 => v = .pointer (some ⟨gx, 0, none⟩)
                  | 3 => v = .pointer (some ⟨d.b, 0, none⟩)
                  | 4 => v = .int .i64 (fr : Int)
                  | 5 => v = .int .i64 (i : Int)
                  | 6 => v = .int .i64 ((fr + i : Nat) : Int)
                  | 7 => v = .pointer (some ⟨gx, 0, none⟩)
                  | 8 => v = .pointer (some ⟨gx, 0, none⟩)
                  | 9 => v = .pointer (some ⟨gx, 0, none⟩)
                  | 10 => v = .pointer (some ⟨d.b, 0, none⟩)
                  | 11 => v = .pointer (some ⟨go, 2, none⟩)
                  | 12 => v = .int .i64 (p : Int)
                  | 13 => v = .int .i64 (i : Int)
                  | 14 => v = .int .i64 ((p + i : Nat) : Int)
                  | 15 => v = .int .u64 (t0.nw (p + i))
                  | _ => True) ?start ?step ?fin
              case start => exact fun u => HS.out
              case step =>
                clear HS
                refine ⟨?_, ?_, ?_, ?_, ?_, ?_, ?_, ?_, ?_, ?_, ?_, ?_, ?_, ?_, ?_, ?_, ?_, trivial⟩
                · intro D uu w' K hD hF hl hS hK
                  simp only [puts, Act.put, List.setIfInBounds_toArray, List.set_cons_succ, List.set_cons_zero, Nat.zero_add, Nat.reduceAdd]
                  go_simp
                  simp only [yUpon]
                  exact hK _ _ rfl hS
                · intro D uu w' K hD hF hl hS hK
                  have f0 := (hF 0 (by kernel_rfl)).2
                  simp only at f0
                  simp only [puts, Act.put, List.setIfInBounds_toArray, List.set_cons_succ, List.set_cons_zero, Nat.zero_add, Nat.reduceAdd]
                  simp only [f0]
                  go_simp
                  simp only [yUpon]
                  exact hK _ _ rfl hS
                · intro D uu w' K hD hF hl hS hK
                  have f1 := (hF 1 (by kernel_rfl)).2
                  simp only at f1
                  simp only [puts, Act.put, List.setIfInBounds_toArray, List.set_cons_succ, List.set_cons_zero, Nat.zero_add, Nat.reduceAdd]
                  simp only [f1]
                  go_simp
                  simp only [yUpon]
                  exact hK _ _ rfl hS
                · intro D uu w' K hD hF hl hS hK
                  have f2 := (hF 2 (by kernel_rfl)).2
                  simp only at f2
                  simp only [puts, Act.put, List.setIfInBounds_toArray, List.set_cons_succ, List.set_cons_zero, Nat.zero_add, Nat.reduceAdd]
                  simp only [f2]
                  have x0 := (hS.blk 1 rfl).cell 0
                  simp at x0
                  go_simp
                  simp only [yUpon]
                  exact hK _ _ rfl hS
                · intro D uu w' K hD hF hl hS hK
                  simp only [puts, Act.put, List.setIfInBounds_toArray, List.set_cons_succ, List.set_cons_zero, Nat.zero_add, Nat.reduceAdd]
                  go_simp
                  simp only [yUpon]
                  exact hK _ _ rfl hS
                · intro D uu w' K hD hF hl hS hK
                  simp only [puts, Act.put, List.setIfInBounds_toArray, List.set_cons_succ, List.set_cons_zero, Nat.zero_add, Nat.reduceAdd]
                  go_simp
                  simp only [yUpon]
                  exact hK _ _ rfl hS
                · intro D uu w' K hD hF hl hS hK
                  have f4 := (hF 4 (by kernel_rfl)).2
                  simp only at f4
                  have f5 := (hF 5 (by kernel_rfl)).2
                  simp only at f5
                  simp only [puts, Act.put, List.setIfInBounds_toArray, List.set_cons_succ, List.set_cons_zero, Nat.zero_add, Nat.reduceAdd]
                  simp only [f4, f5]
                  go_simp
                  simp only [yUpon]
                  exact hK _ _ rfl hS
                · intro D uu w' K hD hF hl hS hK
                  simp only [puts, Act.put, List.setIfInBounds_toArray, List.set_cons_succ, List.set_cons_zero, Nat.zero_add, Nat.reduceAdd]
                  go_simp
                  simp only [yUpon]
                  exact hK _ _ rfl hS
                · intro D uu w' K hD hF hl hS hK
                  have f7 := (hF 7 (by kernel_rfl)).2
                  simp only at f7
                  simp only [puts, Act.put, List.setIfInBounds_toArray, List.set_cons_succ, List.set_cons_zero, Nat.zero_add, Nat.reduceAdd]
                  simp only [f7]
                  go_simp
                  simp only [yUpon]
                  exact hK _ _ rfl hS
                · intro D uu w' K hD hF hl hS hK
                  have f8 := (hF 8 (by kernel_rfl)).2
                  simp only at f8
                  simp only [puts, Act.put, List.setIfInBounds_toArray, List.set_cons_succ, List.set_cons_zero, Nat.zero_add, Nat.reduceAdd]
                  simp only [f8]
                  go_simp
                  simp only [yUpon]
                  exact hK _ _ rfl hS
                · intro D uu w' K hD hF hl hS hK
                  have f9 := (hF 9 (by kernel_rfl)).2
                  simp only at f9
                  simp only [puts, Act.put, List.setIfInBounds_toArray, List.set_cons_succ, List.set_cons_zero, Nat.zero_add, Nat.reduceAdd]
                  simp only [f9]
                  have x0 := (hS.blk 1 rfl).cell 0
                  simp at x0
                  go_simp
                  simp only [yUpon]
                  exact hK _ _ rfl hS
                · intro D uu w' K hD hF hl hS hK
                  simp only [puts, Act.put, List.setIfInBounds_toArray, List.set_cons_succ, List.set_cons_zero, Nat.zero_add, Nat.reduceAdd]
                  go_simp
                  simp only [yUpon]
                  exact hK _ _ rfl hS
                · intro D uu w' K hD hF hl hS hK
                  have f11 := (hF 11 (by kernel_rfl)).2
                  simp only at f11
                  simp only [puts, Act.put, List.setIfInBounds_toArray, List.set_cons_succ, List.set_cons_zero, Nat.zero_add, Nat.reduceAdd]
                  simp only [f11]
                  have x2 := (hS.blk 3 rfl).cell 2
                  simp at x2
                  go_simp
                  simp only [yUpon]
                  exact hK _ _ rfl hS
                · intro D uu w' K hD hF hl hS hK
                  simp only [puts, Act.put, List.setIfInBounds_toArray, List.set_cons_succ, List.set_cons_zero, Nat.zero_add, Nat.reduceAdd]
                  go_simp
                  simp only [yUpon]
                  exact hK _ _ rfl hS
                · intro D uu w' K hD hF hl hS hK
                  have f12 := (hF 12 (by kernel_rfl)).2
                  simp only at f12
                  have f13 := (hF 13 (by kernel_rfl)).2
                  simp only at f13
                  simp only [puts, Act.put, List.setIfInBounds_toArray, List.set_cons_succ, List.set_cons_zero, Nat.zero_add, Nat.reduceAdd]
                  simp only [f12, f13]
                  go_simp
                  simp only [yUpon]
                  exact hK _ _ rfl hS
                · intro D uu w' K hD hF hl hS hK
                  have f10 := (hF 10 (by kernel_rfl)).2
                  simp only at f10
                  have f14 := (hF 14 (by kernel_rfl)).2
                  simp only at f14
                  simp only [puts, Act.put, List.setIfInBounds_toArray, List.set_cons_succ, List.set_cons_zero, Nat.zero_add, Nat.reduceAdd]
                  simp only [f10, f14]
                  have h16 := hl 16 (by kernel_rfl)
                  have hS1 := hS
                  simp only [h16, cond_false] at hS1
                  go_simp
                  simp only [yUpon]
                  refine (load_is d _ (p + i) _ _ (hS1.dev 0 rfl) HSI.out).mono ?_
                  rintro e w1 ⟨rfl, rfl⟩
                  exact hK _ _ rfl hS
                · intro D uu w' K hD hF hl hS hK
                  have f3 := (hF 3 (by kernel_rfl)).2
                  simp only at f3
                  have f6 := (hF 6 (by kernel_rfl)).2
                  simp only at f6
                  have f15 := (hF 15 (by kernel_rfl)).2
                  simp only at f15
                  simp only [puts, Act.put, List.setIfInBounds_toArray, List.set_cons_succ, List.set_cons_zero, Nat.zero_add, Nat.reduceAdd]
                  simp only [f3, f6, f15]
                  simp only [hD, cond_false] at hS
                  have e1 : (fset D 16 true) 16 = true := rfl
                  go_simp
                  simp only [yUpon]
                  refine (store_op d _ (fr + i) (t0.nw (p + i)) _ (hS.dev 0 rfl) (by rw [(HTI.out.run _).now]; omega)).mono ?_
                  rintro e w1 (⟨rfl, hd, hkk⟩ | ⟨hgo, rfl, hd, hkk⟩)
                  · refine hK _ _ trivial ?_
                    simp only [e1, cond_true]
                    exact hS.did (i := 0) rfl hd hkk
                  · exact ⟨rfl, .inr ⟨rfl, by have := hgo.1; rwa [St.run_l] at this, _, ⟨_, copyOps_in HC.out.rng hfra (by omega), rfl⟩, (hS.did (i := 0) rfl hd hkk).take 1⟩⟩
              case fin =>
                clear HS
                intro D uu w9 hall hS
                have f16 := (hall 16 (by simp)).1
                simp only [f16, cond_true] at hS
                have HS := Lib.hid hS
                clear hall hS f16
                simp only [puts, Act.put, List.setIfInBounds_toArray, List.set_cons_succ, List.set_cons_zero, Nat.zero_add, Nat.reduceAdd]
                go_wp2
                have hcs := copyOps_snoc t0 fr (p : Int) i
                rw [Int.toNat_natCast] at hcs
                refine ⟨⟨i + 1, by omega, by first | rfl | go_num | simp, ?_⟩, by simp [intOf]; omega⟩
                rw [hcs, St.run_snoc]
                exact HS.out
            · have hltI : ¬ (i : Int) < (m : Int) + 1 := by omega
              obtain rfl : i = m + 1 := by omega
              have hq1 : IntKind.i64.wrap ((fr : Int) + ((m : Int) + 1)) = ((fr + (m + 1) : Nat) : Int) := by rw [IntWalk.i64_in _ (by omega)]; omega
              have hcp : CopyInv t0 (t.run (copyOps t0 fr (p : Int) (m + 1))) G (toA k a) (L ++ [(p : Int)]) j f0 := by
                refine HI.out.copy HXL.out HYES.out fun z => ?_
                rw [copyOps_nw HTI.out (by omega), HFR.out, HMM.out]
              have hmv : Moved (toA k a) (toZ k a) t (t.run (copyOps t0 fr (p : Int) (m + 1))) := ⟨_, copyOps_in HC.out.rng hfra (by omega), rfl⟩
              have HCP := Lib.hid hcp
              have HMV := Lib.hid hmv
              obtain ⟨t', ht'⟩ : ∃ t', t.run (copyOps t0 fr (p : Int) (m + 1)) = t' := ⟨_, rfl⟩
              have HT2 : Hid (t' = t.run (cpOps t0 (toA k a) G L (p : Int))) := Lib.hid (by rw [cpOps_new HXL.out HYES.out, HFR.out, HMM.out]; exact ht'.symm)
              rw [ht'] at HS HCP HMV
              clear hcp hmv ht' hlt hltI
              go_upto_region 15 with fail
              refine wp_region_st3 (W := W) (S := S) (by kernel_rfl) (by kernel_rfl) (by kernel_rfl) (fun D uu => ([devR d t', blkR gx 70 (bif D 10 then (cyC d k a u (.slice RA RL RC) (toA k a) sc (fr + (m + 1)) (.slice TA TN TC) mr dn) else (cyC d k a u (.slice RA RL RC) (toA k a) sc fr (.slice TA TN TC) mr dn)), wentR mr (wentM t0 (toA k a) L)] ++ [blkR go 53 #[.int .i64 (m : Int), .int .i64 (b : Int), .int .i64 (p : Int)]] ++ X))
                (fun j v => match j with
                  | 0 => v = .pointer (some ⟨gx, 0, none⟩)
                  | 1 => v = .pointer (some ⟨gx, 0, none⟩)
                  | 2 => v = .pointer (some ⟨gx, 9, none⟩)
                  | 3 => v = .int .i64 (fr : Int)
                  | 4 => v = .pointer (some ⟨go, 0, none⟩)
                  | 5 => v = .agg #[.int .i64 (m : Int), .int .i64 (b : Int)]
                  | 6 => v = .int .i64 ((m : Int) + 1)
                  | 7 => v = .int .i64 ((fr + (m + 1) : Nat) : Int)
                  | 8 => v = .pointer (some ⟨gx, 0, none⟩)
                  | 9 => v = .pointer (some ⟨gx, 9, none⟩)
                  | _ => True) ?start ?step ?fin
              case start => exact fun u => HS.out
              case step =>
                clear HS
                refine ⟨?_, ?_, ?_, ?_, ?_, ?_, ?_, ?_, ?_, ?_, ?_, trivial⟩
                · intro D uu w' K hD hF hl hS hK
                  simp only [puts, Act.put, List.setIfInBounds_toArray, List.set_cons_succ, List.set_cons_zero, Nat.zero_add, Nat.reduceAdd]
                  go_simp
                  simp only [yUpon]
                  exact hK _ _ rfl hS
                · intro D uu w' K hD hF hl hS hK
                  have f0 := (hF 0 (by kernel_rfl)).2
                  simp only at f0
                  simp only [puts, Act.put, List.setIfInBounds_toArray, List.set_cons_succ, List.set_cons_zero, Nat.zero_add, Nat.reduceAdd]
                  simp only [f0]
                  go_simp
                  simp only [yUpon]
                  exact hK _ _ rfl hS
                · intro D uu w' K hD hF hl hS hK
                  have f1 := (hF 1 (by kernel_rfl)).2
                  simp only at f1
                  simp only [puts, Act.put, List.setIfInBounds_toArray, List.set_cons_succ, List.set_cons_zero, Nat.zero_add, Nat.reduceAdd]
                  simp only [f1]
                  go_simp
                  simp only [yUpon]
                  exact hK _ _ rfl hS
                · intro D uu w' K hD hF hl hS hK
                  have f2 := (hF 2 (by kernel_rfl)).2
                  simp only at f2
                  simp only [puts, Act.put, List.setIfInBounds_toArray, List.set_cons_succ, List.set_cons_zero, Nat.zero_add, Nat.reduceAdd]
                  simp only [f2]
                  have h10 := hl 10 (by kernel_rfl)
                  have hS1 := hS
                  simp only [h10, cond_false] at hS1
                  have x9 := (hS1.blk 1 rfl).cell 9
                  simp at x9
                  clear hS1
                  go_simp
                  simp only [yUpon]
                  exact hK _ _ rfl hS
                · intro D uu w' K hD hF hl hS hK
                  simp only [puts, Act.put, List.setIfInBounds_toArray, List.set_cons_succ, List.set_cons_zero, Nat.zero_add, Nat.reduceAdd]
                  go_simp
                  simp only [yUpon]
                  exact hK _ _ rfl hS
                · intro D uu w' K hD hF hl hS hK
                  have f4 := (hF 4 (by kernel_rfl)).2
                  simp only at f4
                  simp only [puts, Act.put, List.setIfInBounds_toArray, List.set_cons_succ, List.set_cons_zero, Nat.zero_add, Nat.reduceAdd]
                  simp only [f4]
                  have x0 := (hS.blk 3 rfl).cell 0
                  have x1 := (hS.blk 3 rfl).cell 1
                  simp at x0 x1
                  go_simp
                  simp only [yUpon]
                  exact hK _ _ rfl hS
                · intro D uu w' K hD hF hl hS hK
                  have f5 := (hF 5 (by kernel_rfl)).2
                  simp only at f5
                  simp only [puts, Act.put, List.setIfInBounds_toArray, List.set_cons_succ, List.set_cons_zero, Nat.zero_add, Nat.reduceAdd]
                  simp only [f5]
                  go_simp
                  simp only [yUpon]
                  refine (HSZ.out _).mono ?_
                  rintro e w1 ⟨rfl, hkk⟩
                  exact hK _ _ rfl (hS.grow hkk)
                · intro D uu w' K hD hF hl hS hK
                  have f3 := (hF 3 (by kernel_rfl)).2
                  simp only at f3
                  have f6 := (hF 6 (by kernel_rfl)).2
                  simp only at f6
                  simp only [puts, Act.put, List.setIfInBounds_toArray, List.set_cons_succ, List.set_cons_zero, Nat.zero_add, Nat.reduceAdd]
                  simp only [f3, f6]
                  go_simp
                  simp only [yUpon]
                  exact hK _ _ rfl hS
                · intro D uu w' K hD hF hl hS hK
                  have f0 := (hF 0 (by kernel_rfl)).2
                  simp only at f0
                  simp only [puts, Act.put, List.setIfInBounds_toArray, List.set_cons_succ, List.set_cons_zero, Nat.zero_add, Nat.reduceAdd]
                  simp only [f0]
                  go_simp
                  simp only [yUpon]
                  exact hK _ _ rfl hS
                · intro D uu w' K hD hF hl hS hK
                  have f8 := (hF 8 (by kernel_rfl)).2
                  simp only at f8
                  simp only [puts, Act.put, List.setIfInBounds_toArray, List.set_cons_succ, List.set_cons_zero, Nat.zero_add, Nat.reduceAdd]
                  simp only [f8]
                  go_simp
                  simp only [yUpon]
                  exact hK _ _ rfl hS
                · intro D uu w' K hD hF hl hS hK
                  have f7 := (hF 7 (by kernel_rfl)).2
                  simp only at f7
                  have f9 := (hF 9 (by kernel_rfl)).2
                  simp only at f9
                  simp only [puts, Act.put, List.setIfInBounds_toArray, List.set_cons_succ, List.set_cons_zero, Nat.zero_add, Nat.reduceAdd]
                  simp only [f7, f9]
                  simp only [hD, cond_false] at hS
                  have x9 := (hS.blk 1 rfl).cell 9
                  simp at x9
                  have z0 := (hS.blk 1 rfl).frozen 9
                  have hput := hS.put (i := 1) rfl 9 (.int .i64 ((fr + (m + 1) : Nat) : Int))
                  have e1 : (fset D 10 true) 10 = true := rfl
                  go_simp
                  simp only [yUpon]
                  refine hK _ _ trivial ?_
                  simp only [e1, cond_true]
                  exact hput
              case fin =>
                clear HS
                intro D uu w9 hall hS
                have f10 := (hall 10 (by simp)).1
                simp only [f10, cond_true] at hS
                have HS := Lib.hid hS
                clear hall hS f10
                simp only [puts, Act.put, List.setIfInBounds_toArray, List.set_cons_succ, List.set_cons_zero, Nat.zero_add, Nat.reduceAdd]
                go_upto_region 16 with fail
                have m0 := (HS.out.blk 1 rfl).cell 11
                simp at m0
                have hmap : IMap w9 mr .u64 (wentM t0 (toA k a) L) := HS.out.all 2 _ rfl
                obtain ⟨wz, hupd, hm9, hk9, _⟩ := update_keep (P := Try.prog) hmap u_went u_u64 (p : Int) (.int .i64 (fr : Int))
                have hs9 := HS.out.step (i := 2) rfl hk9 (r' := wentR mr (mset (wentM t0 (toA k a) L) (p : Int) (.int .i64 (fr : Int)))) hm9 (fun _ h => .inl h)
                have hws := wentM_snoc (t0 := t0) (tb := toA k a) HXL.out
                rw [HFR.out] at hws
                rw [← hws] at hs9
                have HS9 := Lib.hid hs9
                clear hmap hm9 hk9 hs9 hws
                go_wp2
                go_ret
                have hsn := seeF_new HXL.out HYES.out
                have hpl := placeF_snoc t0 (p : Int) (p : Int) L (toA k a)
                rw [placeF_none.2 HXL.out, if_pos rfl, HFR.out] at hpl
                refine .inl ⟨?_, t', HT2.out, HMV.out, ?_, ?_⟩
                · rw [hsn, hpl]; rfl
                · rw [hsn]; exact HCP.out
                · rw [hsn, HSZ3.out, ← Nat.add_assoc, HFR.out]
                  exact Sep.dropMid (r := blkR go 53 #[.int .i64 (m : Int), .int .i64 (b : Int), .int .i64 (p : Int)]) [devR d (t'), blkR gx 70 (cyC d k a u (.slice RA RL RC) (toA k a) sc (fr + (m + 1)) (.slice TA TN TC) mr dn), wentR mr (wentM t0 (toA k a) (L ++ [(p : Int)]))] X HS9.out
end Go.Proofs.Ytbdomdmnjclpdaa
set_option linter.unusedSimpArgs false
set_option linter.unusedVariables false
set_option maxRecDepth 100000
namespace Go.Proofs.Ytbdomdmnjclpdaa
open Go.RowKit Go.Shelf

/-- Flushes of n lines, one behind the other. -/
def flOps (tb n : Nat) : List Dop := (List.range n).map fun i => .fl (tb + 8 * i)
theorem flOps_snoc (tb n : Nat) : flOps tb (n + 1) = flOps tb n ++ [.fl (tb + 8 * n)] := by simp [flOps, List.range_succ]
theorem flOps_in {lo hi tb n : Nat} (h1 : lo ≤ tb) (h2 : ∀ i, i < n → tb + 8 * i < hi) : ∀ o ∈ flOps tb n, OpIn lo hi o := by
  intro o ho
  obtain ⟨i, hi', rfl⟩ := List.mem_map.1 ho
  have := h2 i (List.mem_range.1 hi')
  exact ⟨by omega, this⟩
theorem flOps_pd {t : St} {tb : Nat} (hm : tb % 8 = 0) : ∀ (n p : Nat), (t.run (flOps tb n)).nw p = t.nw p ∧ (t.run (flOps tb n)).pd p = if tb ≤ p ∧ p < tb + 8 * n then t.nw p else t.pd p
  | 0, p => ⟨rfl, by rw [if_neg (by omega)]; rfl⟩
  | n + 1, p => by
    obtain ⟨h1, h2⟩ := flOps_pd (t := t) hm n p
    rw [flOps_snoc, St.run_snoc]
    refine ⟨h1, ?_⟩
    show (St.flush _ _).pd p = _
    rw [St.pd_flush, h2, h1]
    by_cases h : p / 8 = (tb + 8 * n) / 8
    · rw [if_pos h, if_pos (by omega)]
    · rw [if_neg h]
      by_cases h3 : tb ≤ p ∧ p < tb + 8 * n
      · rw [if_pos h3, if_pos (by omega)]
      · rw [if_neg h3, if_neg (by omega)]
/-- All that was copied is kept. -/
def keptIn (t : St) (lo hi : Nat) : Prop := ∀ p, lo ≤ p → p < hi → t.all p (t.nw p)
theorem flOps_kept {t : St} {tb n m z : Nat} (hI : t.Is z) (hm : tb % 8 = 0) (hz : tb + 8 * n ≤ z) (hmn : m ≤ 8 * n) : keptIn (t.run (flOps tb n ++ [.fe])) tb (tb + m) := by
  intro p h1 h2
  obtain ⟨e1, e2⟩ := flOps_pd (t := t) hm n p
  rw [if_pos (by omega)] at e2
  rw [St.run_snoc]
  have hI2 := hI.run (flOps tb n)
  refine ⟨rfl, ?_, ?_⟩
  · show (St.fence _).pd p = (St.fence _).nw p
    rw [St.pd_fence hI2 (by omega), St.nw_fence, e2, e1]
  · show (St.fence _).kp p = (St.fence _).nw p
    rw [St.kp_fence hI2 (by omega), St.nw_fence, e2, e1]

set_option maxRecDepth 100000 in
set_option maxHeartbeats 8000000 in
theorem keep_any {W : World} {S : List Nat} {X : List Res} (d : DevI) (t0 t : St) (k : Kfg) (a u gx mr sc m : Nat) (tv : Value) (dn : Bool) (L : List Int) (RA : Option Addr) (RL RC : Nat) (w : World) (hk : k.Ok) (ha : a ≤ 1)
    (hI : t.Is k.words) (hm : m ≤ k.S) (htv : ∃ A n c, tv = .slice A n c)
    (hs : Sep W S ([devR d (t), blkR gx 70 (cyC d k a u (.slice RA RL RC) (toA k a) sc (toA k a + m) tv mr dn), wentR mr (wentM t0 (toA k a) L)] ++ X) w) :
    Calls Try.prog 38 #[.pointer (some ⟨gx, 0, none⟩)] w fun e w' =>
      ((∃ v, e = .returned v) ∧ ∃ t', Moved (toA k a) (toZ k a) t t' ∧ (∀ p, t'.nw p = t.nw p) ∧ keptIn t' (toA k a) (toA k a + m) ∧ Sep W S ([devR d (t'), blkR gx 70 (cyC d k a u (.slice RA RL RC) (toA k a) sc (toA k a + m) tv mr true), wentR mr (wentM t0 (toA k a) L)] ++ X) w') ∨
      (e = offE ∧ 0 ≤ t.l ∧ ∃ t', Moved (toA k a) (toZ k a) t t' ∧ Sep W S [devR d t'] w') := by
  obtain ⟨TA, TN, TC, rfl⟩ := htv
  have HS := Lib.hid hs
  have HI := Lib.hid hI
  have hkS : k.S ≤ 4096 := hk.s1
  have hZW := toZ_words ha hk
  have hmod := toA_mod k a
  have hup := up8_le k.S
  have hz : toZ k a = toA k a + up8 k.S := rfl
  obtain ⟨tb, htb⟩ : ∃ tb, toA k a = tb := ⟨_, rfl⟩
  obtain ⟨tz, htz⟩ : ∃ tz, toZ k a = tz := ⟨_, rfl⟩
  rw [htb] at HS hmod hz hZW ⊢
  rw [htz] at hmod hz hZW ⊢
  clear hs hI htb htz
  have tb2 : tb ≤ 10000 := by omega
  have s7 := (HS.out.blk 1 rfl).cell 7
  simp at s7
  go_enter Try.func38, Try.ntmps38
  go_wp2_with fail
  clear s7
  go_loopw [2] (fun v2 wr => ∃ i : Nat, (∀ j, j < i → 8 * j < m) ∧ i ≤ 1000 ∧ v2 = .int .i64 ((tb + 8 * i : Nat) : Int) ∧ Sep W S ([devR d (t.run (flOps tb i)), blkR gx 70 (cyC d k a u (.slice RA RL RC) tb sc (tb + m) (.slice TA TN TC) mr dn), wentR mr (wentM t0 (tb) L)] ++ X) wr) (fun v2 _ => tb + 10000 - (intOf v2).toNat)
  case atStart => exact ⟨0, by omega, by omega, by simp, HS.out⟩
  case round =>
    clear HS
    obtain ⟨i, him, hi, rfl, hs⟩ := hrel
    have HS := Lib.hid hs
    have HIM := Lib.hid him
    clear hs him
    have s9 := (HS.out.blk 1 rfl).cell 9
    simp at s9
    have s0 := (HS.out.blk 1 rfl).cell 0
    simp at s0
    by_cases hlt : 8 * i < m
    · have hltI : ((tb + 8 * i : Nat) : Int) < ((tb + m : Nat) : Int) := by omega
      have hltI' : (tb : Int) + 8 * (i : Int) < (tb : Int) + (m : Int) := by omega
      have hw8 : IntKind.i64.wrap (((tb + 8 * i : Nat) : Int) + 8) = ((tb + 8 * (i + 1) : Nat) : Int) := by rw [IntWalk.i64_in _ (by omega)]; omega
      have hw8' : IntKind.i64.wrap ((tb : Int) + 8 * (i : Int) + 8) = (tb : Int) + 8 * ((i : Int) + 1) := by rw [IntWalk.i64_in _ (by omega)]; omega
      have hfm : ∀ j, j < i + 1 → 8 * j < m := fun j hj => by
        rcases Nat.lt_or_ge j i with h | h
        · exact HIM.out j h
        · obtain rfl : j = i := by omega
          exact hlt
      have HFM := Lib.hid hfm
      clear hfm
      go_wp2_with fail
      rw [show (tb : Int) + 8 * (i : Int) = ((tb + 8 * i : Nat) : Int) by omega]
      refine (flush_op d _ (tb + 8 * i) _ (HS.out.dev 0 rfl) (by rw [(HI.out.run _).now]; omega)).mono ?_
      rintro e w1 (⟨rfl, hd, hkk⟩ | ⟨hgo, rfl, hd, hkk⟩)
      rotate_left
      · have hs9 := (HS.out.did (i := 0) rfl hd hkk).take 1
        exact ⟨rfl, .inr ⟨rfl, by have := hgo.1; rwa [St.run_l] at this, _, ⟨_, flOps_in (lo := tb) (hi := tz) (Nat.le_refl _) (fun j hj => by have := HIM.out j hj; omega), rfl⟩, hs9⟩⟩
      replace HS := Lib.hid (HS.out.did (i := 0) rfl hd hkk)
      clear hd hkk s9 s0
      go_wp2
      refine ⟨⟨i + 1, HFM.out, by omega, by first | rfl | go_num | simp, ?_⟩, by simp [intOf]; omega⟩
      rw [flOps_snoc, St.run_snoc]
      exact HS.out
    · have hltI : ¬ ((tb + 8 * i : Nat) : Int) < ((tb + m : Nat) : Int) := by omega
      have hltI' : ¬ (tb : Int) + 8 * (i : Int) < (tb : Int) + (m : Int) := by omega
      have hi8 : 8 * i ≤ 8 * (up8 k.S / 8) := by
        rcases Nat.eq_zero_or_pos i with h | h
        · omega
        · have := HIM.out (i - 1) (by omega); omega
      by_cases h0 : m = 0
      · subst h0
        obtain rfl : i = 0 := by
          rcases Nat.eq_zero_or_pos i with h | h
          · exact h
          · have := HIM.out 0 h; omega
        go_upto_region 4 with fail
        clear s9 s0 hltI hltI'
        have c9 : ∀ x : Ext wr, x.now.cell? ⟨gx, 9, none⟩ = some (.int .i64 ((tb + 0 : Nat) : Int)) := fun x => x.cell (by simpa using (HS.out.blk 1 rfl).cell 9)
        have c7 : ∀ x : Ext wr, x.now.cell? ⟨gx, 7, none⟩ = some (.int .i64 (tb : Int)) := fun x => x.cell (by simpa using (HS.out.blk 1 rfl).cell 7)
        have e1 : decide (((tb + 0 : Nat) : Int) > (tb : Int)) = false := by simp
        refine wp_region_ext (by kernel_rfl) (by kernel_rfl) ?_
        repeat (go_big_quiet_step ((first | fail)))
        refine wpQuiet_nil ?_
        rintro _ ⟨x, rfl⟩
        replace HS := Lib.hid (HS.out.grow x.keep)
        clear c9 c7
        have z0 := (HS.out.blk 1 rfl).frozen 12
        have s12 := (HS.out.blk 1 rfl).cell 12
        simp at s12
        have hput := HS.out.put (i := 1) rfl 12 (.bool true)
        have HS2 := Lib.hid hput
        clear hput
        go_wp2
        exact bodyPost_end (results_none rfl _ _ _) rfl (.inl ⟨⟨_, rfl⟩, t, Moved.refl _ _ _, fun _ => rfl, fun p h1 h2 => by omega, HS2.out⟩)
      · go_upto_region 4 with fail
        clear s9 s0 hltI hltI'
        have c9 : ∀ x : Ext wr, x.now.cell? ⟨gx, 9, none⟩ = some (.int .i64 ((tb + m : Nat) : Int)) := fun x => x.cell (by simpa using (HS.out.blk 1 rfl).cell 9)
        have c7 : ∀ x : Ext wr, x.now.cell? ⟨gx, 7, none⟩ = some (.int .i64 (tb : Int)) := fun x => x.cell (by simpa using (HS.out.blk 1 rfl).cell 7)
        have e1 : decide (((tb + m : Nat) : Int) > (tb : Int)) = true := by simp; omega
        have e2 : decide ((tb : Int) + (m : Int) > (tb : Int)) = true := by simp; omega
        refine wp_region_ext (by kernel_rfl) (by kernel_rfl) ?_
        repeat (go_big_quiet_step ((first | fail)))
        refine wpQuiet_nil ?_
        rintro _ ⟨x, rfl⟩
        replace HS := Lib.hid (HS.out.grow x.keep)
        clear c9 c7
        have s0 := (HS.out.blk 1 rfl).cell 0
        simp at s0
        go_wp2_with fail
        refine (fence_op d _ _ (HS.out.dev 0 rfl)).mono ?_
        rintro e w1 (⟨rfl, hd, hkk⟩ | ⟨hgo, rfl, hd, hkk⟩)
        rotate_left
        · have hs9 := (HS.out.did (i := 0) rfl hd hkk).take 1
          exact ⟨rfl, .inr ⟨rfl, by have := hgo.1; rwa [St.run_l] at this, _, ⟨_, flOps_in (lo := tb) (hi := tz) (Nat.le_refl _) (fun j hj => by have := HIM.out j hj; omega), rfl⟩, hs9⟩⟩
        replace HS := Lib.hid (HS.out.did (i := 0) rfl hd hkk)
        clear hd hkk s0
        have z0 := (HS.out.blk 1 rfl).frozen 12
        have s12 := (HS.out.blk 1 rfl).cell 12
        simp at s12
        have hput := HS.out.put (i := 1) rfl 12 (.bool true)
        have HS2 := Lib.hid hput
        clear hput
        have hmi : m ≤ 8 * i := by omega
        go_wp2
        refine bodyPost_end (results_none rfl _ _ _) rfl (.inl ⟨⟨_, rfl⟩, t.run (flOps tb i ++ [.fe]), ⟨_, ?_, rfl⟩, fun p => ?_, ?_, ?_⟩)
        · intro o ho
          rcases List.mem_append.1 ho with ho | ho
          · exact flOps_in (Nat.le_refl _) (fun j hj => by have := HIM.out j hj; omega) o ho
          · simp at ho; subst ho; trivial
        · rw [St.run_snoc]; exact (flOps_pd (by omega) i p).1
        · exact flOps_kept HI.out (by omega) (by omega) hmi
        · rw [St.run_snoc]; exact HS2.out
end Go.Proofs.Ytbdomdmnjclpdaa
set_option linter.unusedSimpArgs false
set_option linter.unusedVariables false
set_option maxRecDepth 100000
namespace Go.Proofs.Ytbdomdmnjclpdaa
open Go.RowKit Go.Shelf

/-- A collection: what is copied, the words to come, how many copies are through; is it done? -/
structure Cst where
  L : List Int
  ts : List Int
  j : Nat
  dn : Bool
def stepC (G : Int → Bool) (nm : Int → List Int) (c : Cst) : Cst :=
  if c.dn then c else match c.ts with
    | w :: r => { c with L := seeF G c.L w, ts := r }
    | [] => match c.L[c.j]? with
      | some x => { c with L := (nm x).foldl (seeF G) c.L, j := c.j + 1 }
      | none => { c with dn := true }
abbrev cyT (d : DevI) (t t0 : St) (k : Kfg) (a u gx mr : Nat) (RA : Option Addr) (RL RC : Nat) (c : Cst) (tv : Value) : List Res :=
  [devR d t, blkR gx 70 (cyC d k a u (.slice RA RL RC) (toA k a) (toA k a + sizeF t0 (c.L.take c.j)) (toA k a + sizeF t0 c.L) tv mr c.dn), wentR mr (wentM t0 (toA k a) c.L), queueR 38 1 tv c.ts.length (uw c.ts)]
structure CyInv (t0 t : St) (k : Kfg) (a u : Nat) (G : Int → Bool) (c : Cst) : Prop where
  moved : Moved (toA k a) (toZ k a) t0 t
  inv : CopyInv t0 t G (toA k a) c.L c.j 0
  kept : c.dn = true → keptIn t (toA k a) (toA k a + sizeF t0 c.L)
  words : ∀ w ∈ c.ts, (0 ≤ w ∧ w ≤ 18446744073709551615) ∧ isOb t0 k a u w = G w
def ChyRel (t0 : St) (k : Kfg) (a u : Nat) (G : Int → Bool) : Prop := ∀ x, G x = true → ∀ f, f < refsOf t0 x → t0.nw (x.toNat + 1 + f) ≠ 0 → isOb t0 k a u (t0.nw (x.toNat + 1 + f)) = G (t0.nw (x.toNat + 1 + f))
/-- What is copied behind i fields of an object. -/
def foldN (G : Int → Bool) (t0 : St) (p i : Nat) (L : List Int) : List Int := ((namesTo t0 p i).map (·.2)).foldl (seeF G) L
theorem foldN_zero (G : Int → Bool) (t0 : St) (p : Nat) (L : List Int) : foldN G t0 p 0 L = L := rfl
theorem foldN_skip {G : Int → Bool} {t0 : St} {p i : Nat} {L : List Int} (h : t0.nw (p + 1 + i) = 0) : foldN G t0 p (i + 1) L = foldN G t0 p i L := by unfold foldN; rw [namesTo_zero h]
theorem foldN_see {G : Int → Bool} {t0 : St} {p i : Nat} {L : List Int} (h : t0.nw (p + 1 + i) ≠ 0) : foldN G t0 p (i + 1) L = seeF G (foldN G t0 p i L) (t0.nw (p + 1 + i)) := by
  have h1 : namesTo t0 p (i + 1) = namesTo t0 p i ++ [(i, t0.nw (p + 1 + i))] := by
    show namesTo t0 p i ++ (if _ then _ else _) = _
    rw [if_neg h]
  unfold foldN
  rw [h1]
  simp
theorem foldN_pre (G : Int → Bool) (t0 : St) (p i : Nat) (L : List Int) : L <+: foldN G t0 p i L := foldl_pre _ _
theorem take_pre {L L' : List Int} {j : Nat} (h : L <+: L') (hj : j ≤ L.length) : L'.take j = L.take j := by
  obtain ⟨s, rfl⟩ := h
  exact List.take_append_of_le_length hj
theorem seeF_in {G : Int → Bool} {L : List Int} {x : Int} (h : G x = true) : x ∈ seeF G L x := by
  by_cases hx : x ∈ L
  · rw [seeF_old hx]; exact hx
  · rw [seeF_new hx h]; simp
theorem fwd_see {G : Int → Bool} {t0 : St} {tb : Nat} {L : List Int} {x : Int} (h0 : x ≠ 0) : fwd t0 tb (seeF G L x) x = (((placeF t0 tb (seeF G L x) x).getD 0 : Nat) : Int) := by unfold fwd; rw [if_neg h0]

/-- A call of a collection: it goes on as c', or the power goes. -/
def CyPost (W : World) (S : List Nat) (X : List Res) (d : DevI) (t0 t : St) (k : Kfg) (a u gx mr : Nat) (RA : Option Addr) (RL RC : Nat) (G : Int → Bool) (v : Value) (c : Cst) (e : Ending) (w' : World) : Prop :=
  (e = .returned v ∧ ∃ t' tv, Moved (toA k a) (toZ k a) t t' ∧ CyInv t0 t' k a u G c ∧ Sep W S (cyT d t' t0 k a u gx mr RA RL RC c tv ++ X) w') ∨
  (e = offE ∧ 0 ≤ t.l ∧ ∃ t', Moved (toA k a) (toZ k a) t t' ∧ Sep W S [devR d t'] w')
section
variable {W w' : World} {S : List Nat} {X : List Res} {d : DevI} {t0 t t' : St} {k : Kfg} {a u gx mr : Nat} {RA : Option Addr} {RL RC : Nat} {G : Int → Bool} {v tv : Value} {c : Cst} {e : Ending}
theorem CyPost.done (he : e = .returned v) (hm : Moved (toA k a) (toZ k a) t t') (hi : CyInv t0 t' k a u G c) (hs : Sep W S (cyT d t' t0 k a u gx mr RA RL RC c tv ++ X) w') : CyPost W S X d t0 t k a u gx mr RA RL RC G v c e w' := .inl ⟨he, t', tv, hm, hi, hs⟩
theorem CyPost.cut (hl : 0 ≤ t.l) (hm : Moved (toA k a) (toZ k a) t t') (hs : Sep W S [devR d t'] w') : CyPost W S X d t0 t k a u gx mr RA RL RC G v c offE w' := .inr ⟨rfl, hl, t', hm, hs⟩
end
set_option maxRecDepth 100000 in
set_option maxHeartbeats 8000000 in
theorem step_any {W : World} {S : List Nat} {X : List Res} {G : Int → Bool} (d : DevI) (t0 t : St) (k : Kfg) (a u gx mr : Nat) (c : Cst) (tv : Value) (RA : Option Addr) (RL RC : Nat) (w : World) (hC : ChyOk t0 k a u G) (hR : ChyRel t0 k a u G) (hI : CyInv t0 t k a u G c)
    (hs : Sep W S (cyT d t t0 k a u gx mr RA RL RC c tv ++ X) w) :
    Calls Try.prog 21 #[.pointer (some ⟨gx, 0, none⟩)] w fun e w' =>
      CyPost W S X d t0 t k a u gx mr RA RL RC G (.bool (stepC G (nmsOf t0) c).dn) (stepC G (nmsOf t0) c) e w' := by
  obtain ⟨L, ts, j, dn⟩ := c
  obtain ⟨hmv, hinv, hkp, hwd⟩ := hI
  simp only at hmv hinv hkp hwd
  have HS := Lib.hid hs
  have HC := Lib.hid hC
  have HR := Lib.hid hR
  have HM := Lib.hid hmv
  have HI := Lib.hid hinv
  have HWD := Lib.hid hwd
  have HK := Lib.hid hC.ok
  have ha := hC.ha
  have hu := hC.hu
  have hkS : k.S ≤ 4096 := hC.ok.s1
  have hZW := toZ_words hC.ha hC.ok
  clear hs hC hR hmv hinv hwd
  have s12 := (HS.out.blk 1 rfl).cell 12
  simp at s12
  cases dn with
  | true =>
    have HKP := Lib.hid hkp
    clear hkp
    go_enter Try.func21, Try.ntmps21
    go_wp2
    go_ret
    exact CyPost.done rfl (Moved.refl _ _ _) ⟨HM.out, HI.out, fun _ => HKP.out trivial, HWD.out⟩ HS.out
  | false =>
    clear hkp
    cases ts with
    | cons z r =>
      obtain ⟨hz, hzg⟩ := HWD.out z (by simp)
      have hq : QOk w 38 1 tv (r.length + 1) ([.int .u64 z] ++ uw r) := HS.out.all 3 _ rfl
      obtain ⟨g, off, cap, rfl, hc1, hcell, hq2⟩ := hq.pop rfl
      have k0 := hcell 0 _ rfl
      simp only [Nat.add_zero] at k0
      have hcp := copied_any (X := queueR 38 1 (.slice (some ⟨g, off, none⟩) (r.length + 1) cap) (r.length + 1) (uw (z :: r)) :: X) d t0 t k a u gx mr (toA k a + sizeF t0 (L.take j)) j 0 z (.slice (some ⟨g, off, none⟩) (r.length + 1) cap) false L RA RL RC w HC.out HM.out HI.out hz hzg ⟨_, _, _, rfl⟩ HS.out
      have HCP := Lib.hid hcp
      have hlI : (0 : Int) < ((r.length + 1 : Nat) : Int) := by omega
      have hlI' : (0 : Int) < (r.length : Int) + 1 := by omega
      clear hq hcell hcp hzg hq2
      have s10 := (HS.out.blk 1 rfl).cell 10
      simp at s10
      go_enter Try.func21, Try.ntmps21
      go_wp2_with fail
      refine HCP.out.mono ?_
      rintro e w1 (⟨rfl, t', ht', hm, hi, hs1⟩ | ⟨rfl, hl, t', hm, hs1⟩)
      rotate_left
      · exact ⟨rfl, CyPost.cut hl hm hs1⟩
      have hq1 : QOk w1 38 1 (.slice (some ⟨g, off, none⟩) (r.length + 1) cap) (r.length + 1) ([.int .u64 z] ++ uw r) := hs1.all 3 _ rfl
      obtain ⟨g', off', cap', hv, _, _, hq2⟩ := hq1.pop rfl
      injection hv with v1 v2 v3
      injection v1 with v1
      injection v1 with v4 v5 v6
      subst v3 v4 v5
      clear v2 v6 hq1 k0 HCP
      have hs2 := hs1.step (i := 3) rfl (Keep.refl _ _ _) (r' := queueR 38 1 (.slice (some ⟨g, if cap = 1 then off else off + 1, none⟩) r.length (cap - 1)) r.length (uw r)) hq2 (fun y hy => .inl (by simpa [queueR, qBlk] using hy))
      have h10 := (hs2.blk 1 rfl).cell 10
      have z10 := (hs2.blk 1 rfl).frozen 10
      simp at h10
      have hput := hs2.put (i := 1) rfl 10 (.slice (some ⟨g, if cap = 1 then off else off + 1, none⟩) r.length (cap - 1))
      have e12 := (hput.blk 1 rfl).cell 12
      simp at e12
      have hwd2 : ∀ y ∈ r, (0 ≤ y ∧ y ≤ 18446744073709551615) ∧ isOb t0 k a u y = G y := fun y hy => HWD.out y (by simp [hy])
      have htk : (seeF G L z).take j = L.take j := take_pre (seeF_pre L z) (by have := HI.out.le; omega)
      have hput2 : Sep W S (cyT d t' t0 k a u gx mr RA RL RC ⟨seeF G L z, r, j, false⟩ (.slice (some ⟨g, if cap = 1 then off else off + 1, none⟩) r.length (cap - 1)) ++ X) (w1.setCell ⟨gx, 10, none⟩ (.slice (some ⟨g, if cap = 1 then off else off + 1, none⟩) r.length (cap - 1))) := by
        simp only [cyT, htk]
        exact hput
      have hfin := CyPost.done (v := .bool false) (c := ⟨seeF G L z, r, j, false⟩) rfl hm ⟨HM.out.trans hm, hi, fun h => (by cases h), hwd2⟩ hput2
      have HFIN := Lib.hid hfin
      clear ht' hm hi hs1 hq2 hput hput2 htk hwd2 hfin hs2 HS
      by_cases hcap : cap = 1
      · subst hcap
        have HFIN2 := HFIN.out
        simp only [if_true] at HFIN2 e12
        go_wp2
        go_ret
        exact HFIN2
      · have hcI : ¬ (cap : Int) = 1 := by omega
        have HFIN2 := HFIN.out
        simp only [if_neg hcap] at HFIN2 e12
        go_wp2
        go_ret
        exact HFIN2
    | nil =>
      obtain ⟨TA, TC, rfl⟩ := QOk.val (HS.out.all 3 _ rfl : QOk w 38 1 tv 0 _)
      have s10 := (HS.out.blk 1 rfl).cell 10
      simp at s10
      have hszb : sizeF t0 L ≤ u := HC.out.size _ HI.out.fine
      by_cases hj : j < L.length
      · obtain ⟨x, hx⟩ : ∃ x, L[j]? = some x := ⟨_, List.getElem?_eq_getElem hj⟩
        have hGx := HI.out.fine.2 x (List.mem_of_getElem? hx)
        obtain ⟨p, rfl, hp1, hp2, hgd, hm64, hbm, hfit, hhd⟩ := HC.out.at_ hGx
        obtain ⟨m, hm⟩ : ∃ m, wordsOf t0 (p : Int) = m := ⟨_, rfl⟩
        obtain ⟨b, hb⟩ : ∃ b, refsOf t0 (p : Int) = b := ⟨_, rfl⟩
        rw [hm, hb] at hhd
        rw [hm] at hm64 hbm hfit
        rw [hb] at hbm
        have hlt := sizeF_lt (t := t0) hx
        rw [hm] at hlt
        obtain ⟨sc, hsc⟩ : ∃ sc, toA k a + sizeF t0 (L.take j) = sc := ⟨_, rfl⟩
        obtain ⟨fr, hfr⟩ : ∃ fr, toA k a + sizeF t0 L = fr := ⟨_, rfl⟩
        have hup := (up8_le k.S).1
        have hz : toZ k a = toA k a + up8 k.S := rfl
        have hscf : sc + (m + 1) ≤ fr := by omega
        have hfrz : fr ≤ toZ k a := by omega
        have hsca : toA k a ≤ sc := by omega
        have hxh := HI.out.head j _ hx
        rw [hsc, Int.toNat_natCast] at hxh
        have hxr := HC.out.rng.nw p
        have hld := fun w hd => load_is d t sc (t0.nw p) w hd hxh
        have hun := fun w => unpack_any (t0.nw p) w hxr.1 hxr.2
        rw [hhd] at hun
        simp only at hun
        have hsz := fun w => hsize_eq (m : Int) (b : Int) ((m : Int) + 1) w (by omega) (by omega) rfl
        have HLD := Lib.hid hld
        have HUN := Lib.hid hun
        have HSZ := Lib.hid hsz
        have HXX := Lib.hid hx
        have HMM : Hid (wordsOf t0 (p : Int) = m) := Lib.hid hm
        have HBB : Hid (refsOf t0 (p : Int) = b) := Lib.hid hb
        have HSC := Lib.hid hsc
        have HFR := Lib.hid hfr
        have HGX := Lib.hid hGx
        have hs2 := HS.out
        simp only [cyT] at hs2
        rw [hsc, hfr] at hs2
        replace HS := Lib.hid hs2
        clear hs2
        have hlI : (sc : Int) < (fr : Int) := by omega
        have hlD : decide ((sc : Int) < (fr : Int)) = true := by simp; omega
        have hfr9 : fr ≤ 10000 := by omega
        clear hx hGx hgd hhd hlt hup hz hxh hxr hld hun hsz hm hb hsc hfr hfit hszb
        go_enter Try.func21, Try.ntmps21
        go_upto_region 6 with fail
        clear s10 s12
        have c8 : ∀ x : Ext w, x.now.cell? ⟨gx, 8, none⟩ = some (.int .i64 (sc : Int)) := fun x => x.cell (by simpa using (HS.out.blk 1 rfl).cell 8)
        have c9 : ∀ x : Ext w, x.now.cell? ⟨gx, 9, none⟩ = some (.int .i64 (fr : Int)) := fun x => x.cell (by simpa using (HS.out.blk 1 rfl).cell 9)
        refine wp_region_ext (by kernel_rfl) (by kernel_rfl) ?_
        repeat (go_big_quiet_step ((first | fail)))
        refine wpQuiet_nil ?_
        rintro _ ⟨x, rfl⟩
        replace HS := Lib.hid (HS.out.grow x.keep)
        clear c8 c9
        go_upto_region 7 with fail
        replace HS := Lib.hid (Sep.bring (r := noR) [devR d (t), blkR gx 70 (cyC d k a u (.slice RA RL RC) (toA k a) (sc) (fr) (.slice TA 0 TC) mr false), wentR mr (wentM t0 (toA k a) L), queueR 38 1 (.slice TA 0 TC) 0 (uw [])] X (HS.out.add (Keep.refl _ _ _) (r := noR) trivial (by simp [noR])))
        refine wp_region_st3 (W := W) (S := S) (by kernel_rfl) (by kernel_rfl) (by kernel_rfl) (fun D uu => ([devR d (t), blkR gx 70 (cyC d k a u (.slice RA RL RC) (toA k a) (sc) (fr) (.slice TA 0 TC) mr false), wentR mr (wentM t0 (toA k a) L), queueR 38 1 (.slice TA 0 TC) 0 (uw [])] ++ [bif D 13 then ptrR (uu 13) 51 (bif D 14 then #[.int .i64 (m : Int), .int .i64 (b : Int)] else #[.int .i64 0, .int .i64 0]) else noR] ++ X))
          (fun j v => match j with
            | 0 => v = .pointer (some ⟨gx, 0, none⟩)
            | 1 => v = .pointer (some ⟨gx, 0, none⟩)
            | 2 => v = .pointer (some ⟨gx, 0, none⟩)
            | 3 => v = .pointer (some ⟨d.b, 0, none⟩)
            | 4 => v = .pointer (some ⟨gx, 0, none⟩)
            | 5 => v = .pointer (some ⟨gx, 0, none⟩)
            | 6 => v = .pointer (some ⟨gx, 8, none⟩)
            | 7 => v = .int .i64 (sc : Int)
            | 8 => v = .int .u64 (t0.nw p)
            | 9 => v = .tuple #[.agg #[.int .i64 (m : Int), .int .i64 (b : Int)], .bool true]
            | 10 => v = .tuple #[.agg #[.int .i64 (m : Int), .int .i64 (b : Int)], .bool true]
            | 11 => v = .agg #[.int .i64 (m : Int), .int .i64 (b : Int)]
            | 12 => v = .bool true
            | 13 => ∃ h, v = .pointer (some ⟨h, 0, none⟩)
            | 15 => v = .bool true
            | _ => True) ?start ?step ?fin
        case start => exact fun u => HS.out
        case step =>
          clear HS
          refine ⟨?_, ?_, ?_, ?_, ?_, ?_, ?_, ?_, ?_, ?_, ?_, ?_, ?_, ?_, ?_, ?_, trivial⟩
          · intro D uu w' K hD hF hl hS hK
            simp only [puts, Act.put, List.setIfInBounds_toArray, List.set_cons_succ, List.set_cons_zero, Nat.zero_add, Nat.reduceAdd]
            go_simp
            simp only [yUpon]
            exact hK _ _ rfl hS
          · intro D uu w' K hD hF hl hS hK
            have f0 := (hF 0 (by kernel_rfl)).2
            simp only at f0
            simp only [puts, Act.put, List.setIfInBounds_toArray, List.set_cons_succ, List.set_cons_zero, Nat.zero_add, Nat.reduceAdd]
            simp only [f0]
            go_simp
            simp only [yUpon]
            exact hK _ _ rfl hS
          · intro D uu w' K hD hF hl hS hK
            have f1 := (hF 1 (by kernel_rfl)).2
            simp only at f1
            simp only [puts, Act.put, List.setIfInBounds_toArray, List.set_cons_succ, List.set_cons_zero, Nat.zero_add, Nat.reduceAdd]
            simp only [f1]
            go_simp
            simp only [yUpon]
            exact hK _ _ rfl hS
          · intro D uu w' K hD hF hl hS hK
            have f2 := (hF 2 (by kernel_rfl)).2
            simp only at f2
            simp only [puts, Act.put, List.setIfInBounds_toArray, List.set_cons_succ, List.set_cons_zero, Nat.zero_add, Nat.reduceAdd]
            simp only [f2]
            have x0 := (hS.blk 1 rfl).cell 0
            simp at x0
            go_simp
            simp only [yUpon]
            exact hK _ _ rfl hS
          · intro D uu w' K hD hF hl hS hK
            simp only [puts, Act.put, List.setIfInBounds_toArray, List.set_cons_succ, List.set_cons_zero, Nat.zero_add, Nat.reduceAdd]
            go_simp
            simp only [yUpon]
            exact hK _ _ rfl hS
          · intro D uu w' K hD hF hl hS hK
            have f4 := (hF 4 (by kernel_rfl)).2
            simp only at f4
            simp only [puts, Act.put, List.setIfInBounds_toArray, List.set_cons_succ, List.set_cons_zero, Nat.zero_add, Nat.reduceAdd]
            simp only [f4]
            go_simp
            simp only [yUpon]
            exact hK _ _ rfl hS
          · intro D uu w' K hD hF hl hS hK
            have f5 := (hF 5 (by kernel_rfl)).2
            simp only at f5
            simp only [puts, Act.put, List.setIfInBounds_toArray, List.set_cons_succ, List.set_cons_zero, Nat.zero_add, Nat.reduceAdd]
            simp only [f5]
            go_simp
            simp only [yUpon]
            exact hK _ _ rfl hS
          · intro D uu w' K hD hF hl hS hK
            have f6 := (hF 6 (by kernel_rfl)).2
            simp only at f6
            simp only [puts, Act.put, List.setIfInBounds_toArray, List.set_cons_succ, List.set_cons_zero, Nat.zero_add, Nat.reduceAdd]
            simp only [f6]
            have x8 := (hS.blk 1 rfl).cell 8
            simp at x8
            go_simp
            simp only [yUpon]
            exact hK _ _ rfl hS
          · intro D uu w' K hD hF hl hS hK
            have f3 := (hF 3 (by kernel_rfl)).2
            simp only at f3
            have f7 := (hF 7 (by kernel_rfl)).2
            simp only at f7
            simp only [puts, Act.put, List.setIfInBounds_toArray, List.set_cons_succ, List.set_cons_zero, Nat.zero_add, Nat.reduceAdd]
            simp only [f3, f7]
            go_simp
            simp only [yUpon]
            refine (HLD.out _ (hS.dev 0 rfl)).mono ?_
            rintro e w1 ⟨rfl, rfl⟩
            exact hK _ _ rfl hS
          · intro D uu w' K hD hF hl hS hK
            have f8 := (hF 8 (by kernel_rfl)).2
            simp only at f8
            simp only [puts, Act.put, List.setIfInBounds_toArray, List.set_cons_succ, List.set_cons_zero, Nat.zero_add, Nat.reduceAdd]
            simp only [f8]
            go_simp
            simp only [yUpon]
            refine (HUN.out _).mono ?_
            rintro e w1 ⟨rfl, hkk⟩
            exact hK _ _ rfl (hS.grow hkk)
          · intro D uu w' K hD hF hl hS hK
            have f9 := (hF 9 (by kernel_rfl)).2
            simp only at f9
            simp only [puts, Act.put, List.setIfInBounds_toArray, List.set_cons_succ, List.set_cons_zero, Nat.zero_add, Nat.reduceAdd]
            simp only [f9]
            go_simp
            simp only [yUpon]
            exact hK _ _ rfl hS
          · intro D uu w' K hD hF hl hS hK
            have f10 := (hF 10 (by kernel_rfl)).2
            simp only at f10
            simp only [puts, Act.put, List.setIfInBounds_toArray, List.set_cons_succ, List.set_cons_zero, Nat.zero_add, Nat.reduceAdd]
            simp only [f10]
            go_simp
            simp only [yUpon]
            exact hK _ _ rfl hS
          · intro D uu w' K hD hF hl hS hK
            have f10 := (hF 10 (by kernel_rfl)).2
            simp only at f10
            simp only [puts, Act.put, List.setIfInBounds_toArray, List.set_cons_succ, List.set_cons_zero, Nat.zero_add, Nat.reduceAdd]
            simp only [f10]
            go_simp
            simp only [yUpon]
            exact hK _ _ rfl hS
          · intro D uu w' K hD hF hl hS hK
            simp only [puts, Act.put, List.setIfInBounds_toArray, List.set_cons_succ, List.set_cons_zero, Nat.zero_add, Nat.reduceAdd]
            have hlate := hl 14 (by kernel_rfl)
            simp only [hD, cond_false] at hS
            have hs2 := hS.step (i := 4) (r := noR) rfl (w' := w'.alloc (.cells #[.int .i64 0, .int .i64 0] 51)) ((Keep.refl _ _ _).alloc (Nat.le_refl _) _) (r' := blkR w'.heap.size 51 #[.int .i64 0, .int .i64 0]) (Blk.new _ _ _) (by simp [blkR])
            have e1 : (fset D 13 true) 13 = true := rfl
            have e2 : (fset D 13 true) 14 = false := hlate
            go_simp
            simp only [yUpon]
            refine hK _ _ ⟨_, rfl⟩ ?_
            simp only [e1, e2, cond_true, cond_false]
            exact hs2
          · intro D uu w' K hD hF hl hS hK
            have f11 := (hF 11 (by kernel_rfl)).2
            simp only at f11
            simp only [puts, Act.put, List.setIfInBounds_toArray, List.set_cons_succ, List.set_cons_zero, Nat.zero_add, Nat.reduceAdd]
            simp only [f11]
            obtain ⟨d13, g, hg⟩ := hF 13 (by kernel_rfl)
            simp only [hD, d13, hg, ptrR, cond_false, cond_true] at hS
            have x0 := (hS.blk 4 rfl).cell 0
            have x1 := (hS.blk 4 rfl).cell 1
            simp at x0 x1
            have z0 := (hS.blk 4 rfl).frozen 0
            have z1 := (hS.blk 4 rfl).frozen 1
            have hput := ((hS.put (i := 4) rfl 0 (.int .i64 (m : Int))).put (i := 4) rfl 1 (.int .i64 (b : Int)))
            have e1 : (fset D 14 true) 14 = true := rfl
            have e2 : (fset D 14 true) 13 = true := d13
            simp only [hg]
            go_simp
            simp only [yUpon]
            refine hK _ _ trivial ?_
            simp only [e1, e2, cond_true]
            have e4 : ∀ v, (fset uu 14 v) 13 = .pointer (some ⟨g, 0, none⟩) := fun v => hg
            simp only [e4, ptrR]
            exact hput
          · intro D uu w' K hD hF hl hS hK
            have f12 := (hF 12 (by kernel_rfl)).2
            simp only at f12
            simp only [puts, Act.put, List.setIfInBounds_toArray, List.set_cons_succ, List.set_cons_zero, Nat.zero_add, Nat.reduceAdd]
            simp only [f12]
            go_simp
            simp only [yUpon]
            exact hK _ _ rfl hS
        case fin =>
          clear HS
          intro D uu w7 hall hS
          have f13 := (hall 13 (by simp)).1
          have f14 := (hall 14 (by simp)).1
          obtain ⟨gh, v13⟩ := (hall 13 (by simp)).2
          have v15 := (hall 15 (by simp)).2
          simp only at v15
          simp only [f13, f14, v13, ptrR, cond_true] at hS
          have HS := Lib.hid hS
          clear hall hS f13 f14
          simp only [puts, Act.put, List.setIfInBounds_toArray, List.set_cons_succ, List.set_cons_zero, Nat.zero_add, Nat.reduceAdd]
          simp only [v13, v15]
          clear v13 v15 HLD HUN
          have h1 := (HS.out.blk 4 rfl).cell 1
          simp at h1
          go_wp2_with fail
          clear h1
          go_loopw [62] (fun v62 wr => ∃ (i : Nat) (ti : St), i ≤ b ∧ v62 = .int .i64 (i : Int) ∧ Moved (toA k a) (toZ k a) t ti ∧ CopyInv t0 ti G (toA k a) (foldN G t0 p i L) j i ∧ Sep W S ([devR d (ti), blkR gx 70 (cyC d k a u (.slice RA RL RC) (toA k a) (sc) (toA k a + sizeF t0 (foldN G t0 p i L)) (.slice TA 0 TC) mr false), wentR mr (wentM t0 (toA k a) (foldN G t0 p i L)), queueR 38 1 (.slice TA 0 TC) 0 (uw [])] ++ [blkR gh 51 #[.int .i64 (m : Int), .int .i64 (b : Int)]] ++ X) wr) (fun v62 _ => b - (intOf v62).toNat)
          case atStart => exact ⟨0, t, by omega, rfl, Moved.refl _ _ _, HI.out, by rw [foldN_zero, HFR.out]; exact HS.out⟩
          case round =>
            clear HS
            obtain ⟨i, ti, hib, rfl, hmv, hiv, hs⟩ := hrel
            have HS := Lib.hid hs
            have HMV := Lib.hid hmv
            have HIV := Lib.hid hiv
            have hpre := foldN_pre G t0 p i L
            have htk : (foldN G t0 p i L).take j = L.take j := take_pre hpre (by omega)
            have hxi : (foldN G t0 p i L)[j]? = some (p : Int) := by
              obtain ⟨s, hs⟩ := hpre
              rw [← hs, List.getElem?_append_left hj]
              exact HXX.out
            obtain ⟨Li, hLi⟩ : ∃ Li, foldN G t0 p i L = Li := ⟨_, rfl⟩
            have HLI := Lib.hid hLi
            have HTK := Lib.hid htk
            have HXI := Lib.hid hxi
            rw [hLi] at HS HIV HTK HXI
            have hsz3 : sizeF t0 Li ≤ u := HC.out.size _ HIV.out.fine
            clear hs hmv hiv hpre htk hxi hLi
            by_cases hlt : i < b
            · have hltI : (i : Int) < (b : Int) := by omega
              have hbo := HIV.out.body j _ i HXI.out (by rw [HMM.out]; omega)
              rw [if_neg (by rintro ⟨_, h⟩; unfold scanned at h; omega), HTK.out, HSC.out, Int.toNat_natCast] at hbo
              obtain ⟨wv, hwv⟩ : ∃ wv, t0.nw (p + 1 + i) = wv := ⟨_, rfl⟩
              obtain ⟨q, hq⟩ : ∃ q, sc + 1 + i = q := ⟨_, rfl⟩
              rw [hwv, hq] at hbo
              have hwr : 0 ≤ wv ∧ wv ≤ 18446744073709551615 := by rw [← hwv]; exact HC.out.rng.nw _
              have hq1 : IntKind.i64.wrap ((sc : Int) + 1) = (sc : Int) + 1 := IntWalk.i64_in _ (by omega)
              have hq2 : IntKind.i64.wrap ((sc : Int) + 1 + (i : Int)) = (q : Int) := by rw [IntWalk.i64_in _ (by omega)]; omega
              have hlw : ∀ x : Ext wr, Calls Try.prog 32 #[.pointer (some ⟨d.b, 0, none⟩), .int .i64 (q : Int)] x.now fun e w' => e = .returned (.int .u64 wv) ∧ x.now = w' := fun x => load_is d ti q wv _ ((HS.out.dev 0 rfl).of_new x.keep) hbo
              have HLW := Lib.hid hlw
              have HWV := Lib.hid hwv
              have HQ := Lib.hid hq
              clear hbo hlw hwv
              go_upto_region 11 with fail
              have c0 : ∀ x : Ext wr, x.now.cell? ⟨gx, 0, none⟩ = some (.pointer (some ⟨d.b, 0, none⟩)) := fun x => x.cell (by simpa using (HS.out.blk 1 rfl).cell 0)
              have c8 : ∀ x : Ext wr, x.now.cell? ⟨gx, 8, none⟩ = some (.int .i64 (sc : Int)) := fun x => x.cell (by simpa using (HS.out.blk 1 rfl).cell 8)
              refine wp_region_ext (by kernel_rfl) (by kernel_rfl) ?_
              repeat (go_big_quiet_step ((first | (go_at_call 32; with_reducible exact Calls.ext_same (HLW.out _)))))
              refine wpQuiet_nil ?_
              rintro _ ⟨x, rfl⟩
              replace HS := Lib.hid (HS.out.grow x.keep)
              clear c0 c8 HLW
              by_cases hz : wv = 0
              · subst hz
                have hsk := HIV.out.skip HXI.out (by rw [HBB.out]; exact hlt) (by rw [HMM.out, HBB.out]; exact hbm) (by rw [Int.toNat_natCast]; exact HWV.out)
                have hfs := foldN_skip (G := G) (L := L) HWV.out
                rw [HLI.out] at hfs
                have HSK := Lib.hid hsk
                have HFS := Lib.hid hfs
                clear hsk hfs
                go_wp2
                refine ⟨⟨i + 1, ti, by omega, by first | rfl | go_num | simp, HMV.out, ?_, ?_⟩, by simp [intOf]; omega⟩
                · rw [HFS.out]; exact HSK.out
                · rw [HFS.out]; exact HS.out
              · have hzd : decide (wv = 0) = false := by simpa using hz
                have hzb : (wv == 0) = false := by simpa using hz
                have hzn : (wv != 0) = true := by simpa using hz
                have hrel := HR.out (p : Int) HGX.out i (by rw [HBB.out]; exact hlt) (by rw [Int.toNat_natCast, HWV.out]; exact hz)
                rw [Int.toNat_natCast, HWV.out] at hrel
                have hcp := fun w hs => copied_any (W := W) (S := S) (X := queueR 38 1 (.slice TA 0 TC) 0 (uw []) :: blkR gh 51 #[.int .i64 (m : Int), .int .i64 (b : Int)] :: X) d t0 ti k a u gx mr sc j i wv (.slice TA 0 TC) false Li RA RL RC w HC.out (HM.out.trans HMV.out) HIV.out hwr hrel ⟨_, _, _, rfl⟩ hs
                have HCP := Lib.hid hcp
                have hfn2 : Fine G (seeF G Li wv) := HIV.out.fine.see wv
                have hsz4 : sizeF t0 (seeF G Li wv) ≤ u := HC.out.size _ hfn2
                obtain ⟨pv, hpv⟩ : ∃ pv, (placeF t0 (toA k a) (seeF G Li wv) wv).getD 0 = pv := ⟨_, rfl⟩
                have hpv2 : pv ≤ 20000 := by
                  rw [← hpv]
                  cases hp0 : placeF t0 (toA k a) (seeF G Li wv) wv with
                  | none => simp
                  | some z =>
                    obtain ⟨i2, hi2, rfl⟩ := placeF_in hfn2.1 hp0
                    have := sizeF_lt (t := t0) hi2
                    simp
                    omega
                have hpw : IntKind.u64.wrap (pv : Int) = (pv : Int) := by rw [IntKind.wrap_u64]; omega
                have HPV := Lib.hid hpv
                have hTI : ti.Is k.words := HMV.out.is (HM.out.is HC.out.is)
                have HTI := Lib.hid hTI
                have hqw : q < k.words := by omega
                have hfrL : toA k a + sizeF t0 Li = toA k a + sizeF t0 Li := rfl
                obtain ⟨P13, hP13⟩ : ∃ P : Prop, P ↔ (Moved (toA k a) (toZ k a) ti (ti.run (cpOps t0 (toA k a) G Li wv)) ∧ CopyInv t0 (ti.run (cpOps t0 (toA k a) G Li wv)) G (toA k a) (seeF G Li wv) j i) := ⟨_, Iff.rfl⟩
                have HP13 := Lib.hid hP13
                clear hrel hcp hfn2 hpv hTI hfrL hP13
                go_upto_region 13 with fail
                refine wp_region_st3 (W := W) (S := S) (by kernel_rfl) (by kernel_rfl) (by kernel_rfl) (fun D uu => ([devR d (bif D 15 then (ti.run (cpOps t0 (toA k a) G Li wv)).op (.st q (pv : Int)) else bif D 13 then ti.run (cpOps t0 (toA k a) G Li wv) else ti), blkR gx 70 (cyC d k a u (.slice RA RL RC) (toA k a) (sc) (toA k a + sizeF t0 (bif D 13 then seeF G Li wv else Li)) (.slice TA 0 TC) mr false), wentR mr (wentM t0 (toA k a) (bif D 13 then seeF G Li wv else Li)), queueR 38 1 (.slice TA 0 TC) 0 (uw [])] ++ [blkR gh 51 #[.int .i64 (m : Int), .int .i64 (b : Int)]] ++ X))
                  (fun j v => match j with
                    | 0 => v = .pointer (some ⟨gx, 0, none⟩)
                    | 1 => v = .pointer (some ⟨gx, 0, none⟩)
                    | 2 => v = .pointer (some ⟨gx, 0, none⟩)
                    | 3 => v = .pointer (some ⟨d.b, 0, none⟩)
                    | 4 => v = .pointer (some ⟨gx, 0, none⟩)
                    | 5 => v = .pointer (some ⟨gx, 0, none⟩)
                    | 6 => v = .pointer (some ⟨gx, 8, none⟩)
                    | 7 => v = .int .i64 (sc : Int)
                    | 8 => v = .int .i64 ((sc : Int) + 1)
                    | 9 => v = .int .i64 (i : Int)
                    | 10 => v = .int .i64 (q : Int)
                    | 11 => v = .pointer (some ⟨gx, 0, none⟩)
                    | 12 => v = .int .u64 wv
                    | 13 => v = .int .i64 (pv : Int) ∧ P13
                    | 14 => v = .int .u64 (pv : Int)
                    | _ => True) ?start ?step ?fin
                case start => exact fun u => HS.out
                case step =>
                  clear HS
                  refine ⟨?_, ?_, ?_, ?_, ?_, ?_, ?_, ?_, ?_, ?_, ?_, ?_, ?_, ?_, ?_, ?_, trivial⟩
                  · intro D uu w' K hD hF hl hS hK
                    simp only [puts, Act.put, List.setIfInBounds_toArray, List.set_cons_succ, List.set_cons_zero, Nat.zero_add, Nat.reduceAdd]
                    go_simp
                    simp only [yUpon]
                    exact hK _ _ rfl hS
                  · intro D uu w' K hD hF hl hS hK
                    have f0 := (hF 0 (by kernel_rfl)).2
                    simp only at f0
                    simp only [puts, Act.put, List.setIfInBounds_toArray, List.set_cons_succ, List.set_cons_zero, Nat.zero_add, Nat.reduceAdd]
                    simp only [f0]
                    go_simp
                    simp only [yUpon]
                    exact hK _ _ rfl hS
                  · intro D uu w' K hD hF hl hS hK
                    have f1 := (hF 1 (by kernel_rfl)).2
                    simp only at f1
                    simp only [puts, Act.put, List.setIfInBounds_toArray, List.set_cons_succ, List.set_cons_zero, Nat.zero_add, Nat.reduceAdd]
                    simp only [f1]
                    go_simp
                    simp only [yUpon]
                    exact hK _ _ rfl hS
                  · intro D uu w' K hD hF hl hS hK
                    have f2 := (hF 2 (by kernel_rfl)).2
                    simp only at f2
                    simp only [puts, Act.put, List.setIfInBounds_toArray, List.set_cons_succ, List.set_cons_zero, Nat.zero_add, Nat.reduceAdd]
                    simp only [f2]
                    have x0 := (hS.blk 1 rfl).cell 0
                    simp at x0
                    go_simp
                    simp only [yUpon]
                    exact hK _ _ rfl hS
                  · intro D uu w' K hD hF hl hS hK
                    simp only [puts, Act.put, List.setIfInBounds_toArray, List.set_cons_succ, List.set_cons_zero, Nat.zero_add, Nat.reduceAdd]
                    go_simp
                    simp only [yUpon]
                    exact hK _ _ rfl hS
                  · intro D uu w' K hD hF hl hS hK
                    have f4 := (hF 4 (by kernel_rfl)).2
                    simp only at f4
                    simp only [puts, Act.put, List.setIfInBounds_toArray, List.set_cons_succ, List.set_cons_zero, Nat.zero_add, Nat.reduceAdd]
                    simp only [f4]
                    go_simp
                    simp only [yUpon]
                    exact hK _ _ rfl hS
                  · intro D uu w' K hD hF hl hS hK
                    have f5 := (hF 5 (by kernel_rfl)).2
                    simp only at f5
                    simp only [puts, Act.put, List.setIfInBounds_toArray, List.set_cons_succ, List.set_cons_zero, Nat.zero_add, Nat.reduceAdd]
                    simp only [f5]
                    go_simp
                    simp only [yUpon]
                    exact hK _ _ rfl hS
                  · intro D uu w' K hD hF hl hS hK
                    have f6 := (hF 6 (by kernel_rfl)).2
                    simp only at f6
                    simp only [puts, Act.put, List.setIfInBounds_toArray, List.set_cons_succ, List.set_cons_zero, Nat.zero_add, Nat.reduceAdd]
                    simp only [f6]
                    have x8 := (hS.blk 1 rfl).cell 8
                    simp at x8
                    go_simp
                    simp only [yUpon]
                    exact hK _ _ rfl hS
                  · intro D uu w' K hD hF hl hS hK
                    have f7 := (hF 7 (by kernel_rfl)).2
                    simp only at f7
                    simp only [puts, Act.put, List.setIfInBounds_toArray, List.set_cons_succ, List.set_cons_zero, Nat.zero_add, Nat.reduceAdd]
                    simp only [f7]
                    go_simp
                    simp only [yUpon]
                    exact hK _ _ rfl hS
                  · intro D uu w' K hD hF hl hS hK
                    simp only [puts, Act.put, List.setIfInBounds_toArray, List.set_cons_succ, List.set_cons_zero, Nat.zero_add, Nat.reduceAdd]
                    go_simp
                    simp only [yUpon]
                    exact hK _ _ rfl hS
                  · intro D uu w' K hD hF hl hS hK
                    have f8 := (hF 8 (by kernel_rfl)).2
                    simp only at f8
                    have f9 := (hF 9 (by kernel_rfl)).2
                    simp only at f9
                    simp only [puts, Act.put, List.setIfInBounds_toArray, List.set_cons_succ, List.set_cons_zero, Nat.zero_add, Nat.reduceAdd]
                    simp only [f8, f9]
                    go_simp
                    simp only [yUpon]
                    exact hK _ _ rfl hS
                  · intro D uu w' K hD hF hl hS hK
                    simp only [puts, Act.put, List.setIfInBounds_toArray, List.set_cons_succ, List.set_cons_zero, Nat.zero_add, Nat.reduceAdd]
                    go_simp
                    simp only [yUpon]
                    exact hK _ _ rfl hS
                  · intro D uu w' K hD hF hl hS hK
                    simp only [puts, Act.put, List.setIfInBounds_toArray, List.set_cons_succ, List.set_cons_zero, Nat.zero_add, Nat.reduceAdd]
                    go_simp
                    simp only [yUpon]
                    exact hK _ _ rfl hS
                  · intro D uu w' K hD hF hl hS hK
                    have f11 := (hF 11 (by kernel_rfl)).2
                    simp only at f11
                    have f12 := (hF 12 (by kernel_rfl)).2
                    simp only at f12
                    simp only [puts, Act.put, List.setIfInBounds_toArray, List.set_cons_succ, List.set_cons_zero, Nat.zero_add, Nat.reduceAdd]
                    simp only [f11, f12]
                    have h15 := hl 15 (by kernel_rfl)
                    simp only [hD, h15, cond_false] at hS
                    have e1 : (fset D 13 true) 13 = true := rfl
                    have e2 : (fset D 13 true) 15 = false := h15
                    go_simp
                    simp only [yUpon]
                    refine (HCP.out _ hS).mono ?_
                    rintro e w1 (⟨rfl, t', rfl, hm, hi, hs1⟩ | ⟨rfl, hl0, t', hm, hs1⟩)
                    · refine hK _ _ ⟨by rw [HPV.out], HP13.out.2 ⟨hm, hi⟩⟩ ?_
                      simp only [e1, e2, cond_true, cond_false]
                      exact hs1
                    · exact ⟨rfl, CyPost.cut (by rw [← HMV.out.lim]; exact hl0) (HMV.out.trans hm) hs1⟩
                  · intro D uu w' K hD hF hl hS hK
                    simp only [puts, Act.put, List.setIfInBounds_toArray, List.set_cons_succ, List.set_cons_zero, Nat.zero_add, Nat.reduceAdd]
                    have f13 := (hF 13 (by kernel_rfl)).2
                    simp only at f13
                    simp only [f13.1]
                    go_simp
                    simp only [yUpon]
                    exact hK _ _ rfl hS
                  · intro D uu w' K hD hF hl hS hK
                    have f3 := (hF 3 (by kernel_rfl)).2
                    simp only at f3
                    have f10 := (hF 10 (by kernel_rfl)).2
                    simp only at f10
                    have f14 := (hF 14 (by kernel_rfl)).2
                    simp only at f14
                    simp only [puts, Act.put, List.setIfInBounds_toArray, List.set_cons_succ, List.set_cons_zero, Nat.zero_add, Nat.reduceAdd]
                    simp only [f3, f10, f14]
                    obtain ⟨d13, g13⟩ := hF 13 (by kernel_rfl)
                    simp only at g13
                    obtain ⟨hM13, hI13⟩ := HP13.out.1 g13.2
                    have hS1 := hS
                    simp only [hD, d13, cond_false, cond_true] at hS1
                    have e1 : (fset D 15 true) 15 = true := rfl
                    have e2 : (fset D 15 true) 13 = true := d13
                    go_simp
                    simp only [yUpon]
                    refine (store_op d _ q (pv : Int) _ (hS1.dev 0 rfl) (by rw [(hM13.is HTI.out).now]; exact hqw)).mono ?_
                    rintro e w1 (⟨rfl, hd, hkk⟩ | ⟨hgo, rfl, hd, hkk⟩)
                    · refine hK _ _ trivial ?_
                      simp only [e1, e2, cond_true]
                      exact hS1.did (i := 0) rfl hd hkk
                    · exact ⟨rfl, CyPost.cut (by have h := hgo.1; rw [St.run_l] at h; rw [← HMV.out.lim]; exact h) (HMV.out.trans hM13) ((hS1.did (i := 0) rfl hd hkk).take 1)⟩
                case fin =>
                  clear HS
                  intro D uu w9 hall hS
                  have f15 := (hall 15 (by simp)).1
                  have f13 := (hall 13 (by simp)).1
                  have f13b := (hall 13 (by simp)).2
                  simp only at f13b
                  obtain ⟨hM13, hI13⟩ := HP13.out.1 f13b.2
                  simp only [f15, f13, cond_true] at hS
                  have hS13 := hS
                  clear hall hS f15 f13
                  simp only [puts, Act.put, List.setIfInBounds_toArray, List.set_cons_succ, List.set_cons_zero, Nat.zero_add, Nat.reduceAdd]
                  have hsee := foldN_see (G := G) (L := L) (p := p) (i := i) (t0 := t0) (by rw [HWV.out]; exact hz)
                  rw [HLI.out, HWV.out] at hsee
                  have hpre2 := seeF_pre (G := G) Li wv
                  have htk2 : (seeF G Li wv).take j = L.take j := by rw [take_pre hpre2 (by have := (List.getElem?_eq_some_iff.1 HXI.out).1; omega), HTK.out]
                  have hx2 : (seeF G Li wv)[j]? = some (p : Int) := by
                    obtain ⟨s, hs⟩ := hpre2
                    rw [← hs, List.getElem?_append_left (List.getElem?_eq_some_iff.1 HXI.out).1]
                    exact HXI.out
                  obtain ⟨t1, ht1⟩ : ∃ t1, ti.run (cpOps t0 (toA k a) G Li wv) = t1 := ⟨_, rfl⟩
                  rw [ht1] at hS13 hI13 hM13
                  have hI1 : t1.Is k.words := hM13.is HTI.out
                  have hfol := hI13.follow (t' := t1.op (.st q (pv : Int))) (w := wv) hx2 (by rw [HBB.out]; exact hlt) (by rw [HMM.out, HBB.out]; exact hbm) (by rw [Int.toNat_natCast]; exact HWV.out) (fun _ hg => seeF_in hg) (fun z => by
                    show (t1.store q (pv : Int)).nw z = _
                    rw [St.nw_store hI1 hqw, htk2, HSC.out, HQ.out, fwd_see hz, HPV.out])
                  have hmv2 : Moved (toA k a) (toZ k a) t (t1.op (.st q (pv : Int))) := (HMV.out.trans hM13).op ⟨by have := HQ.out; omega, by have := HQ.out; omega, by omega, by omega⟩
                  have HFOL := Lib.hid hfol
                  have HMV2 := Lib.hid hmv2
                  have HSEE := Lib.hid hsee
                  have HS := Lib.hid hS13
                  clear hpre2 htk2 hx2 ht1 hI13 hM13 hI1 hfol hmv2 hsee hS13
                  go_wp2
                  refine ⟨⟨i + 1, t1.op (.st q (pv : Int)), by omega, by first | rfl | go_num | simp, HMV2.out, ?_, ?_⟩, by simp [intOf]; omega⟩
                  · rw [HSEE.out]; exact HFOL.out
                  · rw [HSEE.out]; exact HS.out
            · have hltI : ¬ (i : Int) < (b : Int) := by omega
              obtain rfl : b = i := by omega
              have hwq : IntKind.i64.wrap ((sc : Int) + ((m : Int) + 1)) = ((sc + (m + 1) : Nat) : Int) := by rw [IntWalk.i64_in _ (by omega)]; omega
              go_upto_region 15 with fail
              refine wp_region_st3 (W := W) (S := S) (by kernel_rfl) (by kernel_rfl) (by kernel_rfl) (fun D uu => ([devR d ti, blkR gx 70 (bif D 9 then (cyC d k a u (.slice RA RL RC) (toA k a) (sc + (m + 1)) (toA k a + sizeF t0 Li) (.slice TA 0 TC) mr false) else (cyC d k a u (.slice RA RL RC) (toA k a) (sc) (toA k a + sizeF t0 Li) (.slice TA 0 TC) mr false)), wentR mr (wentM t0 (toA k a) Li), queueR 38 1 (.slice TA 0 TC) 0 (uw [])] ++ [blkR gh 51 #[.int .i64 (m : Int), .int .i64 (b : Int)]] ++ X))
                (fun j v => match j with
                  | 0 => v = .pointer (some ⟨gx, 0, none⟩)
                  | 1 => v = .pointer (some ⟨gx, 0, none⟩)
                  | 2 => v = .pointer (some ⟨gx, 8, none⟩)
                  | 3 => v = .int .i64 (sc : Int)
                  | 4 => v = .agg #[.int .i64 (m : Int), .int .i64 (b : Int)]
                  | 5 => v = .int .i64 ((m : Int) + 1)
                  | 6 => v = .int .i64 ((sc + (m + 1) : Nat) : Int)
                  | 7 => v = .pointer (some ⟨gx, 0, none⟩)
                  | 8 => v = .pointer (some ⟨gx, 8, none⟩)
                  | _ => True) ?start ?step ?fin
              case start => exact fun u => HS.out
              case step =>
                clear HS
                refine ⟨?_, ?_, ?_, ?_, ?_, ?_, ?_, ?_, ?_, ?_, trivial⟩
                · intro D uu w' K hD hF hl hS hK
                  simp only [puts, Act.put, List.setIfInBounds_toArray, List.set_cons_succ, List.set_cons_zero, Nat.zero_add, Nat.reduceAdd]
                  go_simp
                  simp only [yUpon]
                  exact hK _ _ rfl hS
                · intro D uu w' K hD hF hl hS hK
                  have f0 := (hF 0 (by kernel_rfl)).2
                  simp only at f0
                  simp only [puts, Act.put, List.setIfInBounds_toArray, List.set_cons_succ, List.set_cons_zero, Nat.zero_add, Nat.reduceAdd]
                  simp only [f0]
                  go_simp
                  simp only [yUpon]
                  exact hK _ _ rfl hS
                · intro D uu w' K hD hF hl hS hK
                  have f1 := (hF 1 (by kernel_rfl)).2
                  simp only at f1
                  simp only [puts, Act.put, List.setIfInBounds_toArray, List.set_cons_succ, List.set_cons_zero, Nat.zero_add, Nat.reduceAdd]
                  simp only [f1]
                  go_simp
                  simp only [yUpon]
                  exact hK _ _ rfl hS
                · intro D uu w' K hD hF hl hS hK
                  have f2 := (hF 2 (by kernel_rfl)).2
                  simp only at f2
                  simp only [puts, Act.put, List.setIfInBounds_toArray, List.set_cons_succ, List.set_cons_zero, Nat.zero_add, Nat.reduceAdd]
                  simp only [f2]
                  have h9 := hl 9 (by kernel_rfl)
                  have hS1 := hS
                  simp only [h9, cond_false] at hS1
                  have x8 := (hS1.blk 1 rfl).cell 8
                  simp at x8
                  clear hS1
                  go_simp
                  simp only [yUpon]
                  exact hK _ _ rfl hS
                · intro D uu w' K hD hF hl hS hK
                  simp only [puts, Act.put, List.setIfInBounds_toArray, List.set_cons_succ, List.set_cons_zero, Nat.zero_add, Nat.reduceAdd]
                  have x0 := (hS.blk 4 rfl).cell 0
                  have x1 := (hS.blk 4 rfl).cell 1
                  simp at x0 x1
                  go_simp
                  simp only [yUpon]
                  exact hK _ _ rfl hS
                · intro D uu w' K hD hF hl hS hK
                  have f4 := (hF 4 (by kernel_rfl)).2
                  simp only at f4
                  simp only [puts, Act.put, List.setIfInBounds_toArray, List.set_cons_succ, List.set_cons_zero, Nat.zero_add, Nat.reduceAdd]
                  simp only [f4]
                  go_simp
                  simp only [yUpon]
                  refine (HSZ.out _).mono ?_
                  rintro e w1 ⟨rfl, hkk⟩
                  exact hK _ _ rfl (hS.grow hkk)
                · intro D uu w' K hD hF hl hS hK
                  have f3 := (hF 3 (by kernel_rfl)).2
                  simp only at f3
                  have f5 := (hF 5 (by kernel_rfl)).2
                  simp only at f5
                  simp only [puts, Act.put, List.setIfInBounds_toArray, List.set_cons_succ, List.set_cons_zero, Nat.zero_add, Nat.reduceAdd]
                  simp only [f3, f5]
                  go_simp
                  simp only [yUpon]
                  exact hK _ _ rfl hS
                · intro D uu w' K hD hF hl hS hK
                  have f0 := (hF 0 (by kernel_rfl)).2
                  simp only at f0
                  simp only [puts, Act.put, List.setIfInBounds_toArray, List.set_cons_succ, List.set_cons_zero, Nat.zero_add, Nat.reduceAdd]
                  simp only [f0]
                  go_simp
                  simp only [yUpon]
                  exact hK _ _ rfl hS
                · intro D uu w' K hD hF hl hS hK
                  have f7 := (hF 7 (by kernel_rfl)).2
                  simp only at f7
                  simp only [puts, Act.put, List.setIfInBounds_toArray, List.set_cons_succ, List.set_cons_zero, Nat.zero_add, Nat.reduceAdd]
                  simp only [f7]
                  go_simp
                  simp only [yUpon]
                  exact hK _ _ rfl hS
                · intro D uu w' K hD hF hl hS hK
                  have f6 := (hF 6 (by kernel_rfl)).2
                  simp only at f6
                  have f8 := (hF 8 (by kernel_rfl)).2
                  simp only at f8
                  simp only [puts, Act.put, List.setIfInBounds_toArray, List.set_cons_succ, List.set_cons_zero, Nat.zero_add, Nat.reduceAdd]
                  simp only [f6, f8]
                  simp only [hD, cond_false] at hS
                  have x8 := (hS.blk 1 rfl).cell 8
                  simp at x8
                  have z0 := (hS.blk 1 rfl).frozen 8
                  have hput := hS.put (i := 1) rfl 8 (.int .i64 ((sc + (m + 1) : Nat) : Int))
                  have e1 : (fset D 9 true) 9 = true := rfl
                  go_simp
                  simp only [yUpon]
                  refine hK _ _ trivial ?_
                  simp only [e1, cond_true]
                  exact hput
              case fin =>
                clear HS
                intro D uu w9 hall hS
                have f9 := (hall 9 (by simp)).1
                simp only [f9, cond_true] at hS
                have HS := Lib.hid hS
                clear hall hS f9
                simp only [puts, Act.put, List.setIfInBounds_toArray, List.set_cons_succ, List.set_cons_zero, Nat.zero_add, Nat.reduceAdd]
                have e12 := (HS.out.blk 1 rfl).cell 12
                simp at e12
                have hnx := HIV.out.next HXI.out HBB.out.symm
                have hst : stepC G (nmsOf t0) ⟨L, [], j, false⟩ = ⟨Li, [], j + 1, false⟩ := by
                  unfold stepC
                  simp only [Bool.false_eq_true, if_false]
                  rw [HXX.out]
                  simp only
                  rw [← HLI.out]
                  unfold foldN nmsOf
                  rw [HBB.out, Int.toNat_natCast]
                have hsc2 : toA k a + sizeF t0 (Li.take (j + 1)) = sc + (m + 1) := by
                  rw [sizeF_take HXI.out, HTK.out, HMM.out, ← HSC.out]
                  omega
                have hs9 : Sep W S (cyT d ti t0 k a u gx mr RA RL RC ⟨Li, [], j + 1, false⟩ (.slice TA 0 TC) ++ X) w9 := by
                  simp only [cyT, hsc2]
                  exact Sep.dropMid (r := blkR gh 51 #[.int .i64 (m : Int), .int .i64 (b : Int)]) [devR d (ti), blkR gx 70 (cyC d k a u (.slice RA RL RC) (toA k a) (sc + (m + 1)) (toA k a + sizeF t0 Li) (.slice TA 0 TC) mr false), wentR mr (wentM t0 (toA k a) Li), queueR 38 1 (.slice TA 0 TC) 0 (uw [])] X HS.out
                have hfin : CyPost W S X d t0 t k a u gx mr RA RL RC G (.bool (stepC G (nmsOf t0) ⟨L, [], j, false⟩).dn) (stepC G (nmsOf t0) ⟨L, [], j, false⟩) (.returned (.bool false)) w9 := by
                  rw [hst]
                  exact CyPost.done (v := .bool false) rfl HMV.out ⟨HM.out.trans HMV.out, hnx, fun h => (by cases h), by simp⟩ hs9
                have HFIN := Lib.hid hfin
                clear hnx hst hsc2 hs9 hfin
                go_wp2
                go_ret
                exact HFIN.out
      · obtain rfl : j = L.length := by have := HI.out.le; omega
        have htk : L.take L.length = L := List.take_length
        have hst : stepC G (nmsOf t0) ⟨L, [], L.length, false⟩ = ⟨L, [], L.length, true⟩ := by
          unfold stepC
          simp only [Bool.false_eq_true, if_false]
          rw [List.getElem?_eq_none (Nat.le_refl _)]
        rw [hst]
        have hkeep := keep_any (W := W) (S := S) (X := queueR 38 1 (.slice TA 0 TC) 0 (uw []) :: X) d t0 t k a u gx mr (toA k a + sizeF t0 (L.take L.length)) (sizeF t0 L) (.slice TA 0 TC) false L RA RL RC
        have hkeep2 := fun w hs => hkeep w HK.out ha (HM.out.is HC.out.is) (by omega) ⟨_, _, _, rfl⟩ hs
        have HKE := Lib.hid hkeep2
        have hlI : ¬ ((toA k a + sizeF t0 L : Nat) : Int) < ((toA k a + sizeF t0 L : Nat) : Int) := by omega
        obtain ⟨fr, hfr⟩ : ∃ fr, toA k a + sizeF t0 L = fr := ⟨_, rfl⟩
        have hs2 := HS.out
        simp only [cyT, htk] at hs2
        rw [hfr] at hs2
        have HS2 := Lib.hid hs2
        have HFR := Lib.hid hfr
        have hlD : decide ((fr : Int) < (fr : Int)) = false := by simp
        have hlI2 : ((fr : Int) < (fr : Int)) = False := by simp
        clear hst hkeep hkeep2 hs2 hfr hszb hj
        go_enter Try.func21, Try.ntmps21
        go_upto_region 6 with fail
        clear s10 s12
        have c8 : ∀ x : Ext w, x.now.cell? ⟨gx, 8, none⟩ = some (.int .i64 (fr : Int)) := fun x => x.cell (by simpa using (HS2.out.blk 1 rfl).cell 8)
        have c9 : ∀ x : Ext w, x.now.cell? ⟨gx, 9, none⟩ = some (.int .i64 (fr : Int)) := fun x => x.cell (by simpa using (HS2.out.blk 1 rfl).cell 9)
        refine wp_region_ext (by kernel_rfl) (by kernel_rfl) ?_
        repeat (go_big_quiet_step ((first | fail)))
        refine wpQuiet_nil ?_
        rintro _ ⟨x, rfl⟩
        replace HS := Lib.hid (HS.out.grow x.keep)
        clear c8 c9
        go_wp2_with fail
        refine (HKE.out _ HS.out).mono ?_
        rintro e w1 (⟨⟨v, rfl⟩, t', hmv, hsm, hkp, hs1⟩ | ⟨rfl, hl, t', hm, hs1⟩)
        rotate_left
        · exact ⟨rfl, CyPost.cut hl hm hs1⟩
        have e12 := (hs1.blk 1 rfl).cell 12
        simp at e12
        have hinv2 : CopyInv t0 t' G (toA k a) L L.length 0 := HI.out.same hsm
        have hfin := CyPost.done (v := .bool true) (c := ⟨L, [], L.length, true⟩) (W := W) (S := S) (X := X) (d := d) (RA := RA) (RL := RL) (RC := RC) (gx := gx) (mr := mr) (tv := .slice TA 0 TC) rfl hmv ⟨HM.out.trans hmv, hinv2, fun _ => hkp, HWD.out⟩ hs1
        have HFIN := Lib.hid hfin
        clear hmv hsm hkp hs1 hinv2 hfin HS HS2 HKE
        go_wp2
        go_ret
        exact HFIN.out
end Go.Proofs.Ytbdomdmnjclpdaa
set_option linter.unusedSimpArgs false
set_option linter.unusedVariables false
set_option maxRecDepth 100000
namespace Go.Proofs.Ytbdomdmnjclpdaa
open Go.RowKit Go.Shelf

theorem u_words64 : Try.prog.underlying 31 = some (.slice 38) := by kernel_rfl
set_option maxHeartbeats 4000000 in
theorem clone_rowU {W w : World} {S : List Nat} {L : List Res} {v : Value} {xs : List Int} (hs : Sep W S L w) {i : Nat} (hi : L[i]? = some (rowR 38 v (uw xs))) (hl : xs.length ≤ 100000) :
    Calls Try.prog 8 #[v] w fun e w' => ∃ v', e = .returned v' ∧ Sep W S (L ++ [rowR 38 v' (uw xs)]) w' := by
  have hrow : w.ownsRow 0 38 1 v (uw xs).length (uw xs) := hs.row i hi
  have hul : (uw xs).length = xs.length := by simp [uw]
  rcases hrow.2 with ⟨hv, h0⟩ | ⟨g, cap, cur, hv, _, hg, _⟩
  · have h0' : xs = [] := List.eq_nil_of_length_eq_zero (by rw [← hul, h0])
    subst hv h0'
    have hnil : ∀ w, (Go.binOp .eql 31 (.slice none 0 0) (.slice none 0 0)).run Try.prog w = .ok (.bool true) w := fun w => by kernel_rfl
    go_enter Try.func8, Try.ntmps8
    go_wp2
    go_ret
    exact ⟨_, rfl, hs.nilRow 38⟩
  · subst hv
    have hnil := fun (w : World) => Lib.run_eql_slice_nil (P := Try.prog) w 31 38 (some ⟨g, 0, none⟩) xs.length cap 0 0 u_words64
    have hi' : L[i]? = some (rowR 38 (.slice (some ⟨g, 0, none⟩) xs.length cap) (uw xs)) := by rw [← hul]; exact hi
    rw [hul]
    have HS := Lib.hid hs
    have HI := Lib.hid hi'
    clear hs hi hi' hrow hg
    go_enter Try.func8, Try.ntmps8
    go_wp2_with (at_builtin; refine of_stop ?_)
    unfold Stop
    clear hnil
    replace HS := Lib.hid (HS.out.add ((Keep.refl _ _ _).alloc (Nat.le_refl _) _) (r := rowR 38 _ _) (ownsRow_new _ 38 [] (by simp)) (by simp [rowR, Value.ownBlock]))
    generalize w.alloc _ = w1 at *
    obtain ⟨gn, hgn⟩ : ∃ gn, w.heap.size = gn := ⟨_, rfl⟩
    rw [hgn] at HS
    simp only [hgn]
    replace HS : Hid (Sep W S (L ++ [rowR 38 (.slice (some ⟨gn, 0, none⟩) 0 0) []]) w1) := HS
    have hlast : (L ++ [rowR 38 (.slice (some ⟨gn, 0, none⟩) 0 0) []])[L.length]? = some (rowR 38 (.slice (some ⟨gn, 0, none⟩) 0 0) []) := by simp
    have hil : i < L.length := (List.getElem?_eq_some_iff.1 HI.out).1
    have hrow2 := HS.out.row i (e := 38) (by rw [List.getElem?_append_left hil]; exact HI.out)
    refine wpList_appendE HS.out L.length hlast rfl _ _ 31 rfl rfl (z := .int .u64 0) (bytes := 8) (by kernel_rfl) rfl (by decide) (news := uw xs) rfl rfl (rd_rowE hrow2) (by intro u hu; simp [uw] at hu; obtain ⟨x, _, rfl⟩ := hu; rfl) (by rw [hul, List.length_nil]; omega) ?_
    intro v' w2 hS _
    have hS2 : Sep W S (L ++ [rowR 38 v' (uw xs)]) w2 := by simpa [List.set_append] using hS
    replace HS := Lib.hid hS2
    clear hS hS2 hrow2
    go_wp2
    go_ret
    exact ⟨_, rfl, HS.out⟩
/-- A row, as one takes from its front. -/
theorem row_queue {w : World} {e : TypeId} {v : Value} {xs : List Value} (h : w.ownsRow 0 e 1 v xs.length xs) : QOk w e 1 v xs.length xs := by
  refine ⟨by simp, ?_⟩
  rcases h.2 with ⟨hv, h0⟩ | ⟨g, cap, cur, hv, hb, hh, hle, hmx, hcs, hx⟩
  · exact .inl ⟨by rw [hv], h0⟩
  · refine .inr ⟨g, 0, cap, cur, hv, hh, hle, hmx, ?_, fun j u hu => ?_⟩
    · omega
    · have hj := (List.getElem?_eq_some_iff.1 hu).1
      have h2 : (cur.toList.take (xs.length * 1))[j]? = some u := by rw [hx]; exact hu
      rw [List.getElem?_take] at h2
      split at h2
      · rw [Nat.zero_add]; simpa using h2
      · cases h2
end Go.Proofs.Ytbdomdmnjclpdaa
set_option linter.unusedSimpArgs false
set_option linter.unusedVariables false
set_option maxRecDepth 100000
namespace Go.Proofs.Ytbdomdmnjclpdaa
open Go.RowKit Go.Shelf

/-- A collection, on its way. -/
structure WayC (t0 : St) (k : Kfg) (a u : Nat) (G : Int → Bool) (ws : List Int) (c : Cst) : Prop where
  le : c.L.length ≤ u
  way : (c.dn = false ∧ c.j = 0 ∧ ∃ i, c.ts = ws.drop i ∧ c.L = (ws.take i).foldl (seeF G) []) ∨ (c.ts = [] ∧ c.L = foF G (nmsOf t0) ws c.j ∧ (c.dn = true → c.j = c.L.length))
section
variable {t0 t : St} {k : Kfg} {a u : Nat} {G : Int → Bool} {ws : List Int} {c : Cst}
theorem ChyOk.len (h : ChyOk t0 k a u G) : ∀ L, Fine G L → L.length ≤ u := fun L hL => Fine.le (t := t0) (k := k) (a := a) (u := u) L ⟨hL.1, fun x hx => h.sub x (hL.2 x hx)⟩
theorem WayC.start (h : ChyOk t0 k a u G) : WayC t0 k a u G ws ⟨[], ws, 0, false⟩ := ⟨Nat.zero_le _, .inl ⟨rfl, rfl, 0, rfl, rfl⟩⟩
theorem WayC.step (h : ChyOk t0 k a u G) (hw : WayC t0 k a u G ws c) (hf : Fine G c.L) (hj : c.j ≤ c.L.length) : WayC t0 k a u G ws (stepC G (nmsOf t0) c) := by
  obtain ⟨L, ts, j, dn⟩ := c
  obtain ⟨hle, hway⟩ := hw
  simp only at hle hway hf hj
  cases dn with
  | true => exact ⟨hle, hway⟩
  | false =>
    cases ts with
    | cons z r =>
      have hle2 : (seeF G L z).length ≤ u := h.len _ (hf.see z)
      refine ⟨hle2, ?_⟩
      rcases hway with ⟨_, h0, i, hi, hl⟩ | ⟨h1, _⟩
      · have hil : i < ws.length := by
          rcases Nat.lt_or_ge i ws.length with h | h
          · exact h
          · rw [List.drop_eq_nil_of_le h] at hi; cases hi
        have hd := List.drop_eq_getElem_cons hil
        rw [← hi] at hd
        injection hd with e1 e2
        refine .inl ⟨rfl, h0, i + 1, e2, ?_⟩
        have h9 : ws.take (i + 1) = ws.take i ++ [ws[i]] := by rw [List.take_add_one, List.getElem?_eq_getElem hil]; rfl
        show seeF G L z = _
        rw [h9, List.foldl_append]
        simp only [List.foldl_cons, List.foldl_nil]
        rw [← hl, ← e1]
      · cases h1
    | nil =>
      have hL : L = foF G (nmsOf t0) ws j := by
        rcases hway with ⟨_, h0, i, hi, hl⟩ | ⟨_, h2, _⟩
        · have : ws.length ≤ i := by
            have := congrArg List.length hi
            simp at this; omega
          rw [List.take_of_length_le this] at hl
          rw [hl, h0]; rfl
        · exact h2
      by_cases hjl : j < L.length
      · obtain ⟨x, hx⟩ : ∃ x, L[j]? = some x := ⟨_, List.getElem?_eq_getElem hjl⟩
        have hst : stepC G (nmsOf t0) ⟨L, [], j, false⟩ = ⟨(nmsOf t0 x).foldl (seeF G) L, [], j + 1, false⟩ := by unfold stepC; simp [hx]
        rw [hst]
        have hfo : (nmsOf t0 x).foldl (seeF G) L = foF G (nmsOf t0) ws (j + 1) := by
          simp only [foF]
          rw [← hL, hx]
        refine ⟨?_, .inr ⟨rfl, hfo, fun h => by cases h⟩⟩
        exact h.len _ (Fine.foldl _ hf)
      · have hst : stepC G (nmsOf t0) ⟨L, [], j, false⟩ = ⟨L, [], j, true⟩ := by unfold stepC; simp [List.getElem?_eq_none (Nat.not_lt.1 hjl)]
        rw [hst]
        exact ⟨hle, .inr ⟨rfl, hL, fun _ => by simp only; omega⟩⟩
theorem WayC.end_ (h : ChyOk t0 k a u G) (hw : WayC t0 k a u G ws c) (hd : c.dn = true) : c = ⟨reachF G (nmsOf t0) ws u, [], (reachF G (nmsOf t0) ws u).length, true⟩ := by
  obtain ⟨L, ts, j, dn⟩ := c
  obtain ⟨hle, hway⟩ := hw
  simp only at hle hway hd
  subst hd
  rcases hway with ⟨h0, _⟩ | ⟨h1, h2, h3⟩
  · cases h0
  · subst h1
    have hj := h3 rfl
    have hs := foF_stop (G := G) (nm := nmsOf t0) (ws := ws) (n := j) (by rw [← h2, hj]; exact Nat.le_refl _) (u - j)
    rw [show j + (u - j) = u by omega] at hs
    have hL : L = reachF G (nmsOf t0) ws u := by unfold reachF; rw [hs]; exact h2
    rw [hj, hL]
/-- How much is left to do. -/
def leftC (u : Nat) (c : Cst) : Nat := if c.dn then 0 else 1 + c.ts.length + (u + 1 - c.j)
theorem leftC_step (hw : WayC t0 k a u G ws c) (hd : c.dn = false) : leftC u (stepC G (nmsOf t0) c) < leftC u c := by
  obtain ⟨L, ts, j, dn⟩ := c
  obtain ⟨hle, _⟩ := hw
  simp only at hle hd
  subst hd
  cases ts with
  | cons z r => simp [leftC, stepC]
  | nil =>
    by_cases hjl : j < L.length
    · obtain ⟨x, hx⟩ : ∃ x, L[j]? = some x := ⟨_, List.getElem?_eq_getElem hjl⟩
      simp [leftC, stepC, hx]
      omega
    · simp [leftC, stepC, List.getElem?_eq_none (Nat.not_lt.1 hjl)]
      omega
end

/-- Ahead of a step. -/
def RunL (W : World) (S : List Nat) (X : List Res) (d : DevI) (t0 t : St) (k : Kfg) (a u gx mr : Nat) (RA : Option Addr) (RL RC : Nat) (G : Int → Bool) (ws : List Int) (n : Nat) (ac : Act) (w : World) : Prop :=
  ∃ (c : Cst) (t' : St) (tv z1 z2 z3 z4 : Value), WayC t0 k a u G ws c ∧ Moved (toA k a) (toZ k a) t t' ∧ CyInv t0 t' k a u G c ∧ Sep W S (cyT d t' t0 k a u gx mr RA RL RC c tv ++ X) w ∧ n = leftC u c ∧ ac = { tmps := #[.pointer (some ⟨gx, 0, none⟩), z1, z2, z3, z4], defers := [] }
theorem RunL.intro {W : World} {S : List Nat} {X : List Res} {d : DevI} {t0 t t' : St} {k : Kfg} {a u gx mr : Nat} {RA : Option Addr} {RL RC : Nat} {G : Int → Bool} {ws : List Int} {c : Cst} {tv z1 z2 z3 z4 : Value} {ac : Act} {w : World}
    (h1 : WayC t0 k a u G ws c) (h2 : Moved (toA k a) (toZ k a) t t') (h3 : CyInv t0 t' k a u G c) (h4 : Sep W S (cyT d t' t0 k a u gx mr RA RL RC c tv ++ X) w) (h5 : ac = { tmps := #[.pointer (some ⟨gx, 0, none⟩), z1, z2, z3, z4], defers := [] }) : RunL W S X d t0 t k a u gx mr RA RL RC G ws (leftC u c) ac w :=
  ⟨c, t', tv, z1, z2, z3, z4, h1, h2, h3, h4, rfl, h5⟩
set_option maxRecDepth 100000 in
set_option maxHeartbeats 8000000 in
theorem run_cy {W : World} {S : List Nat} {X : List Res} {G : Int → Bool} (d : DevI) (t0 t : St) (k : Kfg) (a u gx mr : Nat) (ws : List Int) (c : Cst) (tv : Value) (RA : Option Addr) (RL RC : Nat) (w : World) (hC : ChyOk t0 k a u G) (hR : ChyRel t0 k a u G) (hI : CyInv t0 t k a u G c) (hW : WayC t0 k a u G ws c)
    (hs : Sep W S (cyT d t t0 k a u gx mr RA RL RC c tv ++ X) w) :
    Calls Try.prog 11 #[.pointer (some ⟨gx, 0, none⟩)] w fun e w' =>
      CyPost W S X d t0 t k a u gx mr RA RL RC G (.tuple #[]) ⟨reachF G (nmsOf t0) ws u, [], (reachF G (nmsOf t0) ws u).length, true⟩ e w' := by
  have HS := Lib.hid hs
  have HC := Lib.hid hC
  have HR := Lib.hid hR
  have HI := Lib.hid hI
  have HW := Lib.hid hW
  clear hs hC hR hI hW
  refine calls_of_wpFr Try.func11 rfl ?_
  simp only [Try.ntmps11, List.size_toArray, List.length_cons, List.length_nil, Nat.reduceAdd, Nat.reduceSub, Array.replicate_succ,
   Array.replicate_zero, List.push_toArray, List.append_toArray, List.nil_append, List.cons_append]
  refine wpFr_block (wpFr_loopI (RunL W S X d t0 t k a u gx mr RA RL RC G ws) ?round (n := leftC u c) (.intro HW.out (Moved.refl _ _ _) HI.out HS.out rfl))
  clear HS HI HW
  rintro n _ wr ⟨c, t', tv, z1, z2, z3, z4, hw, hm, hi, hs, rfl, rfl⟩
  have hstep := step_any d t0 t' k a u gx mr c tv RA RL RC wr HC.out HR.out hi hs
  have hw2 := hw.step HC.out hi.inv.fine (by have := hi.inv.le; omega)
  have hlt := leftC_step hw
  obtain ⟨c', hc'⟩ : ∃ c', stepC G (nmsOf t0) c = c' := ⟨_, rfl⟩
  rw [hc'] at hstep hw2 hlt
  have hd2 : c'.dn = false → c.dn = false := fun h => by
    cases hd : c.dn with
    | false => rfl
    | true => rw [← hc'] at h; unfold stepC at h; rw [hd] at h; simp only [if_true] at h; rw [hd] at h; cases h
  have HSTEP := Lib.hid hstep
  have HW2 := Lib.hid hw2
  have HLT := Lib.hid hlt
  have HD2 := Lib.hid hd2
  have HM := Lib.hid hm
  clear hw hi hs hstep hw2 hlt hd2 hc' hm
  refine wpFr_of_wp ?_
  go_wp2_with fail
  refine HSTEP.out.mono ?_
  rintro e w1 (⟨rfl, t2, tv2, hm2, hi2, hs2⟩ | ⟨rfl, hl, t2, hm2, hs2⟩)
  rotate_left
  · exact (CyPost.cut (by rw [← HM.out.lim]; exact hl) (HM.out.trans hm2) hs2)
  cases hdn : c'.dn with
  | true =>
    have hend := HW2.out.end_ HC.out hdn
    have hfin := CyPost.done (v := .tuple #[]) rfl (HM.out.trans hm2) hi2 hs2
    rw [hend] at hfin
    have HFIN := Lib.hid hfin
    clear hm2 hi2 hs2 hend hfin
    go_wp2
    exact leave_none (results_none rfl _ _ _) HFIN.out
  | false =>
    have HI2 := Lib.hid hi2
    have HS2 := Lib.hid hs2
    have HM2 := Lib.hid (HM.out.trans hm2)
    have HDN := Lib.hid hdn
    clear hi2 hs2 hm2 hdn
    go_wp2
    exact ⟨_, HLT.out (HD2.out HDN.out), .intro HW2.out HM2.out HI2.out HS2.out rfl⟩

set_option maxHeartbeats 4000000 in
theorem went_cy {W : World} {S : List Nat} {X : List Res} (d : DevI) (t0 t : St) (k : Kfg) (a u gx mr : Nat) (c : Cst) (tv : Value) (RA : Option Addr) (RL RC : Nat) (y : Int) (w : World)
    (hs : Sep W S (cyT d t t0 k a u gx mr RA RL RC c tv ++ X) w) :
    Calls Try.prog 13 #[.pointer (some ⟨gx, 0, none⟩), .int .u64 y] w fun e w' => e = .returned (.int .i64 (((placeF t0 (toA k a) c.L y).getD 0 : Nat) : Int)) ∧ w = w' := by
  have HS := Lib.hid hs
  have hl := lookup_any (P := Try.prog) (w := w) (T := 68) (hs.all 2 _ rfl : IMap w mr .u64 (wentM t0 (toA k a) c.L)) u_went u_u64 y (zero_int w)
  have hv : (wentM t0 (toA k a) c.L y).getD (.int .i64 0) = .int .i64 (((placeF t0 (toA k a) c.L y).getD 0 : Nat) : Int) := by
    unfold wentM
    cases placeF t0 (toA k a) c.L y <;> rfl
  rw [hv] at hl
  clear hs hv
  have s11 := (HS.out.blk 1 rfl).cell 11
  simp at s11
  go_enter Try.func13, Try.ntmps13
  go_wp2
  go_ret
  exact ⟨rfl, rfl⟩
set_option maxRecDepth 100000 in
set_option maxHeartbeats 8000000 in
/-- The root block behind a collection. -/
theorem block_cy {W : World} {S : List Nat} {X : List Res} (d : DevI) (t0 t : St) (k : Kfg) (a u gx mr : Nat) (c : Cst) (tv : Value) (RA : Option Addr) (RL RC : Nat) (rs : List Int) (w : World) (ha : a ≤ 1) (hk : k.Ok) (hu : u ≤ k.S) (hsz : sizeF t0 c.L ≤ u) (hn : c.L.Nodup) (hr : Rd w (.slice RA RL RC) (uw rs)) (hrl : rs.length ≤ 1000)
    (hs : Sep W S (cyT d t t0 k a u gx mr RA RL RC c tv ++ X) w) :
    Calls Try.prog 12 #[.pointer (some ⟨gx, 0, none⟩)] w fun e w' => ∃ v, e = .returned (.agg #[.int .i64 ((1 - a : Nat) : Int), .int .i64 (sizeF t0 c.L : Int), v]) ∧ Sep w [] [rowR 38 v (uw (rs.map fun y => (((placeF t0 (toA k a) c.L y).getD 0 : Nat) : Int)))] w' := by
  obtain ⟨RA', RC', hv, hcs⟩ := hr.cells
  injection hv with v1 v2 v3
  subst v1 v2 v3
  have HS := Lib.hid (Sep.start w [])
  have HRC := Lib.hid hcs
  have hZW := toZ_words ha hk
  have hup := (up8_le k.S).1
  have hz : toZ k a = toA k a + up8 k.S := rfl
  obtain ⟨tb, htb⟩ : ∃ tb, toA k a = tb := ⟨_, rfl⟩
  obtain ⟨sz, hsze⟩ : ∃ sz, sizeF t0 c.L = sz := ⟨_, rfl⟩
  obtain ⟨pl, hpl⟩ : ∃ pl : Int → Nat, pl = fun y => (placeF t0 tb c.L y).getD 0 := ⟨_, rfl⟩
  have hplb : ∀ y, pl y ≤ 100000 := by
    intro y
    rw [hpl]
    simp only
    cases hp : placeF t0 tb c.L y with
    | none => simp
    | some q =>
      obtain ⟨i, hi, rfl⟩ := placeF_in hn hp
      have := sizeF_lt (t := t0) hi
      simp only [Option.getD_some]
      omega
  have hps : (rs.map fun y => (((placeF t0 (toA k a) c.L y).getD 0 : Nat) : Int)) = rs.map fun y => (pl y : Int) := by rw [hpl, htb]
  have hwm : ∀ y, (wentM t0 tb c.L y).getD (.int .i64 0) = .int .i64 (pl y : Int) := by
    intro y
    rw [hpl]
    unfold wentM
    simp only
    cases placeF t0 tb c.L y <;> rfl
  simp only [cyT] at hs
  rw [htb] at hs
  have hbx := hs.blk 1 rfl
  have b0 := hbx.cell 4
  have b1 := hbx.cell 6
  have b2 := hbx.cell 7
  have b3 := hbx.cell 9
  have b4 := hbx.cell 11
  simp at b0 b1 b2 b3 b4
  have him : IMap w mr .u64 (wentM t0 tb c.L) := hs.all 2 _ rfl
  have hb3e : IntKind.i64.wrap (((tb + sizeF t0 c.L : Nat) : Int) - (tb : Int)) = (sz : Int) := by rw [IntWalk.i64_in _ (by omega)]; omega
  have hae : IntKind.i64.wrap ((1 : Int) - (a : Int)) = ((1 - a : Nat) : Int) := by rw [IntWalk.i64_in _ (by omega)]; omega
  obtain ⟨a2, ha2⟩ : ∃ a2, 1 - a = a2 := ⟨_, rfl⟩
  rw [hsze] at b3 hb3e
  obtain ⟨fr, hfr⟩ : ∃ fr, tb + sz = fr := ⟨_, rfl⟩
  rw [ha2] at hae
  rw [hps, hsze, ha2]
  rw [hfr] at hb3e
  have b3' : w.cell? ⟨gx, 9, none⟩ = some (.int .i64 (fr : Int)) := by rw [b3, ← hfr]; simp
  clear b3 hcs hs hbx hr hps htb hsze hpl hup hz hZW ha2 hfr
  have B0 := Lib.hid b0
  have B1 := Lib.hid b1
  have B2 := Lib.hid b2
  have B3 := Lib.hid b3'
  have B4 := Lib.hid b4
  have HIM := Lib.hid him
  have HWM := Lib.hid hwm
  have HPLB := Lib.hid hplb
  have HAE := Lib.hid hae
  have HFE := Lib.hid hb3e
  have HRL := Lib.hid hrl
  clear b0 b1 b2 b3' b4 him hwm hplb hae hb3e hrl
  go_enter Try.func12, Try.ntmps12
  go_wp2_with fail
  replace HS := Lib.hid (HS.out.new 33 #[.int .i64 0, .int .i64 0, .slice none 0 0])
  generalize w.alloc _ = w2 at *
  generalize w.heap.size = gr at *
  refine wp_region_st3 (W := w) (S := []) (by kernel_rfl) (by kernel_rfl) (by kernel_rfl) (fun D uu => [blkR gr 33 #[.int .i64 0, .int .i64 0, .slice none 0 0], bif D 16 then ptrR (uu 16) 33 (bif D 17 then #[.int .i64 (a2 : Int), .int .i64 (sz : Int), .slice none 0 0] else #[.int .i64 0, .int .i64 0, .slice none 0 0]) else noR])
    (fun j v => match j with
      | 0 => v = .pointer (some ⟨gx, 0, none⟩)
      | 1 => v = .pointer (some ⟨gx, 0, none⟩)
      | 2 => v = .pointer (some ⟨gx, 4, none⟩)
      | 3 => v = .pointer (some ⟨gx, 4, none⟩)
      | 4 => v = .int .i64 (a : Int)
      | 5 => v = .int .i64 (a2 : Int)
      | 6 => v = .pointer (some ⟨gx, 0, none⟩)
      | 7 => v = .pointer (some ⟨gx, 0, none⟩)
      | 8 => v = .pointer (some ⟨gx, 9, none⟩)
      | 9 => v = .int .i64 (fr : Int)
      | 10 => v = .pointer (some ⟨gx, 0, none⟩)
      | 11 => v = .pointer (some ⟨gx, 0, none⟩)
      | 12 => v = .pointer (some ⟨gx, 7, none⟩)
      | 13 => v = .int .i64 (tb : Int)
      | 14 => v = .int .i64 (sz : Int)
      | 15 => v = .agg #[.int .i64 (a2 : Int), .int .i64 (sz : Int), .slice none 0 0]
      | 16 => ∃ h, v = .pointer (some ⟨h, 0, none⟩)
      | _ => True) ?start ?step ?fin
  case start => exact fun u => HS.out.add (Keep.refl _ _ _) (r := noR) trivial (by simp [noR])
  case step =>
    clear HS
    refine ⟨?_, ?_, ?_, ?_, ?_, ?_, ?_, ?_, ?_, ?_, ?_, ?_, ?_, ?_, ?_, ?_, ?_, ?_, trivial⟩
    · intro D uu w' K hD hF hl hS hK
      simp only [puts, Act.put, List.setIfInBounds_toArray, List.set_cons_succ, List.set_cons_zero, Nat.zero_add, Nat.reduceAdd]
      go_simp
      simp only [yUpon]
      exact hK _ _ rfl hS
    · intro D uu w' K hD hF hl hS hK
      have f0 := (hF 0 (by kernel_rfl)).2
      simp only at f0
      simp only [puts, Act.put, List.setIfInBounds_toArray, List.set_cons_succ, List.set_cons_zero, Nat.zero_add, Nat.reduceAdd]
      simp only [f0]
      go_simp
      simp only [yUpon]
      exact hK _ _ rfl hS
    · intro D uu w' K hD hF hl hS hK
      have f1 := (hF 1 (by kernel_rfl)).2
      simp only at f1
      simp only [puts, Act.put, List.setIfInBounds_toArray, List.set_cons_succ, List.set_cons_zero, Nat.zero_add, Nat.reduceAdd]
      simp only [f1]
      go_simp
      simp only [yUpon]
      exact hK _ _ rfl hS
    · intro D uu w' K hD hF hl hS hK
      have f2 := (hF 2 (by kernel_rfl)).2
      simp only at f2
      simp only [puts, Act.put, List.setIfInBounds_toArray, List.set_cons_succ, List.set_cons_zero, Nat.zero_add, Nat.reduceAdd]
      simp only [f2]
      go_simp
      simp only [yUpon]
      exact hK _ _ rfl hS
    · intro D uu w' K hD hF hl hS hK
      have f3 := (hF 3 (by kernel_rfl)).2
      simp only at f3
      simp only [puts, Act.put, List.setIfInBounds_toArray, List.set_cons_succ, List.set_cons_zero, Nat.zero_add, Nat.reduceAdd]
      simp only [f3]
      have x0 := (Ext.mk w' hS.keep : Ext w).cell B0.out
      simp only at x0
      go_simp
      simp only [yUpon]
      exact hK _ _ rfl hS
    · intro D uu w' K hD hF hl hS hK
      have f4 := (hF 4 (by kernel_rfl)).2
      simp only at f4
      simp only [puts, Act.put, List.setIfInBounds_toArray, List.set_cons_succ, List.set_cons_zero, Nat.zero_add, Nat.reduceAdd]
      simp only [f4]
      have x1 := HAE.out
      go_simp
      simp only [yUpon]
      exact hK _ _ rfl hS
    · intro D uu w' K hD hF hl hS hK
      simp only [puts, Act.put, List.setIfInBounds_toArray, List.set_cons_succ, List.set_cons_zero, Nat.zero_add, Nat.reduceAdd]
      go_simp
      simp only [yUpon]
      exact hK _ _ rfl hS
    · intro D uu w' K hD hF hl hS hK
      have f6 := (hF 6 (by kernel_rfl)).2
      simp only at f6
      simp only [puts, Act.put, List.setIfInBounds_toArray, List.set_cons_succ, List.set_cons_zero, Nat.zero_add, Nat.reduceAdd]
      simp only [f6]
      go_simp
      simp only [yUpon]
      exact hK _ _ rfl hS
    · intro D uu w' K hD hF hl hS hK
      have f7 := (hF 7 (by kernel_rfl)).2
      simp only at f7
      simp only [puts, Act.put, List.setIfInBounds_toArray, List.set_cons_succ, List.set_cons_zero, Nat.zero_add, Nat.reduceAdd]
      simp only [f7]
      go_simp
      simp only [yUpon]
      exact hK _ _ rfl hS
    · intro D uu w' K hD hF hl hS hK
      have f8 := (hF 8 (by kernel_rfl)).2
      simp only at f8
      simp only [puts, Act.put, List.setIfInBounds_toArray, List.set_cons_succ, List.set_cons_zero, Nat.zero_add, Nat.reduceAdd]
      simp only [f8]
      have x0 := (Ext.mk w' hS.keep : Ext w).cell B3.out
      simp only at x0
      go_simp
      simp only [yUpon]
      exact hK _ _ rfl hS
    · intro D uu w' K hD hF hl hS hK
      simp only [puts, Act.put, List.setIfInBounds_toArray, List.set_cons_succ, List.set_cons_zero, Nat.zero_add, Nat.reduceAdd]
      go_simp
      simp only [yUpon]
      exact hK _ _ rfl hS
    · intro D uu w' K hD hF hl hS hK
      have f10 := (hF 10 (by kernel_rfl)).2
      simp only at f10
      simp only [puts, Act.put, List.setIfInBounds_toArray, List.set_cons_succ, List.set_cons_zero, Nat.zero_add, Nat.reduceAdd]
      simp only [f10]
      go_simp
      simp only [yUpon]
      exact hK _ _ rfl hS
    · intro D uu w' K hD hF hl hS hK
      have f11 := (hF 11 (by kernel_rfl)).2
      simp only at f11
      simp only [puts, Act.put, List.setIfInBounds_toArray, List.set_cons_succ, List.set_cons_zero, Nat.zero_add, Nat.reduceAdd]
      simp only [f11]
      go_simp
      simp only [yUpon]
      exact hK _ _ rfl hS
    · intro D uu w' K hD hF hl hS hK
      have f12 := (hF 12 (by kernel_rfl)).2
      simp only at f12
      simp only [puts, Act.put, List.setIfInBounds_toArray, List.set_cons_succ, List.set_cons_zero, Nat.zero_add, Nat.reduceAdd]
      simp only [f12]
      have x0 := (Ext.mk w' hS.keep : Ext w).cell B2.out
      simp only at x0
      go_simp
      simp only [yUpon]
      exact hK _ _ rfl hS
    · intro D uu w' K hD hF hl hS hK
      have f9 := (hF 9 (by kernel_rfl)).2
      simp only at f9
      have f13 := (hF 13 (by kernel_rfl)).2
      simp only at f13
      simp only [puts, Act.put, List.setIfInBounds_toArray, List.set_cons_succ, List.set_cons_zero, Nat.zero_add, Nat.reduceAdd]
      simp only [f9, f13]
      have x1 := HFE.out
      go_simp
      simp only [yUpon]
      exact hK _ _ rfl hS
    · intro D uu w' K hD hF hl hS hK
      have f5 := (hF 5 (by kernel_rfl)).2
      simp only at f5
      have f14 := (hF 14 (by kernel_rfl)).2
      simp only at f14
      simp only [puts, Act.put, List.setIfInBounds_toArray, List.set_cons_succ, List.set_cons_zero, Nat.zero_add, Nat.reduceAdd]
      simp only [f5, f14]
      go_simp
      simp only [yUpon]
      exact hK _ _ rfl hS
    · intro D uu w' K hD hF hl hS hK
      simp only [puts, Act.put, List.setIfInBounds_toArray, List.set_cons_succ, List.set_cons_zero, Nat.zero_add, Nat.reduceAdd]
      have hlate := hl 17 (by kernel_rfl)
      simp only [hD, cond_false] at hS
      have hs2 := hS.step (i := 1) (r := noR) rfl (w' := w'.alloc (.cells #[.int .i64 0, .int .i64 0, .slice none 0 0] 33)) ((Keep.refl _ _ _).alloc (Nat.le_refl _) _) (r' := blkR w'.heap.size 33 #[.int .i64 0, .int .i64 0, .slice none 0 0]) (Blk.new _ _ _) (by simp [blkR])
      have e1 : (fset D 16 true) 16 = true := rfl
      have e2 : (fset D 16 true) 17 = false := hlate
      go_simp
      simp only [yUpon]
      refine hK _ _ ⟨_, rfl⟩ ?_
      simp only [e1, e2, cond_true, cond_false]
      exact hs2
    · intro D uu w' K hD hF hl hS hK
      have f15 := (hF 15 (by kernel_rfl)).2
      simp only at f15
      simp only [puts, Act.put, List.setIfInBounds_toArray, List.set_cons_succ, List.set_cons_zero, Nat.zero_add, Nat.reduceAdd]
      simp only [f15]
      obtain ⟨d16, g, hg⟩ := hF 16 (by kernel_rfl)
      simp only [hD, d16, hg, ptrR, cond_false, cond_true] at hS
      have x0 := (hS.blk 1 rfl).cell 0
      have x1 := (hS.blk 1 rfl).cell 1
      have x2 := (hS.blk 1 rfl).cell 2
      simp at x0 x1 x2
      have z0 := (hS.blk 1 rfl).frozen 0
      have z1 := (hS.blk 1 rfl).frozen 1
      have z2 := (hS.blk 1 rfl).frozen 2
      have hput := (((hS.put (i := 1) rfl 0 (.int .i64 (a2 : Int))).put (i := 1) rfl 1 (.int .i64 (sz : Int))).put (i := 1) rfl 2 (.slice none 0 0))
      have e1 : (fset D 17 true) 17 = true := rfl
      have e2 : (fset D 17 true) 16 = true := d16
      simp only [hg]
      go_simp
      simp only [yUpon]
      refine hK _ _ trivial ?_
      simp only [e1, e2, cond_true]
      have e4 : ∀ v, (fset uu 17 v) 16 = .pointer (some ⟨g, 0, none⟩) := fun v => hg
      simp only [e4, ptrR]
      exact hput
  case fin =>
    clear HS
    intro D uu w3 hall hS
    have f16 := (hall 16 (by simp)).1
    have f17 := (hall 17 (by simp)).1
    obtain ⟨gb, v16⟩ := (hall 16 (by simp)).2
    simp only [f16, f17, v16, ptrR, cond_true] at hS
    have HS := Lib.hid hS
    clear hall hS f16 f17
    simp only [puts, Act.put, List.setIfInBounds_toArray, List.set_cons_succ, List.set_cons_zero, Nat.zero_add, Nat.reduceAdd]
    simp only [v16]
    clear v16
    go_upto_region 2 with fail
    replace HS := Lib.hid (HS.out.nilRow 38)
    have c6 := (Ext.mk w3 HS.out.keep : Ext w).cell B1.out
    simp only at c6
    go_wp2_with fail
    clear c6
    go_loopw [28] (fun v28 wr => ∃ (i : Nat) (A : Option Addr) (c : Nat), i ≤ rs.length ∧ v28 = .int .i64 (i : Int) ∧ Sep w [] [blkR gr 33 #[.int .i64 0, .int .i64 0, .slice none 0 0], blkR gb 33 #[.int .i64 (a2 : Int), .int .i64 (sz : Int), .slice A i c], rowR 38 (.slice A i c) (uw ((rs.take i).map fun y => (pl y : Int)))] wr) (fun v28 _ => rs.length - (intOf v28).toNat)
    case atStart => exact ⟨0, none, 0, by omega, by first | rfl | go_num | simp, HS.out⟩
    case round => as_aux_lemma =>
      clear HS
      obtain ⟨i, A, c', hi, rfl, hs⟩ := hrel
      have HS := Lib.hid hs
      clear hs
      by_cases hlt : i < rs.length
      · have hltI : (i : Int) < (rs.length : Int) := by omega
        obtain ⟨y, hy⟩ : ∃ y, rs[i]? = some y := ⟨_, List.getElem?_eq_getElem hlt⟩
        obtain ⟨g, off, hRA, hcx⟩ := HRC.out i hlt
        rw [List.getD_eq_getElem?_getD, hy] at hcx
        simp only [Option.getD_some] at hcx
        subst hRA
        have k0 := (Ext.mk wr HS.out.keep : Ext w).cell hcx
        simp only at k0
        have htk : rs.take (i + 1) = rs.take i ++ [y] := by rw [List.take_add_one, hy]; rfl
        have hpw : IntKind.u64.wrap (pl y : Int) = (pl y : Int) := by have := HPLB.out y; rw [IntKind.wrap_u64]; omega
        have hi1 : IntKind.i64.wrap ((i : Int) + 1) = (i : Int) + 1 := IntWalk.i64_in _ (by have := HRL.out; omega)
        have HTK := Lib.hid htk
        have HPW := Lib.hid hpw
        have hlk := fun w' (hm : IMap w' mr .u64 (wentM t0 tb c.L)) => lookup_any (P := Try.prog) hm u_went u_u64 y (zero_int w')
        simp only [HWM.out] at hlk
        have HLK := Lib.hid hlk
        clear htk hpw hlk hcx
        go_upto_region 5 with fail
        clear k0
        refine wp_region_st3 (W := w) (S := []) (by kernel_rfl) (by kernel_rfl) (by kernel_rfl) (fun D uu => [blkR gr 33 #[.int .i64 0, .int .i64 0, .slice none 0 0], blkR gb 33 #[.int .i64 (a2 : Int), .int .i64 (sz : Int), bif D 12 then uu 10 else .slice A i c'], (bif D 10 then rowR 38 (uu 10) (uw ((rs.take i).map fun y => (pl y : Int)) ++ [.int .u64 (pl y : Int)]) else rowR 38 (.slice A i c') (uw ((rs.take i).map fun y => (pl y : Int)))), (bif D 9 then sliceR (uu 9) 38 #[.int .u64 (pl y : Int)] else noR)])
          (fun j v => match j with
            | 0 => v = .pointer (some ⟨gb, 2, none⟩)
            | 1 => v = .slice A i c'
            | 2 => v = .pointer (some ⟨gx, 0, none⟩)
            | 3 => v = .pointer (some ⟨gx, 0, none⟩)
            | 4 => v = .pointer (some ⟨gx, 11, none⟩)
            | 5 => v = .map (some mr)
            | 6 => v = .int .u64 y
            | 7 => v = .int .i64 (pl y : Int)
            | 8 => v = .int .u64 (pl y : Int)
            | 9 => ∃ h, v = .slice (some ⟨h, 0, none⟩) 1 1
            | 10 => ∃ A c, v = .slice A (i + 1) c
            | 11 => v = .pointer (some ⟨gb, 2, none⟩)
            | _ => True) ?start ?step ?fin
        case start => exact fun u => HS.out.add (Keep.refl _ _ _) (r := noR) trivial (by simp [noR])
        case step =>
          clear HS
          refine ⟨?_, ?_, ?_, ?_, ?_, ?_, ?_, ?_, ?_, ?_, ?_, ?_, ?_, trivial⟩
          · intro D uu w' K hD hF hl hS hK
            simp only [puts, Act.put, List.setIfInBounds_toArray, List.set_cons_succ, List.set_cons_zero, Nat.zero_add, Nat.reduceAdd]
            go_simp
            simp only [yUpon]
            exact hK _ _ rfl hS
          · intro D uu w' K hD hF hl hS hK
            have f0 := (hF 0 (by kernel_rfl)).2
            simp only at f0
            simp only [puts, Act.put, List.setIfInBounds_toArray, List.set_cons_succ, List.set_cons_zero, Nat.zero_add, Nat.reduceAdd]
            simp only [f0]
            have h12 := hl 12 (by kernel_rfl)
            have hS1 := hS
            simp only [h12, cond_false] at hS1
            have x0 := (hS1.blk 1 rfl).cell 2
            simp at x0
            clear hS1
            go_simp
            simp only [yUpon]
            exact hK _ _ rfl hS
          · intro D uu w' K hD hF hl hS hK
            simp only [puts, Act.put, List.setIfInBounds_toArray, List.set_cons_succ, List.set_cons_zero, Nat.zero_add, Nat.reduceAdd]
            go_simp
            simp only [yUpon]
            exact hK _ _ rfl hS
          · intro D uu w' K hD hF hl hS hK
            have f2 := (hF 2 (by kernel_rfl)).2
            simp only at f2
            simp only [puts, Act.put, List.setIfInBounds_toArray, List.set_cons_succ, List.set_cons_zero, Nat.zero_add, Nat.reduceAdd]
            simp only [f2]
            go_simp
            simp only [yUpon]
            exact hK _ _ rfl hS
          · intro D uu w' K hD hF hl hS hK
            have f3 := (hF 3 (by kernel_rfl)).2
            simp only at f3
            simp only [puts, Act.put, List.setIfInBounds_toArray, List.set_cons_succ, List.set_cons_zero, Nat.zero_add, Nat.reduceAdd]
            simp only [f3]
            go_simp
            simp only [yUpon]
            exact hK _ _ rfl hS
          · intro D uu w' K hD hF hl hS hK
            have f4 := (hF 4 (by kernel_rfl)).2
            simp only at f4
            simp only [puts, Act.put, List.setIfInBounds_toArray, List.set_cons_succ, List.set_cons_zero, Nat.zero_add, Nat.reduceAdd]
            simp only [f4]
            have x0 := (Ext.mk w' hS.keep : Ext w).cell B4.out
            simp only at x0
            go_simp
            simp only [yUpon]
            exact hK _ _ rfl hS
          · intro D uu w' K hD hF hl hS hK
            simp only [puts, Act.put, List.setIfInBounds_toArray, List.set_cons_succ, List.set_cons_zero, Nat.zero_add, Nat.reduceAdd]
            go_simp
            simp only [yUpon]
            exact hK _ _ rfl hS
          · intro D uu w' K hD hF hl hS hK
            have f5 := (hF 5 (by kernel_rfl)).2
            simp only at f5
            have f6 := (hF 6 (by kernel_rfl)).2
            simp only at f6
            simp only [puts, Act.put, List.setIfInBounds_toArray, List.set_cons_succ, List.set_cons_zero, Nat.zero_add, Nat.reduceAdd]
            simp only [f5, f6]
            have hm' := HIM.out.keep hS.keep HIM.out.lt (by simp)
            have hlk := HLK.out _ hm'
            go_simp
            simp only [yUpon]
            exact hK _ _ rfl hS
          · intro D uu w' K hD hF hl hS hK
            have f7 := (hF 7 (by kernel_rfl)).2
            simp only at f7
            simp only [puts, Act.put, List.setIfInBounds_toArray, List.set_cons_succ, List.set_cons_zero, Nat.zero_add, Nat.reduceAdd]
            simp only [f7]
            have x1 := HPW.out
            go_simp
            simp only [yUpon]
            exact hK _ _ rfl hS
          · intro D uu w' K hD hF hl hS hK
            have f8 := (hF 8 (by kernel_rfl)).2
            simp only at f8
            simp only [puts, Act.put, List.setIfInBounds_toArray, List.set_cons_succ, List.set_cons_zero, Nat.zero_add, Nat.reduceAdd]
            simp only [f8]
            have h10 := hl 10 (by kernel_rfl)
            simp only [hD, cond_false] at hS
            have hs2 := hS.step (i := 3) (r := noR) rfl (w' := w'.alloc (.cells #[.int .u64 (pl y : Int)] 38)) ((Keep.refl _ _ _).alloc (Nat.le_refl _) _) (r' := blkR w'.heap.size 38 #[.int .u64 (pl y : Int)]) (Blk.new _ _ _) (by simp [blkR])
            have e1 : (fset D 9 true) 9 = true := rfl
            go_simp
            simp only [yUpon]
            refine hK _ _ ⟨_, rfl⟩ ?_
            simp only [e1, cond_true]
            exact hs2
          · intro D uu w' K hD hF hl hS hK
            have f1 := (hF 1 (by kernel_rfl)).2
            simp only at f1
            simp only [puts, Act.put, List.setIfInBounds_toArray, List.set_cons_succ, List.set_cons_zero, Nat.zero_add, Nat.reduceAdd]
            simp only [f1]
            obtain ⟨d9, g9, hg9⟩ := hF 9 (by kernel_rfl)
            have h12 := hl 12 (by kernel_rfl)
            simp only [hD, d9, hg9, h12, sliceR, cond_false, cond_true] at hS
            simp only [hg9]
            have hb9 := hS.blk 3 rfl
            have hrd : Rd w' (.slice (some ⟨g9, 0, none⟩) 1 1) [.int .u64 (pl y : Int)] := Rd.of_uw (n := 1) (xs := [(pl y : Int)]) (ex := []) (by simpa [uw] using hb9)
            refine y_appendE hS 2 rfl _ _ 31 rfl rfl (z := .int .u64 0) (bytes := 8) (by kernel_rfl) rfl (by decide) rfl rfl hrd (by intro u hu; simp at hu; subst hu; rfl) (by have := HRL.out; rw [uw_length, List.length_map, List.length_take]; simp only [List.length_singleton]; omega) (fun v' w2 hS2 _ => ?_)
            have hv' : ∃ A c, v' = .slice A (i + 1) c := by
              obtain ⟨A, c, h⟩ := rowR_val (hS2.row 2 rfl)
              refine ⟨A, c, ?_⟩
              rw [h]
              congr 1
              simp [uw]
              omega
            have e1 : (fset D 10 true) 10 = true := rfl
            have e2 : (fset D 10 true) 9 = true := d9
            have e3 : (fset D 10 true) 12 = false := h12
            have e4 : ∀ v, (fset uu 10 v) 9 = .slice (some ⟨g9, 0, none⟩) 1 1 := fun v => hg9
            refine hK _ _ hv' ?_
            simp only [e1, e2, e3, e4, sliceR, cond_true, cond_false]
            exact hS2
            skip
          · intro D uu w' K hD hF hl hS hK
            simp only [puts, Act.put, List.setIfInBounds_toArray, List.set_cons_succ, List.set_cons_zero, Nat.zero_add, Nat.reduceAdd]
            go_simp
            simp only [yUpon]
            exact hK _ _ rfl hS
          · intro D uu w' K hD hF hl hS hK
            have f11 := (hF 11 (by kernel_rfl)).2
            simp only at f11
            simp only [puts, Act.put, List.setIfInBounds_toArray, List.set_cons_succ, List.set_cons_zero, Nat.zero_add, Nat.reduceAdd]
            simp only [f11]
            obtain ⟨d10, A2, c2, hA⟩ := hF 10 (by kernel_rfl)
            simp only [hD, d10, hA, cond_false, cond_true] at hS
            simp only [hA]
            have x0 := (hS.blk 1 rfl).cell 2
            simp at x0
            have z0 := (hS.blk 1 rfl).frozen 2
            have hput := hS.put (i := 1) rfl 2 (.slice A2 (i + 1) c2)
            have e1 : (fset D 12 true) 12 = true := rfl
            have e2 : (fset D 12 true) 10 = true := d10
            have e4 : ∀ v, (fset uu 12 v) 10 = .slice A2 (i + 1) c2 := fun v => hA
            go_simp
            simp only [yUpon]
            refine hK _ _ trivial ?_
            simp only [e1, e2, e4, cond_true]
            exact hput
        case fin =>
          clear HS
          intro D uu wg hall hS
          have f9 := (hall 9 (by simp)).1
          have f10 := (hall 10 (by simp)).1
          have f12 := (hall 12 (by simp)).1
          obtain ⟨A2, c2, v10⟩ := (hall 10 (by simp)).2
          simp only [f10, f12, v10, cond_true] at hS
          have hs3 := hS.take 3
          have HS := Lib.hid hs3
          clear hall hS hs3 f9 f10 f12
          simp only [puts, Act.put, List.setIfInBounds_toArray, List.set_cons_succ, List.set_cons_zero, Nat.zero_add, Nat.reduceAdd]
          go_wp2
          refine ⟨⟨i + 1, A2, c2, by omega, by first | rfl | go_num | simp, ?_⟩, by simp [intOf]; omega⟩
          rw [HTK.out]
          have e : uw ((rs.take i ++ [y]).map fun y => (pl y : Int)) = uw ((rs.take i).map fun y => (pl y : Int)) ++ [.int .u64 (pl y : Int)] := by simp [uw]
          rw [e]
          exact HS.out
      · have hltI : ¬ (i : Int) < (rs.length : Int) := by omega
        obtain rfl : i = rs.length := by omega
        rw [List.take_length] at HS
        have r0 := (HS.out.blk 1 rfl).cell 0
        simp at r0
        have r1 := (HS.out.blk 1 rfl).cell 1
        simp at r1
        have r2 := (HS.out.blk 1 rfl).cell 2
        simp at r2
        have q0 := (HS.out.blk 0 rfl).cell 0
        simp at q0
        have q1 := (HS.out.blk 0 rfl).cell 1
        simp at q1
        have q2 := (HS.out.blk 0 rfl).cell 2
        simp at q2
        have z0 := (HS.out.blk 0 rfl).frozen 0
        have z1 := (HS.out.blk 0 rfl).frozen 1
        have z2 := (HS.out.blk 0 rfl).frozen 2
        have hput := ((HS.out.put (i := 0) rfl 0 (.int .i64 (a2 : Int))).put (i := 0) rfl 1 (.int .i64 (sz : Int))).put (i := 0) rfl 2 (.slice A rs.length c')
        have d0 := (hput.blk 0 rfl).cell 0
        have d1 := (hput.blk 0 rfl).cell 1
        have d2 := (hput.blk 0 rfl).cell 2
        simp at d0 d1 d2
        have HPUT := Lib.hid (hput.tail.tail)
        clear hput
        go_wp2
        refine bodyPost_ret (v := .agg #[.int .i64 (a2 : Int), .int .i64 (sz : Int), .slice A rs.length c']) (by simp [results, Try.results12, go_sem, d0, d1, d2]) rfl ⟨_, rfl, HPUT.out⟩
end Go.Proofs.Ytbdomdmnjclpdaa
set_option linter.unusedSimpArgs false
set_option linter.unusedVariables false
set_option maxRecDepth 100000
namespace Go.Proofs.Ytbdomdmnjclpdaa
open Go.RowKit Go.Shelf

theorem Sep.swapIn {W w : World} {S : List Nat} {r : Res} (A B : List Res) (h : Sep W S (A ++ [noR] ++ B ++ [r]) w) : Sep W S (A ++ [r] ++ B) w := by
  have h1 : Sep W S (A ++ [noR] ++ (B ++ [r])) w := by simpa using h
  have h2 := Sep.dropMid (r := noR) A (B ++ [r]) h1
  exact Sep.bring A B (by simpa using h2)
def mapRu (v : Value) (m : Int → Option Value) : Res := match v with | .map (some g) => wentR g m | _ => noR
theorem Sep.no3 {W w : World} {S : List Nat} (A L : List Res) (h : Sep W S (A ++ L) w) : Sep W S (A ++ [noR, noR, noR] ++ L) w := by
  have h1 := ((h.add (Keep.refl _ _ _) (r := noR) trivial (by simp [noR])).add (Keep.refl _ _ _) (r := noR) trivial (by simp [noR])).add (Keep.refl _ _ _) (r := noR) trivial (by simp [noR])
  refine h1.perm ?_
  simp only [List.append_assoc]
  exact List.Perm.append_left A List.perm_append_comm
theorem Sep.toQ {W w : World} {S : List Nat} {r q : Res} {v : Value} {ws : List Int} (L : List Res) (h : Sep W S ([rowR 38 v (uw ws), q, r] ++ L) w) : Sep W S ([r, q, queueR 38 1 v ws.length (uw ws)] ++ L) w := by
  have h1 : Sep W S ([r, q, rowR 38 v (uw ws)] ++ L) w := h.perm (by
    refine List.Perm.append_right L ?_
    exact (List.Perm.swap _ _ _).trans ((List.Perm.cons _ (List.Perm.swap _ _ _)).trans (List.Perm.swap _ _ _)))
  have h3 := h1.row 2 rfl
  have h2 := row_queue h3
  rw [uw_length] at h2
  refine h1.step (i := 2) rfl (Keep.refl _ _ _) (r' := queueR 38 1 v ws.length (uw ws)) h2 (fun y hy => .inl ?_)
  rcases h3.2 with ⟨hv, _⟩ | ⟨g, cap, cur, hv, _⟩
  · subst hv; simp [queueR, qBlk] at hy
  · subst hv; simpa [queueR, qBlk, rowR, Value.ownBlock] using hy
def tvOf (v : Value) : Value := match v with | .agg cs => cs.getD 10 v | _ => v
def mpOf (v : Value) : Value := match v with | .agg cs => cs.getD 11 v | _ => v
def csOf (v : Value) : Array Value := match v with | .agg cs => cs | _ => #[]
theorem Sep.pre {W w : World} {S : List Nat} {L : List Res} (A : List Res) (h : Sep W S (L ++ A) w) : Sep W S (A ++ L) w := h.perm List.perm_append_comm
set_option maxRecDepth 100000 in
set_option maxHeartbeats 8000000 in
theorem new_cy {W : World} {S : List Nat} {L : List Res} (d : DevI) (k : Kfg) (a u : Nat) (RA : Option Addr) (RL RC : Nat) (rv : Value) (ws : List Int) (i : Nat) (w : World) (hk : k.Ok) (ha : a ≤ 1)
    (hi : L[i]? = some (rowR 38 rv (uw ws))) (hl : ws.length ≤ 100000) (hs : Sep W S L w) :
    Calls Try.prog 10 #[.pointer (some ⟨d.b, 0, none⟩), .agg #[.int .i64 (k.L : Int), .int .i64 (k.R : Int), .int .i64 (k.S : Int)], .agg #[.int .i64 (a : Int), .int .i64 (u : Int), .slice RA RL RC], rv] w fun e w' =>
      ∃ gx mr tv, e = .returned (.pointer (some ⟨gx, 0, none⟩)) ∧ Sep W S ([blkR gx 70 (cyC d k a u (.slice RA RL RC) (toA k a) (toA k a) (toA k a) tv mr false), wentR mr (fun _ => none), queueR 38 1 tv ws.length (uw ws)] ++ L) w' := by
  have HS := Lib.hid hs
  have hae : IntKind.i64.wrap ((1 : Int) - (a : Int)) = ((1 - a : Nat) : Int) := by rw [IntWalk.i64_in _ (by omega)]; omega
  have hfr := fun w => kfrom k w hk (1 - a) (by omega)
  simp only [Kfg.cells] at hfr
  obtain ⟨tb, htb⟩ : ∃ tb, toA k a = tb := ⟨_, rfl⟩
  rw [show k.from_ (1 - a) = tb from htb] at hfr
  rw [htb]
  obtain ⟨a2, ha2⟩ : ∃ a2, 1 - a = a2 := ⟨_, rfl⟩
  rw [ha2] at hae hfr
  have HFR := Lib.hid hfr
  have HI := Lib.hid hi
  have HWL := Lib.hid hl
  clear hs hfr ha2 htb hi hl hk ha
  go_enter Try.func10, Try.ntmps10
  go_wp2_with fail
  replace HS := Lib.hid (Sep.pre [blkR w.heap.size 30 #[.int .i64 (k.L : Int), .int .i64 (k.R : Int), .int .i64 (k.S : Int)], blkR (w.heap.size + 1) 33 #[.int .i64 (a : Int), .int .i64 (u : Int), .slice RA RL RC]] (by have h := (HS.out.new 30 #[.int .i64 (k.L : Int), .int .i64 (k.R : Int), .int .i64 (k.S : Int)]).new 33 #[.int .i64 (a : Int), .int .i64 (u : Int), .slice RA RL RC]; rw [World.size_alloc] at h; simpa using h))
  try simp only [World.size_alloc]
  generalize (w.alloc _).alloc _ = w2 at *
  generalize w.heap.size = gc at *
  generalize gc + 1 = go at *
  have c0 := (HS.out.blk 0 rfl).cell 0
  simp at c0
  have c1 := (HS.out.blk 0 rfl).cell 1
  simp at c1
  have c2 := (HS.out.blk 0 rfl).cell 2
  simp at c2
  have b0 := (HS.out.blk 1 rfl).cell 0
  simp at b0
  go_wp2_with fail
  refine (HFR.out _).mono ?_
  rintro e w3 ⟨rfl, hkk⟩
  replace HS := Lib.hid (HS.out.grow hkk)
  clear hkk HFR c0 c1 c2 b0
  go_wp2_with fail
  refine wp_region_st3 (W := W) (S := S) (by kernel_rfl) (by kernel_rfl) (by kernel_rfl) (fun D uu => [blkR gc 30 #[.int .i64 (k.L : Int), .int .i64 (k.R : Int), .int .i64 (k.S : Int)], blkR go 33 #[.int .i64 (a : Int), .int .i64 (u : Int), .slice RA RL RC], (bif D 9 then rowR 38 (tvOf (uu 9)) (uw ws) else bif D 7 then rowR 38 (uu 7) (uw ws) else noR), (bif D 9 then mapRu (mpOf (uu 9)) (fun _ => none) else bif D 8 then mapRu (uu 8) (fun _ => none) else noR), (bif D 11 then ptrR (uu 11) 70 (csOf (uu 9)) else bif D 10 then ptrR (uu 10) 70 (csOf (uu 9)) else noR)] ++ L)
    (fun j v => match j with
      | 0 => v = .pointer (some ⟨d.b, 0, none⟩)
      | 1 => v = .agg #[.int .i64 (k.L : Int), .int .i64 (k.R : Int), .int .i64 (k.S : Int)]
      | 2 => v = .agg #[.int .i64 (a : Int), .int .i64 (u : Int), .slice RA RL RC]
      | 3 => v = .int .i64 (tb : Int)
      | 4 => v = .int .i64 (tb : Int)
      | 5 => v = .int .i64 (tb : Int)
      | 6 => v = rv
      | 7 => ∃ A n c, v = .slice A n c
      | 8 => ∃ h, v = .map (some h)
      | 9 => ∃ A n c h, v = .agg #[.pointer (some ⟨d.b, 0, none⟩), .int .i64 (k.L : Int), .int .i64 (k.R : Int), .int .i64 (k.S : Int), .int .i64 (a : Int), .int .i64 (u : Int), .slice RA RL RC, .int .i64 (tb : Int), .int .i64 (tb : Int), .int .i64 (tb : Int), .slice A n c, .map (some h), .bool false]
      | 10 => ∃ h, v = .pointer (some ⟨h, 0, none⟩)
      | 11 => ∃ h, v = .pointer (some ⟨h, 0, none⟩)
      | _ => True) ?start ?step ?fin
  case start => exact fun u => Sep.no3 [_, _] L HS.out
  case step =>
    clear HS
    refine ⟨?_, ?_, ?_, ?_, ?_, ?_, ?_, ?_, ?_, ?_, ?_, ?_, trivial⟩
    · intro D uu w' K hD hF hl hS hK
      simp only [puts, Act.put, List.setIfInBounds_toArray, List.set_cons_succ, List.set_cons_zero, Nat.zero_add, Nat.reduceAdd]
      go_simp
      simp only [yUpon]
      exact hK _ _ rfl hS
    · intro D uu w' K hD hF hl hS hK
      simp only [puts, Act.put, List.setIfInBounds_toArray, List.set_cons_succ, List.set_cons_zero, Nat.zero_add, Nat.reduceAdd]
      have x0 := (hS.blk 0 rfl).cell 0
      have x1 := (hS.blk 0 rfl).cell 1
      have x2 := (hS.blk 0 rfl).cell 2
      simp at x0 x1 x2
      go_simp
      simp only [yUpon]
      exact hK _ _ rfl hS
    · intro D uu w' K hD hF hl hS hK
      simp only [puts, Act.put, List.setIfInBounds_toArray, List.set_cons_succ, List.set_cons_zero, Nat.zero_add, Nat.reduceAdd]
      have x0 := (hS.blk 1 rfl).cell 0
      have x1 := (hS.blk 1 rfl).cell 1
      have x2 := (hS.blk 1 rfl).cell 2
      simp at x0 x1 x2
      go_simp
      simp only [yUpon]
      exact hK _ _ rfl hS
    · intro D uu w' K hD hF hl hS hK
      simp only [puts, Act.put, List.setIfInBounds_toArray, List.set_cons_succ, List.set_cons_zero, Nat.zero_add, Nat.reduceAdd]
      go_simp
      simp only [yUpon]
      exact hK _ _ rfl hS
    · intro D uu w' K hD hF hl hS hK
      simp only [puts, Act.put, List.setIfInBounds_toArray, List.set_cons_succ, List.set_cons_zero, Nat.zero_add, Nat.reduceAdd]
      go_simp
      simp only [yUpon]
      exact hK _ _ rfl hS
    · intro D uu w' K hD hF hl hS hK
      simp only [puts, Act.put, List.setIfInBounds_toArray, List.set_cons_succ, List.set_cons_zero, Nat.zero_add, Nat.reduceAdd]
      go_simp
      simp only [yUpon]
      exact hK _ _ rfl hS
    · intro D uu w' K hD hF hl hS hK
      simp only [puts, Act.put, List.setIfInBounds_toArray, List.set_cons_succ, List.set_cons_zero, Nat.zero_add, Nat.reduceAdd]
      go_simp
      simp only [yUpon]
      exact hK _ _ rfl hS
    · intro D uu w' K hD hF hl hS hK
      have f6 := (hF 6 (by kernel_rfl)).2
      simp only at f6
      simp only [puts, Act.put, List.setIfInBounds_toArray, List.set_cons_succ, List.set_cons_zero, Nat.zero_add, Nat.reduceAdd]
      simp only [f6]
      have hl9 := hl 9 (by kernel_rfl)
      simp only [hD, hl9, cond_false] at hS
      have e1 : (fset D 7 true) 7 = true := rfl
      have e2 : (fset D 7 true) 9 = false := hl9
      go_simp
      simp only [yUpon]
      refine (clone_rowU hS (i := i + 5) (by simpa using HI.out) HWL.out).mono ?_
      rintro e w9 ⟨v', rfl, hs9⟩
      have hs10 := Sep.swapIn [_, _] _ hs9
      obtain ⟨A, c, hv⟩ := rowR_val (hs10.row 2 rfl)
      refine hK _ _ ⟨A, _, c, hv⟩ ?_
      simp only [e1, e2, cond_true, cond_false]
      exact hs10
    · intro D uu w' K hD hF hl hS hK
      simp only [puts, Act.put, List.setIfInBounds_toArray, List.set_cons_succ, List.set_cons_zero, Nat.zero_add, Nat.reduceAdd]
      have hl9 := hl 9 (by kernel_rfl)
      simp only [hD, hl9, cond_false] at hS
      have hs2 := hS.step (i := 3) (r := noR) rfl (w' := w'.alloc (.map #[] 0)) ((Keep.refl _ _ _).alloc (Nat.le_refl _) _) (r' := wentR w'.heap.size (fun _ => none)) (IMap.new _ _) (by simp [wentR])
      have e1 : (fset D 8 true) 8 = true := rfl
      have e2 : (fset D 8 true) 9 = false := hl9
      go_simp
      simp only [yUpon]
      refine hK _ _ ⟨_, rfl⟩ ?_
      simp only [e1, e2, mapRu, cond_true, cond_false]
      exact hs2
    · intro D uu w' K hD hF hl hS hK
      have f0 := (hF 0 (by kernel_rfl)).2
      simp only at f0
      have f1 := (hF 1 (by kernel_rfl)).2
      simp only at f1
      have f2 := (hF 2 (by kernel_rfl)).2
      simp only at f2
      have f3 := (hF 3 (by kernel_rfl)).2
      simp only at f3
      have f4 := (hF 4 (by kernel_rfl)).2
      simp only at f4
      have f5 := (hF 5 (by kernel_rfl)).2
      simp only at f5
      simp only [puts, Act.put, List.setIfInBounds_toArray, List.set_cons_succ, List.set_cons_zero, Nat.zero_add, Nat.reduceAdd]
      simp only [f0, f1, f2, f3, f4, f5]
      obtain ⟨d7, A, n, c, h7⟩ := hF 7 (by kernel_rfl)
      obtain ⟨d8, h, h8⟩ := hF 8 (by kernel_rfl)
      simp only [h7, h8]
      simp only [hD, d7, d8, h7, h8, cond_true, cond_false] at hS
      have hl11 := hl 11 (by kernel_rfl)
      have hl10 := hl 10 (by kernel_rfl)
      simp only [hl10, hl11, cond_true, cond_false] at hS
      have e1 : (fset D 9 true) 9 = true := rfl
      have e2 : (fset D 9 true) 10 = false := hl10
      have e3 : (fset D 9 true) 11 = false := hl11
      go_simp
      simp only [yUpon]
      refine hK _ _ ⟨A, n, c, h, rfl⟩ ?_
      simp only [e1, e2, e3, cond_true, cond_false]
      exact hS
    · intro D uu w' K hD hF hl hS hK
      simp only [puts, Act.put, List.setIfInBounds_toArray, List.set_cons_succ, List.set_cons_zero, Nat.zero_add, Nat.reduceAdd]
      obtain ⟨d9, A, n, c, h, h9⟩ := hF 9 (by kernel_rfl)
      simp only [h9]
      have hl11 := hl 11 (by kernel_rfl)
      simp only [hD, d9, hl11, cond_true, cond_false] at hS
      have hs2 := hS.step (i := 4) (r := noR) rfl (w' := w'.alloc (.cells #[.pointer (some ⟨d.b, 0, none⟩), .int .i64 (k.L : Int), .int .i64 (k.R : Int), .int .i64 (k.S : Int), .int .i64 (a : Int), .int .i64 (u : Int), .slice RA RL RC, .int .i64 (tb : Int), .int .i64 (tb : Int), .int .i64 (tb : Int), .slice A n c, .map (some h), .bool false] 70)) ((Keep.refl _ _ _).alloc (Nat.le_refl _) _) (r' := blkR w'.heap.size 70 #[.pointer (some ⟨d.b, 0, none⟩), .int .i64 (k.L : Int), .int .i64 (k.R : Int), .int .i64 (k.S : Int), .int .i64 (a : Int), .int .i64 (u : Int), .slice RA RL RC, .int .i64 (tb : Int), .int .i64 (tb : Int), .int .i64 (tb : Int), .slice A n c, .map (some h), .bool false]) (Blk.new _ _ _) (by simp [blkR])
      have e1 : (fset D 10 true) 10 = true := rfl
      have e2 : (fset D 10 true) 9 = true := d9
      have e3 : (fset D 10 true) 11 = false := hl11
      have e4 : ∀ v, (fset uu 10 v) 9 = .agg #[.pointer (some ⟨d.b, 0, none⟩), .int .i64 (k.L : Int), .int .i64 (k.R : Int), .int .i64 (k.S : Int), .int .i64 (a : Int), .int .i64 (u : Int), .slice RA RL RC, .int .i64 (tb : Int), .int .i64 (tb : Int), .int .i64 (tb : Int), .slice A n c, .map (some h), .bool false] := fun v => h9
      rw [h9] at hs2
      go_simp
      simp only [yUpon]
      refine hK _ _ ⟨_, rfl⟩ ?_
      simp only [e1, e2, e3, e4, csOf, cond_true, cond_false]
      exact hs2
    · intro D uu w' K hD hF hl hS hK
      simp only [puts, Act.put, List.setIfInBounds_toArray, List.set_cons_succ, List.set_cons_zero, Nat.zero_add, Nat.reduceAdd]
      obtain ⟨d10, h, h10⟩ := hF 10 (by kernel_rfl)
      simp only [hD, d10, h10, cond_true, cond_false] at hS
      have e1 : (fset D 11 true) 11 = true := rfl
      simp only [h10]
      go_simp
      simp only [yUpon]
      refine hK _ _ ⟨_, rfl⟩ ?_
      simp only [e1, cond_true, cond_false]
      exact hS
  case fin =>
    clear HS
    intro D uu w9 hall hS
    have f9 := (hall 9 (by simp)).1
    have f11 := (hall 11 (by simp)).1
    obtain ⟨A, n, c, h, v9⟩ := (hall 9 (by simp)).2
    obtain ⟨gx, v11⟩ := (hall 11 (by simp)).2
    simp only [f9, f11, v9, v11, ptrR, csOf, cond_true] at hS
    have h1 : Sep W S ([blkR gc 30 #[.int .i64 (k.L : Int), .int .i64 (k.R : Int), .int .i64 (k.S : Int)], blkR go 33 #[.int .i64 (a : Int), .int .i64 (u : Int), .slice RA RL RC]] ++ [rowR 38 (.slice A n c) (uw ws), wentR h (fun _ => none), blkR gx 70 #[.pointer (some ⟨d.b, 0, none⟩), .int .i64 (k.L : Int), .int .i64 (k.R : Int), .int .i64 (k.S : Int), .int .i64 (a : Int), .int .i64 (u : Int), .slice RA RL RC, .int .i64 (tb : Int), .int .i64 (tb : Int), .int .i64 (tb : Int), .slice A n c, .map (some h), .bool false]] ++ L) w9 := hS
    have h2 := Sep.toQ (r := blkR gx 70 #[.pointer (some ⟨d.b, 0, none⟩), .int .i64 (k.L : Int), .int .i64 (k.R : Int), .int .i64 (k.S : Int), .int .i64 (a : Int), .int .i64 (u : Int), .slice RA RL RC, .int .i64 (tb : Int), .int .i64 (tb : Int), .int .i64 (tb : Int), .slice A n c, .map (some h), .bool false]) L h1.tail.tail
    have HS := Lib.hid h2
    clear hall hS h1 h2 f9 f11 v9
    simp only [puts, Act.put, List.setIfInBounds_toArray, List.set_cons_succ, List.set_cons_zero, Nat.zero_add, Nat.reduceAdd]
    simp only [v11]
    go_wp2
    go_ret
    exact ⟨gx, h, .slice A n c, rfl, HS.out⟩
end Go.Proofs.Ytbdomdmnjclpdaa
set_option linter.unusedSimpArgs false
set_option linter.unusedVariables false
set_option maxRecDepth 100000
namespace Go.Proofs.Ytbdomdmnjclpdaa
open Go.RowKit Go.Shelf

theorem LinkS.chyOk {t : St} {k : Kfg} {os : List Ob} {u : Nat} {wr : Prop} (h : LinkS t k os u (nameP os wr)) (hk : k.Ok) : ChyOk t k 0 u (isOb t k 0 u) :=
  ⟨hk, by decide, h.fill.le, h.fill.use.is, h.rng, fun x h => h, fun L hL => by
    have h1 := sizeF_sub (t := t) (L := placesI os) hL.1 (fun x hx => by
      obtain ⟨o, ho, rfl⟩ := (h.isOb_iff' hk).1 (hL.2 x hx)
      exact List.mem_map.2 ⟨o, ho, rfl⟩)
    rw [h.sizeAll] at h1
    exact h1⟩
theorem chyRel_id (t : St) (k : Kfg) (a u : Nat) : ChyRel t k a u (isOb t k a u) := fun _ _ _ _ _ => rfl
theorem cyInv_start {t : St} {k : Kfg} {a u : Nat} {ws : List Int} (hb : ∀ x ∈ ws, 0 ≤ x ∧ x ≤ 18446744073709551615) : CyInv t t k a u (isOb t k a u) ⟨[], ws, 0, false⟩ :=
  ⟨Moved.refl _ _ _, CopyInv.start, fun h => (by cases h), fun x hx => ⟨hb x hx, rfl⟩⟩
theorem chy_new {W : World} {S : List Nat} {X : List Res} (d : DevI) (t : St) (k : Kfg) (a u : Nat) (RA : Option Addr) (RL RC : Nat) (rv : Value) (ws : List Int) (i : Nat) (w : World) (hk : k.Ok) (ha : a ≤ 1)
    (hi : X[i]? = some (rowR 38 rv (uw ws))) (hl : ws.length ≤ 100000) (hs : Sep W S (devR d t :: X) w) :
    Calls Try.prog 10 #[.pointer (some ⟨d.b, 0, none⟩), .agg k.cells, .agg (rbC a u (.slice RA RL RC)), rv] w fun e w' =>
      ∃ gx mr tv, e = .returned (.pointer (some ⟨gx, 0, none⟩)) ∧ Sep W S (cyT d t t k a u gx mr RA RL RC ⟨[], ws, 0, false⟩ tv ++ X) w' := by
  refine (new_cy (L := devR d t :: X) d k a u RA RL RC rv ws (i + 1) w hk ha (by simpa using hi) hl hs).mono ?_
  rintro e w' ⟨gx, mr, tv, he, h⟩
  refine ⟨gx, mr, tv, he, ?_⟩
  have h2 := h.perm (List.perm_middle (l₁ := [_, _, _]) (l₂ := X) (a := devR d t))
  exact h2
set_option maxRecDepth 100000 in
set_option maxHeartbeats 4000000 in
theorem awake14_any (w : World) : Calls Try.prog 6 #[] w fun e w' => e = .returned (.bool true) ∧ Keep w.heap.size [] w w' := by
  have HS := Lib.hid (Sep.start w [])
  go_enter Try.func6, Try.ntmps6
  go_wp2_with fail
  refine (awake13_any _).mono ?_
  rintro e w1 ⟨rfl, hk⟩
  replace HS := Lib.hid (HS.out.grow hk)
  clear hk
  go_wp2_with fail
  replace HS := Lib.hid (HS.out.new 61 #[.int .u8 0, .int .u8 1])
  generalize w1.alloc _ = w2 at *
  generalize w1.heap.size = gh at *
  refine (linked_any 0 0 40 0 _ _ [⟨0, 1⟩] [] _ (by decide) (by decide) (by decide) (by decide) (by decide) (by decide) (rdH_one (HS.out.blk 0 rfl)) (by intro x hx; simp at hx; subst hx; exact ⟨by decide, by decide, by decide, by decide⟩) (by decide) ⟨none, 0, rfl, fun h => absurd h (by simp)⟩ (by simp) (by decide) (by decide) (by decide)).mono ?_
  have hpl : placed ((kOf 0 0 40).from_ 0) (kOf 0 0 40).S [⟨0, 1⟩] 0 = [⟨40, 1, 0⟩] := by rw [k40_from]; decide
  have hus : usedOf (kOf 0 0 40).S [⟨0, 1⟩] 0 = 2 := by decide
  have hk : (kOf 0 0 40).Ok := (kOf_ok (by decide) (by decide) (by decide)).1
  rw [hpl, hus]
  have hf0 := k40_from
  have hkS : (kOf 0 0 40).S = 48 := rfl
  generalize kOf 0 0 40 = k at *
  rintro e w3 ⟨d, t, rv, ov, rfl, hl, hS⟩
  obtain ⟨RA, RC, hrv⟩ := rowR_val (hS.row 2 rfl)
  obtain ⟨rs, hrs⟩ : ∃ rs, rootsOf t k k.R = rs := ⟨_, rfl⟩
  have hrsl : rs.length = k.R := by rw [← hrs]; simp [rootsOf]
  rw [hrs] at hrv hS
  rw [uw_length] at hrv
  subst hrv
  obtain ⟨gv, C0, ex, rfl, hS2⟩ := (HS.out.adds hS).rowBlk (i := 2) rfl (by simp [atsOf])
  replace HS := Lib.hid hS2
  rw [show (atsOf [⟨40, 1, 0⟩]).length = 1 from rfl]
  simp only [Kfg.cells, rbC]
  have hz : isOb t k 0 2 0 = false := by
    cases hb : isOb t k 0 2 0 with
    | false => rfl
    | true =>
      obtain ⟨p, hp, h1, _⟩ := isOb_in hb
      rw [hf0] at h1
      omega
  have hkR := hk.r1
  have HRS := Lib.hid hrsl
  have HL := Lib.hid hl
  have HK := Lib.hid hk
  have HC := Lib.hid (hl.chyOk hk)
  have HZ := Lib.hid hz
  have HU : Hid (2 ≤ k.S) := Lib.hid (by rw [hkS]; decide)
  clear hkS hS hS2 hl hpl hus hk hf0 hz hrs hrsl
  go_upto_region 4 with fail
  replace HS := Lib.hid ((HS.out.new 30 #[.int .i64 (k.L : Int), .int .i64 (k.R : Int), .int .i64 (k.S : Int)]).new 33 #[.int .i64 0, .int .i64 2, .slice RA rs.length RC])
  simp only [World.size_alloc] at HS
  generalize (w3.alloc _).alloc _ = w4 at *
  generalize w3.heap.size = gk at *
  generalize gk + 1 = gb at *
  have c0 := (HS.out.blk 4 rfl).cell 0
  simp at c0
  have c1 := (HS.out.blk 4 rfl).cell 1
  simp at c1
  have c2 := (HS.out.blk 4 rfl).cell 2
  simp at c2
  have b0 := (HS.out.blk 5 rfl).cell 0
  simp at b0
  have b1 := (HS.out.blk 5 rfl).cell 1
  simp at b1
  have b2 := (HS.out.blk 5 rfl).cell 2
  simp at b2
  go_wp2_with fail
  clear c0 c1 c2 b0 b1 b2
  replace HS := Lib.hid (((HS.out.add ((Keep.refl _ _ _).alloc (Nat.le_refl _) _) (r := rowR 38 (.slice (some ⟨w4.heap.size, 0, none⟩) 1 1) (uw [0])) (ownsRow_new w4 38 [.int .u64 0] (by decide)) (by simp [rowR, Value.ownBlock]))).perm (List.Perm.swap _ _ _))
  have hnw := chy_new (X := [blkR gh 61 #[.int .u8 0, .int .u8 1], blkR gv 3 (atsOf [⟨40, 1, 0⟩] ++ ex).toArray, rowR 38 (.slice RA rs.length RC) (uw rs), blkR gk 30 #[.int .i64 (k.L : Int), .int .i64 (k.R : Int), .int .i64 (k.S : Int)], blkR gb 33 #[.int .i64 0, .int .i64 2, .slice RA rs.length RC], rowR 38 (.slice (some ⟨w4.heap.size, 0, none⟩) 1 1) (uw [0])]) d t k 0 2 RA rs.length RC (.slice (some ⟨w4.heap.size, 0, none⟩) 1 1) [0] 5 _ HK.out (by decide) rfl (by decide) HS.out
  simp only [Kfg.cells, rbC] at hnw
  refine hnw.mono ?_
  rintro e w6 ⟨gx, mr, tv, rfl, hs⟩
  have hst := step_any d t t k 0 2 gx mr ⟨[], [0], 0, false⟩ tv RA rs.length RC w6 HC.out (chyRel_id _ _ _ _) (cyInv_start (by simp)) hs
  rw [show stepC (isOb t k 0 2) (nmsOf t) ⟨[], [0], 0, false⟩ = ⟨[], [], 0, false⟩ by simp [stepC, seeF, HZ.out]] at hst
  have HST := Lib.hid hst
  have HS0 := Lib.hid hs
  clear hs hnw hst HS
  go_wp2_with fail
  refine HST.out.mono ?_
  rintro e w7 (⟨rfl, t1, tv1, hm1, hi1, hs1⟩ | ⟨rfl, hl0, _⟩)
  rotate_left
  · exact absurd hl0 (by have := HL.out.fill.use.lim; omega)
  have hst := step_any d t t1 k 0 2 gx mr ⟨[], [], 0, false⟩ tv1 RA rs.length RC w7 HC.out (chyRel_id _ _ _ _) hi1 hs1
  rw [show stepC (isOb t k 0 2) (nmsOf t) ⟨[], [], 0, false⟩ = ⟨[], [], 0, true⟩ by simp [stepC]] at hst
  have hl1 := hm1.lim
  have HL1 := Lib.hid hl1
  have HST2 := Lib.hid hst
  clear hst hm1 hi1 hs1 HST hl1
  go_wp2_with fail
  refine HST2.out.mono ?_
  rintro e w8 (⟨rfl, t2, tv2, hm2, hi2, hs2⟩ | ⟨rfl, hl0, _⟩)
  rotate_left
  · exact absurd hl0 (by have := HL.out.fill.use.lim; have := HL1.out; omega)
  have hbk : ∀ w8, Sep w [] (cyT d t2 t k 0 2 gx mr RA rs.length RC ⟨[], [], 0, true⟩ tv2 ++ [blkR gh 61 #[.int .u8 0, .int .u8 1], blkR gv 3 (atsOf [⟨40, 1, 0⟩] ++ ex).toArray, rowR 38 (.slice RA rs.length RC) (uw rs), blkR gk 30 #[.int .i64 (k.L : Int), .int .i64 (k.R : Int), .int .i64 (k.S : Int)], blkR gb 33 #[.int .i64 0, .int .i64 2, .slice RA rs.length RC], rowR 38 (.slice (some ⟨w4.heap.size, 0, none⟩) 1 1) (uw [0])]) w8 → Calls Try.prog 12 #[.pointer (some ⟨gx, 0, none⟩)] w8 fun e w' => ∃ v, e = .returned (.agg #[.int .i64 1, .int .i64 0, v]) ∧ Keep w8.heap.size [] w8 w' := by
    intro w8 h8
    refine (block_cy (X := [blkR gh 61 #[.int .u8 0, .int .u8 1], blkR gv 3 (atsOf [⟨40, 1, 0⟩] ++ ex).toArray, rowR 38 (.slice RA rs.length RC) (uw rs), blkR gk 30 #[.int .i64 (k.L : Int), .int .i64 (k.R : Int), .int .i64 (k.S : Int)], blkR gb 33 #[.int .i64 0, .int .i64 2, .slice RA rs.length RC], rowR 38 (.slice (some ⟨w4.heap.size, 0, none⟩) 1 1) (uw [0])]) d t t2 k 0 2 gx mr ⟨[], [], 0, true⟩ tv2 RA rs.length RC rs w8 (by decide) HK.out HU.out (Nat.zero_le _) List.nodup_nil (rd_rowE (h8.row 6 rfl)) (by have := HRS.out; omega) h8).mono ?_
    rintro e w' ⟨v, rfl, h⟩
    exact ⟨v, rfl, h.keep⟩
  have HBK := Lib.hid hbk
  have HS := Lib.hid hs2
  clear hs2 hm2 hi2 hbk HST2 HC HL HZ HS0
  have hf0 : ∀ v w, (Instr.field 33 (.agg #[.int .i64 1, .int .i64 0, v]) 1).run Try.prog w = .ok (.int .i64 0) w := fun v w => rfl
  have hf1 : ∀ v w, (Instr.field 33 (.agg #[.int .i64 1, .int .i64 0, v]) 0).run Try.prog w = .ok (.int .i64 1) w := fun v w => rfl
  go_wp2_with fail
  refine (HBK.out _ HS.out).mono ?_
  rintro e w9 ⟨v1, rfl, hk1⟩
  replace HS := Lib.hid (HS.out.grow hk1)
  clear hk1
  go_wp2_with fail
  refine (HBK.out _ HS.out).mono ?_
  rintro e w10 ⟨v2, rfl, hk2⟩
  replace HS := Lib.hid (HS.out.grow hk2)
  clear hk2
  go_wp2
  go_ret
  exact ⟨rfl, HS.out.keep⟩
end Go.Proofs.Ytbdomdmnjclpdaa
