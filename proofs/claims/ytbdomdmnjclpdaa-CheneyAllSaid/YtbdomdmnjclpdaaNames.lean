/-
  Package object: Names.
-/
import Derived.Test.YtbdomdmnjclpdaaRange
import Derived.Test.YtbdomdmnjclpdaaObjF
set_option linter.unusedSimpArgs false
set_option linter.unusedVariables false
set_option maxRecDepth 100000
namespace Go.Proofs.Ytbdomdmnjclpdaa
open Go.RowKit Go.Shelf

/-- The names of an object that aren't nothing, with their fields. -/
def namesTo (t : St) (at_ : Nat) : Nat → List (Nat × Int)
  | 0 => []
  | i + 1 => namesTo t at_ i ++ if t.nw (at_ + 1 + i) = 0 then [] else [(i, t.nw (at_ + 1 + i))]
theorem namesTo_prefix (t : St) (at_ i : Nat) : ∀ j, namesTo t at_ i <+: namesTo t at_ (i + j)
  | 0 => List.prefix_rfl
  | j + 1 => (namesTo_prefix t at_ i j).trans (List.prefix_append _ _)
theorem namesTo_get {t : St} {at_ i b : Nat} (hi : i < b) (h : t.nw (at_ + 1 + i) ≠ 0) : (namesTo t at_ i).length < (namesTo t at_ b).length ∧ (namesTo t at_ b).getD (namesTo t at_ i).length (0, 0) = (i, t.nw (at_ + 1 + i)) := by
  obtain ⟨rest, hr⟩ := namesTo_prefix t at_ (i + 1) (b - (i + 1))
  rw [show i + 1 + (b - (i + 1)) = b by omega] at hr
  have h1 : namesTo t at_ (i + 1) = namesTo t at_ i ++ [(i, t.nw (at_ + 1 + i))] := by
    show namesTo t at_ i ++ (if _ then _ else _) = _
    rw [if_neg h]
  rw [← hr, h1]
  refine ⟨by simp, ?_⟩
  rw [List.append_assoc, List.getD_eq_getElem?_getD, List.getElem?_append_right (Nat.le_refl _)]
  simp
theorem namesTo_zero {t : St} {at_ i : Nat} (h : t.nw (at_ + 1 + i) = 0) : namesTo t at_ (i + 1) = namesTo t at_ i := by
  show namesTo t at_ i ++ (if _ then _ else _) = _
  rw [if_pos h, List.append_nil]
theorem namesTo_more {t : St} {at_ i : Nat} (h : t.nw (at_ + 1 + i) ≠ 0) : (namesTo t at_ (i + 1)).length = (namesTo t at_ i).length + 1 := by
  show (namesTo t at_ i ++ (if _ then _ else _)).length = _
  rw [if_neg h]
  simp
theorem namesTo_mem {t : St} {at_ : Nat} {x : Nat × Int} : ∀ {b : Nat}, x ∈ namesTo t at_ b ↔ x.1 < b ∧ x.2 = t.nw (at_ + 1 + x.1) ∧ x.2 ≠ 0
  | 0 => by simp [namesTo]
  | b + 1 => by
    have ih := @namesTo_mem t at_ x b
    show x ∈ namesTo t at_ b ++ _ ↔ _
    rw [List.mem_append, ih]
    by_cases h : t.nw (at_ + 1 + b) = 0
    · rw [if_pos h]
      constructor
      · rintro (h1 | h1)
        · exact ⟨by omega, h1.2⟩
        · simp at h1
      · rintro ⟨h1, h2, h3⟩
        refine .inl ⟨?_, h2, h3⟩
        rcases Nat.lt_or_ge x.1 b with h4 | h4
        · exact h4
        · obtain rfl : x.1 = b := by omega
          exact absurd (h2.trans h) h3
    · rw [if_neg h]
      constructor
      · rintro (h1 | h1)
        · exact ⟨by omega, h1.2⟩
        · simp at h1; subst h1; exact ⟨by simp, rfl, h⟩
      · rintro ⟨h1, h2, h3⟩
        rcases Nat.lt_or_ge x.1 b with h4 | h4
        · exact .inl ⟨h4, h2, h3⟩
        · have h5 : x.1 = b := by omega
          refine .inr ?_
          rw [h5] at h2
          simp only [List.mem_singleton]
          exact Prod.ext h5 h2

set_option maxHeartbeats 4000000 in
theorem names_any (m b at_ : Int) (v : Value) (w : World) (hv : ∃ a, v = .pointer a) :
    Calls Try.prog 59 #[obV m b at_, v] w fun e w' => e = .returned (.func (.func 67) #[] #[.pointer (some ⟨w.heap.size, 0, none⟩), .pointer (some ⟨w.heap.size + 1, 0, none⟩)]) ∧ w' = (w.alloc (.cells #[.int .i64 m, .int .i64 b, .int .i64 at_] 53)).alloc (.cells #[v] 28) := by
  obtain ⟨a, rfl⟩ := hv
  go_enter Try.func59, Try.ntmps59
  go_wp2
  go_ret
  exact ⟨rfl, rfl⟩

set_option maxHeartbeats 4000000 in
theorem names_seq (d : DevI) (t : St) (m b at_ gb gd : Nat) (hb : b ≤ m) (hm : m ≤ 64) (hat : at_ ≤ 1000000) (hx : ∀ i, i < b → 0 ≤ t.nw (at_ + 1 + i) ∧ t.nw (at_ + 1 + i) ≤ 9223372036854775807) :
    SeqC 67 #[.pointer (some ⟨gb, 0, none⟩), .pointer (some ⟨gd, 0, none⟩)] (fun j => #[.int .i64 (((namesTo t at_ b).getD j (0, 0)).1 : Int), .int .i64 ((namesTo t at_ b).getD j (0, 0)).2]) (namesTo t at_ b).length
      (fun _ W => Blk W gb 53 #[.int .i64 (m : Int), .int .i64 (b : Int), .int .i64 (at_ : Int)] ∧ Blk W gd 28 #[.pointer (some ⟨d.b, 0, none⟩)] ∧ Dev W d t) := by
  intro l G Gx Gp w hG hGx hRR hY h0
  have HG := Lib.hid hG
  have HGX := Lib.hid hGx
  have HRR := Lib.hid hRR
  have HY := Lib.hid hY
  have HX := Lib.hid hx
  have H0 := Lib.hid h0
  clear hG hGx hRR hY hx h0
  have hbI : (b : Int) ≤ 64 := by omega
  have hatI : (at_ : Int) ≤ 1000000 := by omega
  obtain ⟨hb1, hb2, _⟩ := HRR.out 0 w (by omega) H0.out
  have c1 := hb1.cell 1
  simp at c1
  clear hb1 hb2
  go_enter Try.func67, Try.ntmps67
  go_wp2_with fail
  clear c1
  go_loopw [4, 5, 9] (fun _ _ v' wr => ∃ i : Nat, i ≤ b ∧ v' = .int .i64 (i : Int) ∧ G (namesTo t at_ i).length wr) (fun _ _ v' _ => b - (intOf v').toNat)
  case atStart => exact ⟨0, by omega, rfl, H0.out⟩
  case round =>
    obtain ⟨i, hi, rfl, hg⟩ := hrel
    have HM := Lib.hid hg
    have hlen : (namesTo t at_ i).length ≤ (namesTo t at_ b).length := by
      obtain ⟨r, hr⟩ := namesTo_prefix t at_ i (b - i)
      rw [show i + (b - i) = b by omega] at hr
      rw [← hr]; simp
    obtain ⟨hb1, hb2, hd⟩ := HRR.out _ wr hlen hg
    clear hg
    by_cases hlt : i < b
    · have hltI : (i : Int) < (b : Int) := by omega
      obtain ⟨q, hq⟩ : ∃ q, at_ + 1 + i = q := ⟨_, rfl⟩
      obtain ⟨x, hxx⟩ : ∃ x, t.nw q = x := ⟨_, rfl⟩
      obtain ⟨hx0, hx1⟩ := HX.out i hlt
      rw [hq, hxx] at hx0 hx1
      have hq1 : IntKind.i64.wrap ((at_ : Int) + 1) = (at_ : Int) + 1 := IntWalk.i64_in _ (by omega)
      have hq2 : IntKind.i64.wrap ((at_ : Int) + 1 + (i : Int)) = (q : Int) := by rw [IntWalk.i64_in _ (by omega)]; omega
      have hcv : IntKind.i64.wrap x = x := IntWalk.i64_in _ (by omega)
      have HQ := Lib.hid hq
      have HXX := Lib.hid hxx
      have HD := Lib.hid hd
      have c2 := hb1.cell 2
      have d0 := hb2.cell 0
      simp at c2 d0
      clear hb1 hb2 hd hq hxx
      go_wp2_with fail
      refine (load_is d t q x _ HD.out HXX.out).mono ?_
      rintro e w1 ⟨rfl, rfl⟩
      clear c2 d0
      by_cases hz : x = 0
      · have e1 : decide (x = 0) = true := by simpa using hz
        have e2 : (x == 0) = true := by simpa using hz
        have e3 : (x != 0) = false := by simpa using hz
        have hn := namesTo_zero (t := t) (at_ := at_) (i := i) (by rw [HQ.out, HXX.out]; exact hz)
        have HN := Lib.hid hn
        have HZ := Lib.hid hz
        clear hz hn
        go_wp2
        exact ⟨⟨i + 1, by omega, by first | rfl | go_num | simp, by rw [HN.out]; exact HM.out⟩, by simp [intOf]; try omega⟩
      · have e1 : decide (x = 0) = false := by simpa using hz
        have e2 : (x == 0) = false := by simpa using hz
        have e3 : (x != 0) = true := by simpa using hz
        have hne : t.nw (at_ + 1 + i) ≠ 0 := by rw [HQ.out, HXX.out]; exact hz
        obtain ⟨hl1, hl2⟩ := namesTo_get hlt hne
        have hn := namesTo_more hne
        have hY := HY.out (namesTo t at_ i).length wr hl1 HM.out
        rw [hl2, HQ.out, HXX.out] at hY
        simp only at hY
        have HN := Lib.hid hn
        have HY2 := Lib.hid hY
        clear hz hn hY hl1 hl2 hne
        go_upto_region 4 with fail
        refine (wpIn_wide (n := 0)).1 (wpIn_region_lit ?_)
        obtain ⟨fn, tmps, assign, body, hy, hR⟩ := HY2.out
        gi_wp2
        refine ⟨rfl, hR.mono ?_⟩
        rintro e w3 (⟨rfl, hg⟩ | ⟨rfl, hg⟩ | ⟨ch, rfl, hg⟩)
        · clear hR hy
          gi_wp2
          go_wp2
          exact ⟨⟨i + 1, by omega, by first | rfl | go_num | simp, by rw [HN.out]; exact hg⟩, by simp [intOf]; try omega⟩
        · clear hR hy
          gi_wp2
          go_wp2
          exact bodyPost_ret (results_none rfl _ _ _) rfl (.inl ⟨_, rfl, .inr hg⟩)
        · clear hR hy
          gi_wp2
          exact ⟨rfl, .inr ⟨ch, rfl, hg⟩⟩
    · obtain rfl : i = b := by omega
      have hltI : ¬ (i : Int) < (i : Int) := by omega
      go_wp2
      go_end0
      exact .inl ⟨⟨_, rfl⟩, .inl HM.out⟩
end Go.Proofs.Ytbdomdmnjclpdaa
