/-
  Rows of stores: tumuluslaw08.one.
-/
import Derived.Test.YtaophnicdbmojaaRowN
import Derived.Test.YtaophnicdbmojaaRootsC
set_option linter.unusedSimpArgs false
set_option linter.unusedVariables false
set_option maxRecDepth 100000
namespace Go.Proofs.Ytaophnicdbmojaa
open Go.RowKit Go.Shelf

theorem addrO (g i : Nat) : (⟨g, 0, none⟩ : Addr).add i = ⟨g, i, none⟩ := by unfold Addr.add; split <;> simp_all
/-- Two cells of each store. -/
def onesOf (l : List (Nat × Int)) : List Value := l.flatMap fun x => [.int .i64 (x.1 : Int), .int .u64 x.2]
theorem onesOf_snoc (l : List (Nat × Int)) (x : Nat × Int) : onesOf (l ++ [x]) = onesOf l ++ [.int .i64 (x.1 : Int), .int .u64 x.2] := by simp [onesOf]
theorem onesOf_get : ∀ (l : List (Nat × Int)) (m : Nat) (x : Nat × Int), l[m]? = some x → (onesOf l)[m * 2]? = some (.int .i64 (x.1 : Int)) ∧ (onesOf l)[m * 2 + 1]? = some (.int .u64 x.2)
  | [], m, x, h => by simp at h
  | y :: l, 0, x, h => by simp at h; subst h; exact ⟨rfl, rfl⟩
  | y :: l, m + 1, x, h => by
    have := onesOf_get l m x (by simpa using h)
    rw [show (m + 1) * 2 = m * 2 + 2 by omega]
    exact this
/-- A slice of stores. -/
def RdO (w : World) (v : Value) (l : List (Nat × Int)) : Prop :=
  ∃ A c, v = .slice A l.length c ∧ ∀ (m : Nat) (x : Nat × Int), l[m]? = some x → ∃ g, A = some ⟨g, 0, none⟩ ∧ w.cell? ⟨g, m * 2, none⟩ = some (.int .i64 (x.1 : Int)) ∧ w.cell? ⟨g, m * 2 + 1, none⟩ = some (.int .u64 x.2)
theorem rowN_rdO {w : World} {v : Value} {l : List (Nat × Int)} (h : w.ownsRow 0 56 2 v l.length (onesOf l)) : RdO w v l := by
  obtain ⟨A, c, rfl⟩ := rowN_val h
  refine ⟨A, c, rfl, fun m x hx => ?_⟩
  obtain ⟨g, c', hA, hc⟩ := rowN_cells h (by have := (List.getElem?_eq_some_iff.1 hx).1; omega)
  injection hA with e1 e2 e3
  obtain ⟨h1, h2⟩ := onesOf_get l m x hx
  exact ⟨g, e1, hc _ _ h1, hc _ _ h2⟩

set_option maxHeartbeats 4000000 in
theorem equalO_same (a b : Value) (l : List (Nat × Int)) (w : World) (ha : RdO w a l) (hb : RdO w b l) (hl : l.length ≤ 1099511627776) :
    Calls Try.prog 33 #[a, b] w fun e w' => e = .returned (.bool true) ∧ Keep w.heap.size [] w w' := by
  obtain ⟨A, c, rfl, hca⟩ := ha
  obtain ⟨B, d, rfl, hcb⟩ := hb
  have hlI : (l.length : Int) ≤ 1099511627776 := by omega
  have HCA := Lib.hid hca
  have HCB := Lib.hid hcb
  clear hca hcb
  go_enter Try.func33, Try.ntmps33
  go_wp2_with fail
  go_loopw [13] (fun v wr => ∃ i : Nat, i ≤ l.length ∧ v = .int .i64 i ∧ Keep w.heap.size [] w wr) (fun v _ => l.length - (intOf v).toNat)
  case atStart => exact ⟨0, Nat.zero_le _, rfl, Keep.refl _ _ _⟩
  case round =>
    obtain ⟨i, hi, rfl, hkr⟩ := hrel
    have HKR := Lib.hid hkr
    by_cases hlt : i < l.length
    · obtain ⟨x, hx⟩ : ∃ x, l[i]? = some x := ⟨_, List.getElem?_eq_getElem hlt⟩
      obtain ⟨g, rfl, hx1, hx2⟩ := HCA.out i x hx
      obtain ⟨g', rfl, hy1, hy2⟩ := HCB.out i x hx
      obtain ⟨x1, x2⟩ := x
      simp only at hx1 hx2 hy1 hy2
      have hx1 : wr.cell? ⟨g, i * 2, none⟩ = some (.int .i64 (x1 : Int)) := (World.cell?_of_block (hkr.block g (World.block_lt_of_cell? w _ hx1) (by simp))).trans hx1
      have hx2 : wr.cell? ⟨g, i * 2 + 1, none⟩ = some (.int .u64 x2) := (World.cell?_of_block (hkr.block g (World.block_lt_of_cell? w _ hx2) (by simp))).trans hx2
      have hy1 : wr.cell? ⟨g', i * 2, none⟩ = some (.int .i64 (x1 : Int)) := (World.cell?_of_block (hkr.block g' (World.block_lt_of_cell? w _ hy1) (by simp))).trans hy1
      have hy2 : wr.cell? ⟨g', i * 2 + 1, none⟩ = some (.int .u64 x2) := (World.cell?_of_block (hkr.block g' (World.block_lt_of_cell? w _ hy2) (by simp))).trans hy2
      clear hkr hx
      go_wp2_with fail
      go_quiet (fail)
      go_wp2
      refine ⟨⟨i + 1, by omega, by go_num, HKR.out.drewN _⟩, by simp [intOf]; omega⟩
    · obtain rfl : i = l.length := by omega
      go_wp2
      go_ret
      exact ⟨rfl, HKR.out⟩

section
variable {W w : World} {S : List Nat} {L : List Res} {a b c e : Res}
theorem Sep.split4 (h : (andR a (andR b (andR c e))).holds w) : Sep w (andR a (andR b (andR c e))).blocks [a, b, c, e] w := by
  obtain ⟨h1, ⟨h2, ⟨h3, h4, h5⟩, h6⟩, h7⟩ := h
  refine ⟨Keep.refl _ _ _, ?_, ?_, ?_⟩
  · intro i r hi
    match i, hi with
    | 0, hi => injection hi with hi; subst hi; exact h1
    | 1, hi => injection hi with hi; subst hi; exact h2
    | 2, hi => injection hi with hi; subst hi; exact h3
    | 3, hi => injection hi with hi; subst hi; exact h4
  · have key : ∀ k, (k ∈ a.blocks → k ∉ b.blocks ∧ k ∉ c.blocks ∧ k ∉ e.blocks) ∧ (k ∈ b.blocks → k ∉ c.blocks ∧ k ∉ e.blocks) ∧ (k ∈ c.blocks → k ∉ e.blocks) := by
      intro k
      refine ⟨fun hk => ?_, fun hk => ?_, fun hk => h5 k hk⟩
      · have := h7 k hk
        simp only [andR, List.mem_append, not_or] at this
        exact ⟨this.1, this.2.1, this.2.2⟩
      · have := h6 k hk
        simp only [andR, List.mem_append, not_or] at this
        exact this
    intro i j r q hij hi hj k hk hkq
    match i, j, hi, hj with
    | 0, 0, _, _ => omega
    | 1, 1, _, _ => omega
    | 2, 2, _, _ => omega
    | 3, 3, _, _ => omega
    | 0, 1, hi, hj => injection hi with hi; injection hj with hj; subst hi hj; exact ((key k).1 hk).1 hkq
    | 0, 2, hi, hj => injection hi with hi; injection hj with hj; subst hi hj; exact ((key k).1 hk).2.1 hkq
    | 0, 3, hi, hj => injection hi with hi; injection hj with hj; subst hi hj; exact ((key k).1 hk).2.2 hkq
    | 1, 2, hi, hj => injection hi with hi; injection hj with hj; subst hi hj; exact ((key k).2.1 hk).1 hkq
    | 1, 3, hi, hj => injection hi with hi; injection hj with hj; subst hi hj; exact ((key k).2.1 hk).2 hkq
    | 2, 3, hi, hj => injection hi with hi; injection hj with hj; subst hi hj; exact (key k).2.2 hk hkq
    | 1, 0, hi, hj => injection hi with hi; injection hj with hj; subst hi hj; exact ((key k).1 hkq).1 hk
    | 2, 0, hi, hj => injection hi with hi; injection hj with hj; subst hi hj; exact ((key k).1 hkq).2.1 hk
    | 3, 0, hi, hj => injection hi with hi; injection hj with hj; subst hi hj; exact ((key k).1 hkq).2.2 hk
    | 2, 1, hi, hj => injection hi with hi; injection hj with hj; subst hi hj; exact ((key k).2.1 hkq).1 hk
    | 3, 1, hi, hj => injection hi with hi; injection hj with hj; subst hi hj; exact ((key k).2.1 hkq).2 hk
    | 3, 2, hi, hj => injection hi with hi; injection hj with hj; subst hi hj; exact (key k).2.2 hkq hk
  · intro i r hi k hk _
    simp only [andR, List.mem_append]
    match i, hi with
    | 0, hi => injection hi with hi; subst hi; exact .inl hk
    | 1, hi => injection hi with hi; subst hi; exact .inr (.inl hk)
    | 2, hi => injection hi with hi; subst hi; exact .inr (.inr (.inl hk))
    | 3, hi => injection hi with hi; subst hi; exact .inr (.inr (.inr hk))
theorem Sep.join4 (h : Sep W S [a, b, c, e] w) : (andR a (andR b (andR c e))).holds w ∧ ∀ k ∈ (andR a (andR b (andR c e))).blocks, k ∈ S ∨ W.heap.size ≤ k := by
  have h1 := h.join (i := 2) (j := 3) (by decide) rfl rfl
  have h2 := h1.join (i := 1) (j := 2) (by decide) rfl rfl
  have h3 := h2.join (i := 0) (j := 1) (by decide) rfl rfl
  refine ⟨h3.all 0 _ rfl, fun k hk => ?_⟩
  rcases Nat.lt_or_ge k W.heap.size with hlt | hge
  · exact .inl (h3.old 0 _ rfl k hk hlt)
  · exact .inr hge
end

/-- What differs, up to n. -/
def dif (t : St) (na : Nat) (ws : List Int) : Nat → List (Nat × Int)
  | 0 => []
  | i + 1 => dif t na ws i ++ if t.nw (na + i) = ws.getD i 0 then [] else [(na + i, ws.getD i 0)]
theorem dif_same {t : St} {na : Nat} {ws : List Int} {i : Nat} (h : t.nw (na + i) = ws.getD i 0) : dif t na ws (i + 1) = dif t na ws i := by simp only [dif]; rw [if_pos h, List.append_nil]
theorem dif_other {t : St} {na : Nat} {ws : List Int} {i : Nat} (h : t.nw (na + i) ≠ ws.getD i 0) : dif t na ws (i + 1) = dif t na ws i ++ [(na + i, ws.getD i 0)] := by simp only [dif]; rw [if_neg h]
theorem dif_len (t : St) (na : Nat) (ws : List Int) : ∀ i, (dif t na ws i).length ≤ i
  | 0 => Nat.le_refl _
  | i + 1 => by
    have := dif_len t na ws i
    by_cases h : t.nw (na + i) = ws.getD i 0
    · rw [dif_same h]; omega
    · rw [dif_other h]; simp; omega
theorem dif_pre (t : St) (na : Nat) (ws : List Int) (i : Nat) : ∀ m, dif t na ws i <+: dif t na ws (i + m)
  | 0 => List.prefix_refl _
  | m + 1 => (dif_pre t na ws i m).trans (by rw [← Nat.add_assoc]; simp only [dif]; exact List.prefix_append _ _)
/-- The device, the row of stores, its variable, the limit. -/
abbrev gotR (d : DevI) (t : St) (gg gs : Nat) (q : Int) (v : Value) (l : List (Nat × Int)) : Res := andR (devR d t) (andR (blkR gg 54 #[v]) (andR (rowN 56 2 v l.length (onesOf l)) (blkR gs 5 #[.int .u8 q])))

set_option maxHeartbeats 4000000 in
theorem got_one (d : DevI) (t : St) (gg gs q z x : Nat) (y : Int) (v : Value) (l : List (Nat × Int)) (w : World) (hh : (gotR d t gg gs (q : Int) v l).holds w) (hz : q % 6 + 1 = z) (hl : l.length ≤ 1000) :
    Calls Try.prog 32 (#[] ++ (#[.int .i64 (x : Int), .int .u64 y] ++ #[.pointer (some ⟨gg, 0, none⟩), .pointer (some ⟨gs, 0, none⟩)])) w fun e w' =>
      ∃ v', e = .returned (.int .i64 (if l.length + 1 = z then 3 else 0)) ∧ Keep w.heap.size (gotR d t gg gs (q : Int) v l).blocks w w' ∧ (gotR d t gg gs (q : Int) v' (l ++ [(x, y)])).holds w' ∧ (∀ k ∈ (gotR d t gg gs (q : Int) v' (l ++ [(x, y)])).blocks, k ∈ (gotR d t gg gs (q : Int) v l).blocks ∨ w.heap.size ≤ k) := by
  have HS := Lib.hid (Sep.split4 hh)
  obtain ⟨bl, hbl⟩ : ∃ bl, (gotR d t gg gs (q : Int) v l).blocks = bl := ⟨_, rfl⟩
  rw [hbl] at HS ⊢
  obtain ⟨A0, c0', hv⟩ := rowN_val (HS.out.rowN 2 rfl)
  subst hv
  obtain ⟨R, hR⟩ : ∃ R : Int, (if l.length + 1 = z then 3 else 0) = R := ⟨_, rfl⟩
  rw [hR]
  have HR := Lib.hid hR
  have hrem : ((q : Int)).tmod 6 = ((q % 6 : Nat) : Int) := by rw [Int.tmod_eq_emod_of_nonneg (by omega)]; simp
  obtain ⟨q6, hq6⟩ : ∃ q6, q % 6 = q6 := ⟨_, rfl⟩
  rw [hq6] at hz hrem
  have hzw : IntKind.i64.wrap (q6 : Int) = (q6 : Int) := IntWalk.i64_in _ (by omega)
  have hzw2 : IntKind.i64.wrap (1 + (q6 : Int)) = (z : Int) := by rw [IntWalk.i64_in _ (by omega)]; omega
  have HQ6 := Lib.hid hz
  clear hh hbl hR hq6 hz
  simp only [List.append_toArray, List.cons_append, List.nil_append]
  have g0 := (HS.out.blk 1 rfl).cell 0
  simp at g0
  go_enter Try.func32, Try.ntmps32
  go_wp2_with (at_builtin; refine of_stop ?_)
  unfold Stop
  replace HS := Lib.hid (HS.out.new 56 #[.int .i64 (x : Int), .int .u64 y])
  generalize w.alloc _ = w1 at *
  obtain ⟨gn, hgn⟩ : ∃ gn, w.heap.size = gn := ⟨_, rfl⟩
  rw [hgn] at HS
  simp only [hgn]
  clear g0
  have hc := (HS.out.blk 4 rfl).cell
  refine wpList_appendN HS.out 2 rfl rfl _ _ 54 rfl rfl (z := .agg #[.int .i64 0, .int .u64 0]) (bytes := 16) (by kernel_rfl) rfl (by decide) (by decide) rfl ⟨gn, 0, none⟩ 1 1 [.int .i64 (x : Int), .int .u64 y] rfl rfl (by decide) (fun i u hu => by rw [addrO, hc]; simpa using hu) (fun u hu => by simp at hu; rcases hu with rfl | rfl <;> rfl) (by omega) ?_
  intro v' we hS
  obtain ⟨A, c, hv'⟩ := rowN_val (hS.rowN 2 rfl)
  subst hv'
  have hS4 := hS.take 4
  replace HS := Lib.hid hS4
  clear hS hc hS4
  have g0 := (HS.out.blk 1 rfl).cell 0
  simp at g0
  have z0 := (HS.out.blk 1 rfl).frozen 0
  have hs2 := HS.out.put (i := 1) rfl 0 (.slice A (l.length + 1) c)
  have HS2 := Lib.hid hs2
  have n1 := HS.out.ne 1 3 rfl rfl (by decide)
  have n2 := n1.symm
  have s0 := (HS.out.blk 3 rfl).cell 0
  simp at s0
  clear hs2
  by_cases hlz : l.length + 1 = z
  · have e1 : ((l.length : Int) + 1 = (z : Int)) = True := by rw [eq_iff_iff, iff_true]; omega
    have e2 : ((l.length : Int) + 1 == (z : Int)) = true := by rw [beq_iff_eq]; omega
    have e3 : decide ((l.length : Int) + 1 = (z : Int)) = true := decide_eq_true (by omega)
    have e4 : decide (l.length + 1 = z) = true := decide_eq_true hlz
    have HLZ := Lib.hid hlz
    clear hlz
    go_wp2
    go_ret
    have hj := Sep.join4 (HS2.out)
    rw [← onesOf_snoc l (x, y)] at hj
    refine ⟨.slice A (l.length + 1) c, ?_, HS2.out.keep, ?_, ?_⟩
    · have hRe : (3 : Int) = R := by rw [← HR.out, if_pos HLZ.out]
      subst hRe
      rfl
    · have := hj.1; simpa [gotR] using this
    · have := hj.2; simpa [gotR] using this
  · have e1 : ((l.length : Int) + 1 = (z : Int)) = False := by rw [eq_iff_iff, iff_false]; omega
    have e2 : ((l.length : Int) + 1 == (z : Int)) = false := by rw [beq_eq_false_iff_ne]; omega
    have e3 : decide ((l.length : Int) + 1 = (z : Int)) = false := decide_eq_false (by omega)
    have e4 : decide (l.length + 1 = z) = false := decide_eq_false hlz
    have HLZ := Lib.hid hlz
    clear hlz
    go_wp2
    go_ret
    have hj := Sep.join4 (HS2.out)
    rw [← onesOf_snoc l (x, y)] at hj
    refine ⟨.slice A (l.length + 1) c, ?_, HS2.out.keep, ?_, ?_⟩
    · have hRe : (0 : Int) = R := by rw [← HR.out, if_neg HLZ.out]
      subst hRe
      rfl
    · have := hj.1; simpa [gotR] using this
    · have := hj.2; simpa [gotR] using this

theorem takes_got {d : DevI} {k : Kfg} {t : St} {ws : List Int} {gg gs q z : Nat} (hk : k.Ok) (hn : ws.length ≤ 1000) (hz : q % 6 + 1 = z) :
    Takes 32 #[] #[.pointer (some ⟨gg, 0, none⟩), .pointer (some ⟨gs, 0, none⟩)] d k.act ws (fun i r => (∃ v, r = gotR d t gg gs (q : Int) v (dif t k.act ws i)) ∧ (dif t k.act ws i).length < z)
      (fun err r => err = 3 ∧ ∃ i, i ≤ ws.length ∧ (dif t k.act ws i).length = z ∧ ∃ v, r = gotR d t gg gs (q : Int) v (dif t k.act ws i)) := by
  refine ⟨enters_of Try.func32 (by kernel_rfl) rfl, ?_⟩
  rintro i hi r ⟨⟨v, rfl⟩, hlz⟩
  refine ⟨t.nw (k.act + i), fun w hd => load_nat d t (k.act + i) w hd.1, fun hx => ?_, fun hx w hd => ?_⟩
  · rw [dif_same hx]; exact ⟨⟨v, rfl⟩, hlz⟩
  · refine (got_one d t gg gs q z (k.act + i) (ws.getD i 0) v (dif t k.act ws i) w hd hz (by have := dif_len t k.act ws i; omega)).mono ?_
    rintro e w' ⟨v', rfl, h1, h2, h3⟩
    rw [← dif_other hx] at h2 h3
    refine ⟨_, _, rfl, h1, h2, h3, ?_⟩
    have hl := congrArg List.length (dif_other hx)
    simp at hl
    by_cases he : (dif t k.act ws i).length + 1 = z
    · rw [if_pos he]
      exact .inr ⟨by decide, rfl, i + 1, by omega, by omega, v', rfl⟩
    · rw [if_neg he]
      exact .inl ⟨rfl, ⟨v', rfl⟩, by omega⟩
end Go.Proofs.Ytaophnicdbmojaa
