/-
  Package space: Alloc by a device's own Store; Fresh; small heads.
-/
import Derived.Test.YtbdomdmnjclpdaaSpace
set_option linter.unusedSimpArgs false
set_option linter.unusedVariables false
set_option maxRecDepth 100000
namespace Go.Proofs.Ytbdomdmnjclpdaa
open Go.RowKit Go.Shelf

theorem results_cell {fn : Func} {p : Tmp} {ty : TypeId} (h : fn.results = #[.cell p ty]) (tmps : Array Value) (P : Program) (w : World) :
    (results fn tmps).run P w = ((asAddr (tmps.getD p undef)).run P w).andThen fun a w₁ => (loadVar ty a).run P w₁ := by
  simp only [results, h]
  simp [Sem.run_bind, Result.andThen]

/-- Words stored, one behind the other. -/
def sto (s : St) (l : List (Nat × Int)) : St := l.foldl (fun t p => t.store p.1 p.2) s
theorem sto_snoc (s : St) (l : List (Nat × Int)) (p : Nat × Int) : sto s (l ++ [p]) = (sto s l).store p.1 p.2 := by simp [sto]
theorem sto_is {s : St} {N : Nat} (h : s.Is N) : ∀ l, (sto s l).Is N := by
  intro l
  induction l generalizing s with
  | nil => exact h
  | cons p l ih => exact ih (h.store p.1 p.2)
theorem sto_lim {s : St} (l : List (Nat × Int)) : (sto s l).l = s.l := by
  induction l generalizing s with
  | nil => rfl
  | cons p l ih => exact (ih (s := s.store p.1 p.2)).trans rfl

theorem stores_dev {d : DevI} {s : St} {N : Nat} {ops : List (Nat × Int)} (hI : s.Is N) (hl : s.l < 0) (hops : ∀ p ∈ ops, p.1 < N) :
    Stores 27 #[.pointer (some ⟨d.b, 0, none⟩)] #[] ops (fun i r => r = devR d (sto s (ops.take i))) (fun _ _ _ => False) := by
  refine ⟨enters_of Try.func27 (by kernel_rfl) rfl, ?_⟩
  rintro i p hp r rfl w hd
  obtain ⟨hil, hget⟩ := List.getElem?_eq_some_iff.1 hp
  have hlt : p.1 < (sto s (ops.take i)).now.length := by rw [(sto_is hI _).now]; exact hops p (List.mem_of_getElem? hp)
  refine (store_free d _ p.1 p.2 w hd (by rw [sto_lim]; exact hl) hlt).mono ?_
  rintro e' w' ⟨rfl, hd', hkk⟩
  refine ⟨0, devR d ((sto s (ops.take i)).store p.1 p.2), rfl, hkk, hd', fun _ h => .inl h, .inl ⟨rfl, ?_⟩⟩
  rw [List.take_add_one, hp]
  simp only [Option.toList]
  rw [sto_snoc]

/-- The device behind an Alloc. -/
def allocS (s : St) (k : Kfg) (u n at_ : Nat) (hv : Int) : St := sto s (allocOps k u n at_ hv)
theorem allocS_is {s : St} {N : Nat} (h : s.Is N) (k : Kfg) (u n at_ : Nat) (hv : Int) : (allocS s k u n at_ hv).Is N := sto_is h _
theorem allocS_lim {s : St} (k : Kfg) (u n at_ : Nat) (hv : Int) : (allocS s k u n at_ hv).l = s.l := sto_lim _
theorem sto_row {s : St} {N at_ : Nat} {hv : Int} (hI : s.Is N) : ∀ m, at_ + m ≤ N → ∀ j, (sto s ((List.range m).map fun i => (at_ + i, if i = 0 then hv else 0))).nw j = if at_ ≤ j ∧ j < at_ + m then (if j = at_ then hv else 0) else s.nw j
  | 0, _, j => by rw [if_neg (by omega)]; rfl
  | m + 1, hm, j => by
    rw [List.range_succ, List.map_append, List.map_singleton, sto_snoc, St.nw_store (sto_is hI _) (show at_ + m < N by omega), sto_row hI m (by omega)]
    by_cases hj : j = at_ + m
    · subst hj
      have c1 : at_ ≤ at_ + m ∧ at_ + m < at_ + (m + 1) := by omega
      simp only [if_pos c1, if_true]
      by_cases h0 : m = 0
      · simp [h0]
      · have h1 : ¬ at_ + m = at_ := by omega
        simp [h0]
    · rw [if_neg hj]
      by_cases hc : at_ ≤ j ∧ j < at_ + m
      · have hc2 : at_ ≤ j ∧ j < at_ + (m + 1) := by omega
        simp only [if_pos hc, if_pos hc2]
      · have hc2 : ¬ (at_ ≤ j ∧ j < at_ + (m + 1)) := by omega
        simp only [if_neg hc, if_neg hc2]
theorem allocS_nw {s : St} {N : Nat} (hI : s.Is N) (k : Kfg) (u n at_ : Nat) (hv : Int) (h1 : k.act + 1 < N) (h2 : at_ + (n + 1) ≤ N) (h3 : k.act + 1 < at_) (j : Nat) :
    (allocS s k u n at_ hv).nw j = if j = k.act + 1 then ((u + (n + 1) : Nat) : Int) else if at_ ≤ j ∧ j < at_ + (n + 1) then (if j = at_ then hv else 0) else s.nw j := by
  have e : allocS s k u n at_ hv = sto (s.store (k.act + 1) ((u + (n + 1) : Nat) : Int)) ((List.range (n + 1)).map fun i => (at_ + i, if i = 0 then hv else 0)) := rfl
  rw [e, sto_row (hI.store _ _) (n + 1) h2, St.nw_store hI h1]
  by_cases hj : j = k.act + 1
  · subst hj
    rw [if_neg (by omega), if_pos rfl, if_pos rfl]
  · rw [if_neg hj, if_neg hj]

theorem alloc_dev (d : DevI) (s : St) (k : Kfg) (n a u at_ : Nat) (b : Int) (w : World) (hk : k.Ok) (hI : s.Is k.words) (hl : s.l < 0) (h : headOk (n : Int) b) (ha : s.nw k.act = (a : Int)) (hu : s.nw (k.act + 1) = (u : Int)) (ha1 : a ≤ 1) (hfit : u + (n + 1) ≤ k.S) (hat : k.from_ a + u = at_) (hd : Dev w d s) :
    Calls Try.prog 44 #[.pointer (some ⟨d.b, 0, none⟩), .agg k.cells, .agg #[.int .i64 (n : Int), .int .i64 b], .func (.func 27) #[.pointer (some ⟨d.b, 0, none⟩)] #[]] w fun e w' => e = .returned (.tuple #[.int .i64 (at_ : Int), .int .i64 0]) ∧ Sep w d.blocks [devR d (allocS s k u n at_ (hw (n : Int) b))] w' := by
  have hfw := Kfg.from_words hk (a := a) (by omega)
  have hfw2 := Kfg.from_words hk (a := a + 1) (by omega)
  have h3 := k.from_step a
  have h4 := (up8_le k.S).1
  have h5 := k.from_le
  refine (alloc_go d s k n a u at_ b _ _ _ (fun i r => r = devR d (sto s ((allocOps k u n at_ (hw (n : Int) b)).take i))) (fun _ _ _ => False) (devR d s) w hk hI.now h ha hu ha1 hfit hat (stores_dev hI hl fun p hp => ?_) rfl hd (fun _ h => h)).mono ?_
  · simp only [allocOps, List.mem_cons, List.mem_map, List.mem_range] at hp
    rcases hp with rfl | ⟨i, hi, rfl⟩
    · show k.act + 1 < k.words
      omega
    · show at_ + i < k.words
      omega
  · rintro e w' ⟨err, r', hS, ⟨_, he, rfl⟩ | ⟨_, _, i, _, hf⟩⟩
    · refine ⟨he, ?_⟩
      rwa [List.take_of_length_le (by simp [allocOps])] at hS
    · exact hf.elim

set_option maxHeartbeats 2000000 in
/-- A small head. -/
theorem make_h (x y : Int) (w : World) (x0 : 0 ≤ x) (x1 : x ≤ 255) (y0 : 0 ≤ y) (y1 : y ≤ 255) :
    Calls Try.prog 45 #[.agg #[.int .u8 x, .int .u8 y]] w fun e w' => e = .returned (.agg #[.int .i64 (y % 9), .int .i64 (x % (y % 9 + 1))]) ∧ Keep w.heap.size [] w w' := by
  obtain ⟨n, hn⟩ : ∃ n, y % 9 = n := ⟨_, rfl⟩
  have hn0 : 0 ≤ n := by omega
  have hn1 : n ≤ 8 := by omega
  have hz : (n + 1 = 0) = False := by simp; omega
  have HS := Lib.hid (Sep.start w [])
  rw [hn]
  go_enter Try.func45, Try.ntmps45
  go_wp2_with fail
  have hb := Blk.new (w.alloc (.cells #[.int .u8 x, .int .u8 y] 61)) 51 #[.int .i64 n, .int .i64 (x % (n + 1))]
  rw [show (w.alloc (.cells #[.int .u8 x, .int .u8 y] 61)).heap.size = w.heap.size + 1 by simp] at hb
  have hk : Keep w.heap.size [] w ((w.alloc (.cells #[.int .u8 x, .int .u8 y] 61)).alloc (.cells #[.int .i64 n, .int .i64 (x % (n + 1))] 51)) := ((Keep.refl _ _ _).alloc (Nat.le_refl _) _).alloc (by simp) _
  generalize (w.alloc _).alloc _ = wz at *
  have hld : (loadVar 51 ⟨w.heap.size + 1, 0, none⟩).run Try.prog wz = .ok (.agg #[.int .i64 n, .int .i64 (x % (n + 1))]) wz :=
    run_loadVar_mid wz (w.heap.size + 1) 0 51 [.int .i64 n, .int .i64 (x % (n + 1))] ((Try.prog.underlying 51).getD (.int .i64)) (fun j v hv => by rw [Nat.zero_add, hb.cell]; simpa using hv) (by kernel_rfl) (by kernel_rfl) (by kernel_rfl)
  refine bodyPost_ret (v := .agg #[.int .i64 n, .int .i64 (x % (n + 1))]) ?_ rfl ⟨rfl, hk⟩
  rw [results_cell rfl]
  simp [asAddr, hld]


/-- A device whose root block says so. -/
structure UseS (t : St) (k : Kfg) (a u : Nat) : Prop where
  is : t.Is k.words
  lim : t.l < 0
  act : t.nw k.act = (a : Int)
  used : t.nw (k.act + 1) = (u : Int)
theorem UseS.alloc {t : St} {k : Kfg} {a u n at_ : Nat} {hv : Int} (h : UseS t k a u) (hk : k.Ok) (ha : a ≤ 1) (hat : k.from_ a + u = at_) (hfit : u + (n + 1) ≤ k.S) : UseS (allocS t k u n at_ hv) k a (u + (n + 1)) := by
  have h1 := Kfg.from_words hk (a := a) (by omega)
  have h2 := Kfg.from_words hk (a := a + 1) (by omega)
  have h3 := k.from_step a
  have h4 := (up8_le k.S).1
  have h5 := k.from_le
  have e := allocS_nw (hv := hv) h.is k u n at_ (by omega) (by omega) (by omega)
  refine ⟨allocS_is h.is _ _ _ _ _, by rw [allocS_lim]; exact h.lim, ?_, by rw [e, if_pos rfl]⟩
  rw [e, if_neg (by omega), if_neg (by omega)]
  exact h.act

end Go.Proofs.Ytbdomdmnjclpdaa
