/-
  Package section, as far as tumuluslaw07.Awake reaches.
-/
import Derived.Test.YtbdomdmnjclpdaaUndoP
import Derived.Test.YtbdomdmnjclpdaaRelS
set_option linter.unusedSimpArgs false
set_option linter.unusedVariables false
set_option maxRecDepth 100000
namespace Go.Proofs.Ytbdomdmnjclpdaa
open Go.RowKit Go.Shelf

/-- A section's cells. -/
abbrev secC (gl : Nat) (d : DevI) (k : Kfg) (op : Bool) (f t : Int) (ms md : Option Nat) : Array Value := #[.pointer (some ⟨gl, 0, none⟩), .pointer (some ⟨d.b, 0, none⟩), .int .i64 (k.L : Int), .int .i64 (k.R : Int), .int .i64 (k.S : Int), .bool op, .int .i64 f, .int .i64 t, .map ms, .map md]

/-- A map of ints, as a thing. -/
def mapR (g : Nat) (m : Int → Option Value) : Res := ⟨[g], fun w => IMap w g .i64 m, fun w h k hk => by simp at hk; subst hk; exact h.lt, fun w w' h e => h.same (e g (by simp))⟩

section
variable (d : DevI) (k : Kfg) (ep : Int) (n : Nat) (w0 : World)
def LogAt (v : Value) (w : World) : Prop := ∃ gl, v = .pointer (some ⟨gl, 0, none⟩) ∧ Blk w gl 148 (logC d k ep n) ∧ w0.heap.size ≤ gl
def SecV (v : Value) (w : World) : Prop := ∃ gl, v = .agg (secC gl d k false 0 0 none none) ∧ Blk w gl 148 (logC d k ep n) ∧ w0.heap.size ≤ gl
def SecAt (v : Value) (w : World) : Prop := ∃ g gl, v = .pointer (some ⟨g, 0, none⟩) ∧ Blk w g 139 (secC gl d k false 0 0 none none) ∧ Blk w gl 148 (logC d k ep n) ∧ w0.heap.size ≤ g ∧ w0.heap.size ≤ gl ∧ g ≠ gl
variable {d k ep n w0}
theorem LogAt.keep {v : Value} {w w' : World} (h : LogAt d k ep n w0 v w) (hk : Keep w.heap.size [] w w') : LogAt d k ep n w0 v w' := by
  obtain ⟨gl, h1, h2, h3⟩ := h
  exact ⟨gl, h1, h2.keep hk h2.lt (by simp), h3⟩
theorem SecV.keep {v : Value} {w w' : World} (h : SecV d k ep n w0 v w) (hk : Keep w.heap.size [] w w') : SecV d k ep n w0 v w' := by
  obtain ⟨gl, h1, h2, h3⟩ := h
  exact ⟨gl, h1, h2.keep hk h2.lt (by simp), h3⟩
theorem SecAt.keep {v : Value} {w w' : World} (h : SecAt d k ep n w0 v w) (hk : Keep w.heap.size [] w w') : SecAt d k ep n w0 v w' := by
  obtain ⟨g, gl, h1, h2, h3, h4⟩ := h
  exact ⟨g, gl, h1, h2.keep hk h2.lt (by simp), h3.keep hk h3.lt (by simp), h4⟩
end

set_option maxHeartbeats 2000000 in
theorem secnew_any (d : DevI) (s : St) (k : Kfg) (ep : Int) (n : Nat) (w : World) (h : Dev w d s) (hk : k.Ok) (he0 : 0 ≤ s.nw 8) (he1 : s.nw 8 ≤ 18446744073709551615) (hl : LogIs s k ep n) :
    Calls Try.prog 77 #[.pointer (some ⟨d.b, 0, none⟩), .agg k.cells] w fun e w' => ∃ g gl, e = .returned (.pointer (some ⟨g, 0, none⟩)) ∧ w.heap.size ≤ g ∧ w.heap.size ≤ gl ∧ g ≠ gl ∧ Blk w' gl 148 (logC d k ep n) ∧ Blk w' g 139 (secC gl d k false 0 0 none none) ∧ Keep w.heap.size [] w w' := by
  have HS := Lib.hid ((Sep.start w []).new 30 k.cells)
  have H := Lib.hid h
  have HK := Lib.hid hk
  have HL := Lib.hid hl
  clear h hk hl
  simp only [Kfg.cells] at HS ⊢
  go_enter Try.func77, Try.ntmps77
  go_wp2_with fail
  generalize w.alloc _ = w2 at *
  generalize w.heap.size = gc at *
  have c0 : ∀ x : Ext w2, x.now.cell? ⟨gc, 0, none⟩ = some (.int .i64 (k.L : Int)) := fun x => x.cell (by simpa using (HS.out.blk 0 rfl).cell 0)
  have c1 : ∀ x : Ext w2, x.now.cell? ⟨gc, 1, none⟩ = some (.int .i64 (k.R : Int)) := fun x => x.cell (by simpa using (HS.out.blk 0 rfl).cell 1)
  have c2 : ∀ x : Ext w2, x.now.cell? ⟨gc, 2, none⟩ = some (.int .i64 (k.S : Int)) := fun x => x.cell (by simpa using (HS.out.blk 0 rfl).cell 2)
  have hws : w.heap.size ≤ w2.heap.size := HS.out.keep.size
  refine wp_region_rel (by kernel_rfl) (by kernel_rfl) (by kernel_rfl) ?_
  simp only [puts, Act.put, List.setIfInBounds_toArray, List.set_cons_succ, List.set_cons_zero, Nat.zero_add, Nat.reduceAdd]
  repeat (apply wpRel_is; (focus (intro u y K hK; simp only [sure, told, lay, Region.binds, List.getElem?_cons_zero, List.getElem?_cons_succ, List.getElem?_nil, if_true, Nat.reduceBEq, cond_true, cond_false]; intros; go_simp; simp only [yUpon]; with_reducible refine hK y (Keep.refl _ _ _))); simp only [List.nil_append, List.cons_append])
  refine wpRel_so (fun v w' => LogAt d k ep n w v w') (fun v w1 w2 h hk => h.keep hk) ?_ ?_
  · intro u y K hK
    simp only [sure, told, lay, Region.binds, List.getElem?_cons_zero, List.getElem?_cons_succ, List.getElem?_nil, if_true, Nat.reduceBEq, cond_true, cond_false]
    intros
    go_simp
    simp only [yUpon]
    refine (open_any d s k ep n _ (H.out.of_new (HS.out.grow y.keep).keep) HK.out he0 he1 HL.out).mono ?_
    rintro e w' ⟨gl, rfl, hgn, hb, hk⟩
    exact hK _ ⟨w', y.keep.join hk y.keep.size (by simp)⟩ hk (⟨gl, rfl, hb, by have := y.keep.size; omega⟩)
  simp only [List.nil_append, List.cons_append]
  repeat (apply wpRel_is; (focus (intro u y K hK; simp only [sure, told, lay, Region.binds, List.getElem?_cons_zero, List.getElem?_cons_succ, List.getElem?_nil, if_true, Nat.reduceBEq, cond_true, cond_false]; intros; go_simp; simp only [yUpon]; with_reducible refine hK y (Keep.refl _ _ _))); simp only [List.nil_append, List.cons_append])
  refine wpRel_so (fun v w' => SecV d k ep n w v w') (fun v w1 w2 h hk => h.keep hk) ?_ ?_
  · intro u y K hK
    simp only [sure, told, lay, Region.binds, List.getElem?_cons_zero, List.getElem?_cons_succ, List.getElem?_nil, if_true, Nat.reduceBEq, cond_true, cond_false]
    rintro ⟨gl, he, hb, hg⟩
    rw [he]
    go_simp
    simp only [yUpon]
    exact hK _ y (Keep.refl _ _ _) ⟨gl, rfl, hb, hg⟩
  simp only [List.nil_append, List.cons_append]
  refine wpRel_so (fun v w' => SecAt d k ep n w v w') (fun v w1 w2 h hk => h.keep hk) ?_ ?_
  · intro u y K hK
    simp only [sure, told, lay, Region.binds, List.getElem?_cons_zero, List.getElem?_cons_succ, List.getElem?_nil, if_true, Nat.reduceBEq, cond_true, cond_false]
    rintro ⟨gl, he, hb, hg⟩
    rw [he]
    go_simp
    simp only [yUpon]
    have hk2 : Keep y.now.heap.size [] y.now (y.now.alloc (.cells (secC gl d k false 0 0 none none) 139)) := (Keep.refl _ _ _).alloc (Nat.le_refl _) _
    have hys := y.keep.size
    have hlt := hb.lt
    refine hK _ ⟨_, y.keep.join hk2 y.keep.size (by simp)⟩ hk2 ⟨_, gl, rfl, Blk.new _ _ _, hb.keep hk2 hb.lt (by simp), by omega, hg, by omega⟩
  simp only [List.nil_append, List.cons_append]
  refine wpRel_so (fun v w' => SecAt d k ep n w v w') (fun v w1 w2 h hk => h.keep hk) ?_ ?_
  · intro u y K hK
    simp only [sure, told, lay, Region.binds, List.getElem?_cons_zero, List.getElem?_cons_succ, List.getElem?_nil, if_true, Nat.reduceBEq, cond_true, cond_false]
    rintro ⟨g, gl, he, hb, hl, h1, h2, h3⟩
    rw [he]
    go_simp
    simp only [yUpon]
    intros
    exact hK _ y (Keep.refl _ _ _) ⟨g, gl, rfl, hb, hl, h1, h2, h3⟩
  simp only [List.nil_append, List.cons_append]
  refine wpRel_nil ?_
  intro u y h
  obtain ⟨g, gl, h7, hb, hl, h1, h2, h3⟩ : SecAt d k ep n w (u 7) y.now := h 7 _ rfl
  have hk := y.keep
  have HY := Lib.hid hk
  clear h hk
  simp only [h7]
  go_wp2
  go_ret
  exact ⟨g, gl, rfl, h1, h2, h3, hl, hb, HS.out.keep.join HY.out (by have := HS.out.keep.size; omega) (by simp)⟩

def mapId : Value → Nat
  | .map (some m) => m
  | _ => 0
def mapV (v : Value) : Res := match v with | .map (some g) => mapR g (fun _ => none) | _ => noR

set_option maxHeartbeats 20000000 in
theorem secbegin_any (d : DevI) (k : Kfg) (gl g : Nat) (w : World) (hb : Blk w g 139 (secC gl d k false 0 0 none none)) :
    Calls Try.prog 78 #[.pointer (some ⟨g, 0, none⟩), .agg #[.int .i64 0, .int .i64 0]] w fun e w' => ∃ ms md, e = .returned (.int .i64 0) ∧ w.heap.size ≤ ms ∧ w.heap.size ≤ md ∧ ms ≠ md ∧ IMap w' ms .i64 (fun _ => none) ∧ IMap w' md .i64 (fun _ => none) ∧ Blk w' g 139 (secC gl d k true 0 0 (some ms) (some md)) ∧ Keep w.heap.size [g] w w' := by
  have c5 := hb.cell 5
  simp at c5
  have f5 := hb.frozen 5
  have f6 := hb.frozen 6
  have f7 := hb.frozen 7
  have f8 := hb.frozen 8
  have f9 := hb.frozen 9
  have hlt := hb.lt
  have HB := Lib.hid hb
  clear hb
  go_enter Try.func78, Try.ntmps78
  go_wp2_with fail
  refine wp_region_st3 (W := w) (S := [g]) (by kernel_rfl) (by kernel_rfl) (by kernel_rfl) (fun D u => [blkR g 139 #[.pointer (some ⟨gl, 0, none⟩), .pointer (some ⟨d.b, 0, none⟩), .int .i64 (k.L : Int), .int .i64 (k.R : Int), .int .i64 (k.S : Int), .bool (D 9), .int .i64 0, .int .i64 0, bif D 15 then u 5 else .map none, bif D 18 then u 6 else .map none], blkR w.heap.size 136 #[.int .i64 0, .int .i64 0], bif D 5 then mapV (u 5) else noR, bif D 6 then mapV (u 6) else noR])
    (fun j v => match j with
      | 0 | 1 | 2 | 3 => v = .pointer (some ⟨g, 0, none⟩)
      | 4 => v = .agg #[.int .i64 0, .int .i64 0]
      | 5 | 6 => v = .map (some (mapId v))
      | 7 | 10 | 13 | 16 => v = .pointer (some ⟨g, 0, none⟩)
      | 8 => v = .pointer (some ⟨g, 5, none⟩)
      | 11 => v = .pointer (some ⟨g, 6, none⟩)
      | 14 => v = .pointer (some ⟨g, 8, none⟩)
      | 17 => v = .pointer (some ⟨g, 9, none⟩)
      | _ => True) ?start ?step ?fin
  case start =>
    intro u
    have h1 := Sep.one (r := blkR g 139 (secC gl d k false 0 0 none none)) HB.out
    have h2 := h1.new 136 #[.int .i64 0, .int .i64 0]
    have h3 := (h2.add (Keep.refl _ _ _) (r := noR) trivial (by simp [noR])).add (Keep.refl _ _ _) (r := noR) trivial (by simp [noR])
    exact h3
  case fin =>
    intro D u w' hall hS
    have d9 := (hall 9 (by simp)).1
    have d15 := (hall 15 (by simp)).1
    have d18 := (hall 18 (by simp)).1
    have d5 := (hall 5 (by simp)).1
    have d6 := (hall 6 (by simp)).1
    have h5 := (hall 5 (by simp)).2
    simp only at h5
    generalize mapId (u 5) = ms at h5
    have h6 := (hall 6 (by simp)).2
    simp only at h6
    generalize mapId (u 6) = md at h6
    clear hall
    have e2 : ∀ k, k ∈ [ms] → k ∈ (bif D 5 then mapV (u 5) else noR).blocks := by simp [d5, h5, mapV, mapR]
    have e3 : ∀ k, k ∈ [md] → k ∈ (bif D 6 then mapV (u 6) else noR).blocks := by simp [d6, h6, mapV, mapR]
    have e0 : g ∈ (blkR g 139 #[.pointer (some ⟨gl, 0, none⟩), .pointer (some ⟨d.b, 0, none⟩), .int .i64 (k.L : Int), .int .i64 (k.R : Int), .int .i64 (k.S : Int), .bool (D 9), .int .i64 0, .int .i64 0, bif D 15 then u 5 else .map none, bif D 18 then u 6 else .map none]).blocks := by simp [blkR]
    have hB : Blk w' g 139 (secC gl d k true 0 0 (some ms) (some md)) := by
      have := hS.blk 0 rfl
      simpa [d9, d15, d18, h5, h6] using this
    have hm1 : IMap w' ms .i64 (fun _ => none) := by
      have := hS.all 2 _ rfl
      simpa [d5, h5, mapV, mapR] using this
    have hm2 : IMap w' md .i64 (fun _ => none) := by
      have := hS.all 3 _ rfl
      simpa [d6, h6, mapV, mapR] using this
    have hne : ms ≠ md := by
      rintro rfl
      exact hS.apart 2 3 _ _ (by simp) rfl rfl ms (e2 _ (by simp)) (e3 _ (by simp))
    have n2 : w.heap.size ≤ ms := by
      refine Nat.le_of_not_lt fun hlt2 => ?_
      have := hS.old 2 _ rfl ms (e2 _ (by simp)) hlt2
      simp at this
      subst this
      exact hS.apart 0 2 _ _ (by simp) rfl rfl ms e0 (e2 _ (by simp))
    have n3 : w.heap.size ≤ md := by
      refine Nat.le_of_not_lt fun hlt2 => ?_
      have := hS.old 3 _ rfl md (e3 _ (by simp)) hlt2
      simp at this
      subst this
      exact hS.apart 0 3 _ _ (by simp) rfl rfl md e0 (e3 _ (by simp))
    have hk := hS.keep
    clear hS
    simp only [puts, Act.put, List.setIfInBounds_toArray, List.set_cons_succ, List.set_cons_zero, Nat.zero_add, Nat.reduceAdd]
    go_wp2
    go_ret
    exact ⟨ms, md, rfl, n2, n3, hne, hm1, hm2, hB, hk⟩
  case step =>
    refine ⟨?_, ?_, ?_, ?_, ?_, ?_, ?_, ?_, ?_, ?_, ?_, ?_, ?_, ?_, ?_, ?_, ?_, ?_, ?_, trivial⟩
    · intro D u w' K hD hF hl hS hK
      simp only [puts, Act.put, List.setIfInBounds_toArray, List.set_cons_succ, List.set_cons_zero, Nat.zero_add, Nat.reduceAdd]
      go_simp
      simp only [yUpon]
      exact hK _ _ rfl hS
    · intro D u w' K hD hF hl hS hK
      simp only [puts, Act.put, List.setIfInBounds_toArray, List.set_cons_succ, List.set_cons_zero, Nat.zero_add, Nat.reduceAdd]
      go_simp
      simp only [yUpon]
      exact hK _ _ rfl hS
    · intro D u w' K hD hF hl hS hK
      simp only [puts, Act.put, List.setIfInBounds_toArray, List.set_cons_succ, List.set_cons_zero, Nat.zero_add, Nat.reduceAdd]
      go_simp
      simp only [yUpon]
      exact hK _ _ rfl hS
    · intro D u w' K hD hF hl hS hK
      simp only [puts, Act.put, List.setIfInBounds_toArray, List.set_cons_succ, List.set_cons_zero, Nat.zero_add, Nat.reduceAdd]
      go_simp
      simp only [yUpon]
      exact hK _ _ rfl hS
    · intro D u w' K hD hF hl hS hK
      simp only [puts, Act.put, List.setIfInBounds_toArray, List.set_cons_succ, List.set_cons_zero, Nat.zero_add, Nat.reduceAdd]
      have x0 := (hS.blk 1 rfl).cell 0
      have x1 := (hS.blk 1 rfl).cell 1
      simp at x0 x1
      go_simp
      simp only [yUpon]
      exact hK _ _ rfl hS
    · intro D u w' K hD hF hl hS hK
      simp only [puts, Act.put, List.setIfInBounds_toArray, List.set_cons_succ, List.set_cons_zero, Nat.zero_add, Nat.reduceAdd]
      have hmm := @run_makeMap Try.prog
      go_simp
      simp only [yUpon]
      have hlate := hl 15 (by kernel_rfl)
      have hs2 := hS.step (i := 2) (r := noR) (by simp [hD]) (w' := w'.alloc (.map #[] 0)) ((Keep.refl _ _ _).alloc (Nat.le_refl _) _) (r' := mapR w'.heap.size (fun _ => none)) (IMap.new _ _) (by simp [mapR])
      refine hK _ _ rfl ?_
      simpa [fset, hD, hlate, mapV] using hs2
    · intro D u w' K hD hF hl hS hK
      simp only [puts, Act.put, List.setIfInBounds_toArray, List.set_cons_succ, List.set_cons_zero, Nat.zero_add, Nat.reduceAdd]
      have hmm := @run_makeMap Try.prog
      go_simp
      simp only [yUpon]
      have hlate := hl 18 (by kernel_rfl)
      have hs2 := hS.step (i := 3) (r := noR) (by simp [hD]) (w' := w'.alloc (.map #[] 0)) ((Keep.refl _ _ _).alloc (Nat.le_refl _) _) (r' := mapR w'.heap.size (fun _ => none)) (IMap.new _ _) (by simp [mapR])
      refine hK _ _ rfl ?_
      simpa [fset, hD, hlate, mapV] using hs2
    · intro D u w' K hD hF hl hS hK
      have h0 := (hF 0 (by kernel_rfl)).2
      simp only at h0
      simp only [puts, Act.put, List.setIfInBounds_toArray, List.set_cons_succ, List.set_cons_zero, Nat.zero_add, Nat.reduceAdd]
      simp only [h0]
      go_simp
      simp only [yUpon]
      exact hK _ _ rfl hS
    · intro D u w' K hD hF hl hS hK
      have h7 := (hF 7 (by kernel_rfl)).2
      simp only at h7
      simp only [puts, Act.put, List.setIfInBounds_toArray, List.set_cons_succ, List.set_cons_zero, Nat.zero_add, Nat.reduceAdd]
      simp only [h7]
      go_simp
      simp only [yUpon]
      exact hK _ _ rfl hS
    · intro D u w' K hD hF hl hS hK
      have h8 := (hF 8 (by kernel_rfl)).2
      simp only at h8
      simp only [puts, Act.put, List.setIfInBounds_toArray, List.set_cons_succ, List.set_cons_zero, Nat.zero_add, Nat.reduceAdd]
      simp only [h8]
      have x5 := (hS.blk 0 rfl).cell 5
      have z5 := (hS.blk 0 rfl).frozen 5
      simp at x5
      go_simp
      simp only [yUpon]
      refine hK _ _ trivial ?_
      have hs2 := hS.put (i := 0) rfl 5 (.bool true)
      simpa [fset, hD] using hs2
    · intro D u w' K hD hF hl hS hK
      have h1 := (hF 1 (by kernel_rfl)).2
      simp only at h1
      simp only [puts, Act.put, List.setIfInBounds_toArray, List.set_cons_succ, List.set_cons_zero, Nat.zero_add, Nat.reduceAdd]
      simp only [h1]
      go_simp
      simp only [yUpon]
      exact hK _ _ rfl hS
    · intro D u w' K hD hF hl hS hK
      have h10 := (hF 10 (by kernel_rfl)).2
      simp only at h10
      simp only [puts, Act.put, List.setIfInBounds_toArray, List.set_cons_succ, List.set_cons_zero, Nat.zero_add, Nat.reduceAdd]
      simp only [h10]
      go_simp
      simp only [yUpon]
      exact hK _ _ rfl hS
    · intro D u w' K hD hF hl hS hK
      have h11 := (hF 11 (by kernel_rfl)).2
      simp only at h11
      have h4 := (hF 4 (by kernel_rfl)).2
      simp only at h4
      simp only [puts, Act.put, List.setIfInBounds_toArray, List.set_cons_succ, List.set_cons_zero, Nat.zero_add, Nat.reduceAdd]
      simp only [h11, h4]
      have x6 := (hS.blk 0 rfl).cell 6
      have x7 := (hS.blk 0 rfl).cell 7
      have z6 := (hS.blk 0 rfl).frozen 6
      have z7 := (hS.blk 0 rfl).frozen 7
      simp at x6 x7
      go_simp
      simp only [yUpon]
      refine hK _ _ trivial ?_
      have hs2 := (hS.put (i := 0) rfl 6 (.int .i64 0)).put (i := 0) rfl 7 (.int .i64 0)
      simpa [fset, hD] using hs2
    · intro D u w' K hD hF hl hS hK
      have h2 := (hF 2 (by kernel_rfl)).2
      simp only at h2
      simp only [puts, Act.put, List.setIfInBounds_toArray, List.set_cons_succ, List.set_cons_zero, Nat.zero_add, Nat.reduceAdd]
      simp only [h2]
      go_simp
      simp only [yUpon]
      exact hK _ _ rfl hS
    · intro D u w' K hD hF hl hS hK
      have h13 := (hF 13 (by kernel_rfl)).2
      simp only at h13
      simp only [puts, Act.put, List.setIfInBounds_toArray, List.set_cons_succ, List.set_cons_zero, Nat.zero_add, Nat.reduceAdd]
      simp only [h13]
      go_simp
      simp only [yUpon]
      exact hK _ _ rfl hS
    · intro D u w' K hD hF hl hS hK
      have h14 := (hF 14 (by kernel_rfl)).2
      simp only at h14
      have h5 := (hF 5 (by kernel_rfl)).2
      simp only at h5
      generalize mapId (u 5) = m5 at h5
      have d5 := (hF 5 (by kernel_rfl)).1
      simp only [puts, Act.put, List.setIfInBounds_toArray, List.set_cons_succ, List.set_cons_zero, Nat.zero_add, Nat.reduceAdd]
      simp only [h14, h5]
      have xx := (hS.blk 0 rfl).cell 8
      have zz := (hS.blk 0 rfl).frozen 8
      simp [hD] at xx
      go_simp
      simp only [yUpon]
      refine hK _ _ trivial ?_
      have hs2 := hS.put (i := 0) rfl 8 (.map (some m5))
      simpa [fset, hD, h5] using hs2
    · intro D u w' K hD hF hl hS hK
      have h3 := (hF 3 (by kernel_rfl)).2
      simp only at h3
      simp only [puts, Act.put, List.setIfInBounds_toArray, List.set_cons_succ, List.set_cons_zero, Nat.zero_add, Nat.reduceAdd]
      simp only [h3]
      go_simp
      simp only [yUpon]
      exact hK _ _ rfl hS
    · intro D u w' K hD hF hl hS hK
      have h16 := (hF 16 (by kernel_rfl)).2
      simp only at h16
      simp only [puts, Act.put, List.setIfInBounds_toArray, List.set_cons_succ, List.set_cons_zero, Nat.zero_add, Nat.reduceAdd]
      simp only [h16]
      go_simp
      simp only [yUpon]
      exact hK _ _ rfl hS
    · intro D u w' K hD hF hl hS hK
      have h17 := (hF 17 (by kernel_rfl)).2
      simp only at h17
      have h6 := (hF 6 (by kernel_rfl)).2
      simp only at h6
      generalize mapId (u 6) = m6 at h6
      have d6 := (hF 6 (by kernel_rfl)).1
      simp only [puts, Act.put, List.setIfInBounds_toArray, List.set_cons_succ, List.set_cons_zero, Nat.zero_add, Nat.reduceAdd]
      simp only [h17, h6]
      have xx := (hS.blk 0 rfl).cell 9
      have zz := (hS.blk 0 rfl).frozen 9
      simp [hD] at xx
      go_simp
      simp only [yUpon]
      refine hK _ _ trivial ?_
      have hs2 := hS.put (i := 0) rfl 9 (.map (some m6))
      simpa [fset, hD, h6] using hs2

theorem u_seen : Try.prog.underlying 137 = some (.map 3 111) := by kernel_rfl
theorem zero_unit (w : World) : (zeroValue 111).run Try.prog w = .ok (.agg #[]) w := by kernel_rfl

set_option maxHeartbeats 4000000 in
/-- Store: a word that has no record yet, and isn't fresh. -/
theorem secstore_any (d : DevI) (s : St) (k : Kfg) (n i : Nat) (v : Int) (gl g ms md : Nat) (r0 : Res) (W : World) (S : List Nat) (w : World) (hS : Sep W S [r0, devR d s, blkR gl 148 (logC d k 1 n), blkR g 139 (secC gl d k true 0 0 (some ms) (some md)), mapR ms (fun _ => none), mapR md (fun _ => none)] w)
    (hk : k.Ok) (hl : s.l < 0) (hI : s.Is k.words) (hn : n < k.L) (hi : k.act ≤ i ∧ i < k.words) :
    Calls Try.prog 79 #[.pointer (some ⟨g, 0, none⟩), .int .i64 i, .int .u64 v] w fun e w' => e = .returned (.int .i64 0) ∧ ∃ m m', Sep W S [r0, devR d ((s.run (appOps 1 n i (s.nw i))).store i v), blkR gl 148 (logC d k 1 (n + 1)), blkR g 139 (secC gl d k true 0 0 (some ms) (some md)), mapR ms m, mapR md m'] w' := by
  have HS := Lib.hid hS
  have HK := Lib.hid hk
  have HL := Lib.hid hl
  have HI := Lib.hid hI
  have HN := Lib.hid hn
  have HA := Lib.hid hi
  have e1 : ((i : Int) < (k.act : Int)) = False := by simp; omega
  have e2 : ((i : Int) ≥ (k.words : Int)) = False := by simp; omega
  have e3 : ((i : Int) < 0) = False := by simp
  have e4 : ((i : Int) ≥ 0) = True := by simp
  clear hS hk hl hI hn hi
  go_enter Try.func79, Try.ntmps79
  have c2 := (HS.out.blk 3 rfl).cell 2
  simp at c2
  have c3 := (HS.out.blk 3 rfl).cell 3
  simp at c3
  have c4 := (HS.out.blk 3 rfl).cell 4
  simp at c4
  have c5 := (HS.out.blk 3 rfl).cell 5
  simp at c5
  go_wp2_with fail
  refine (kactive k _ HK.out).mono ?_
  rintro e w1 ⟨rfl, hk⟩
  replace HS := Lib.hid (HS.out.grow hk)
  clear hk
  clear c2 c3 c4 c5
  have c1 := (HS.out.blk 3 rfl).cell 1
  simp at c1
  go_wp2_with fail
  refine (len_any d s _ (HS.out.dev 1 rfl)).mono ?_
  rintro e w' ⟨rfl, rfl⟩
  rw [HI.out.now]
  clear c1
  have c0 := (HS.out.blk 3 rfl).cell 0
  simp at c0
  have c1 := (HS.out.blk 3 rfl).cell 1
  simp at c1
  have c5 := (HS.out.blk 3 rfl).cell 5
  simp at c5
  have c6 := (HS.out.blk 3 rfl).cell 6
  simp at c6
  have c7 := (HS.out.blk 3 rfl).cell 7
  simp at c7
  have c8 := (HS.out.blk 3 rfl).cell 8
  simp at c8
  have hlt := (HS.out.blk 3 rfl).lt
  have hlk := lookup_ok (P := Try.prog) (w := w1) (HS.out.all 4 _ rfl : IMap w1 ms .i64 (fun _ => none)) u_seen underlying_int (i : Int) (zero_unit w1)
  simp only [Option.getD_none, Option.isSome_none] at hlk
  go_wp2_with fail
  clear c0 c1 c5 c6 c7 c8
  clear hlk hlt
  replace HS := Lib.hid (HS.out.alloc (.cells #[] 111))
  generalize w1.alloc _ = w2 at *
  have HGD : Hid (gl ∉ d.blocks) := Lib.hid (HS.out.apart 2 1 _ _ (by decide) rfl rfl gl (by simp [blkR]))
  have hx : (s.store (16 + 4 * n + 1) (i : Int)).nw i = s.nw i := by
    obtain ⟨a1, a2⟩ := k.act_le
    have hw := (Kfg.words_le HK.out).1
    have := HN.out
    have := HA.out
    rw [St.nw_store HI.out (by omega), if_neg (by omega)]
  refine (append_any d s k 1 _ n i gl _ (HS.out.dev 1 rfl) (HS.out.blk 2 rfl) HGD.out HK.out HI.out.now (by decide) (by decide) HN.out HA.out.2 hx).mono ?_
  rintro e w3 hp
  obtain ⟨rfl, hd, hb, hk⟩ := hp.free HL.out
  replace HS := Lib.hid (HS.out.step2 (i := 1) (j := 2) (by decide) rfl rfl hk (r' := devR d (s.run (appOps 1 n i (s.nw i)))) (q' := blkR gl 148 (logC d k 1 (n + 1))) hd hb (fun _ h => h) (fun _ h => h))
  clear hp hd hb hk hx
  have c1 := (HS.out.blk 3 rfl).cell 1
  simp at c1
  have c8 := (HS.out.blk 3 rfl).cell 8
  simp at c8
  obtain ⟨w4, hup, hm4, hk4, _⟩ := update_keep (P := Try.prog) (w := w3) (HS.out.all 4 _ rfl : IMap w3 ms .i64 (fun _ => none)) u_seen underlying_int (i : Int) (.agg #[])
  replace HS := Lib.hid (HS.out.step (i := 4) rfl hk4 (r' := mapR ms (mset (fun _ => none) (i : Int) (.agg #[]))) hm4 (fun _ h => .inl h))
  clear hm4 hk4
  have c1' := (HS.out.blk 3 rfl).cell 1
  have c9' := (HS.out.blk 3 rfl).cell 9
  simp at c1' c9'
  go_wp2_with fail
  refine (store_free d _ i v _ (HS.out.dev 1 rfl) (by rw [St.run_l]; exact HL.out) (by rw [(HI.out.run _).now]; exact HA.out.2)).mono ?_
  rintro e w5 ⟨rfl, hd, hk⟩
  replace HS := Lib.hid (HS.out.did (i := 1) rfl hd hk)
  clear hd hk c1' c9' c1 c8 hup
  have c9 := (HS.out.blk 3 rfl).cell 9
  simp at c9
  obtain ⟨q, hq⟩ : ∃ q : Int, wrap64 ((i : Int) / 8) = q := ⟨_, rfl⟩
  obtain ⟨w6, hup, hm6, hk6, _⟩ := update_keep (P := Try.prog) (w := w5) (HS.out.all 5 _ rfl : IMap w5 md .i64 (fun _ => none)) u_seen underlying_int q (.agg #[])
  replace HS := Lib.hid (HS.out.step (i := 5) rfl hk6 (r' := mapR md (mset (fun _ => none) q (.agg #[]))) hm6 (fun _ h => .inl h))
  clear hm6 hk6
  go_wp2
  go_ret
  exact ⟨rfl, _, _, HS.out⟩

set_option maxHeartbeats 2000000 in
/-- Abort, of a section that is open. -/
theorem secabort_any (d : DevI) (s : St) (k : Kfg) (n : Nat) (p : Nat → Nat) (v : Nat → Int) (gl g : Nat) (ms md : Option Nat) (r0 : Res) (W : World) (S : List Nat) (w : World) (hS : Sep W S [r0, devR d s, blkR gl 148 (logC d k 1 n), blkR g 139 (secC gl d k true 0 0 ms md)] w)
    (hk : k.Ok) (hl : s.l < 0) (hI : s.Is k.words) (hn : n ≤ k.L) (hp : ∀ i, i < n → k.act ≤ p i ∧ p i < k.words ∧ s.nw (16 + 4 * i + 1) = p i ∧ s.nw (16 + 4 * i + 2) = v i) :
    Calls Try.prog 80 #[.pointer (some ⟨g, 0, none⟩)] w fun e w' => e = .returned (.int .i64 0) ∧ Sep W S [r0, devR d (s.run (undoOps 1 p v n)), blkR gl 148 (logC d k (undoEp n) 0), blkR g 139 (secC gl d k false 0 0 ms md)] w' := by
  have HS := Lib.hid hS
  have HK := Lib.hid hk
  have HL := Lib.hid hl
  have HI := Lib.hid hI
  have HN := Lib.hid hn
  have HP := Lib.hid hp
  clear hS hk hl hI hn hp
  go_enter Try.func80, Try.ntmps80
  have c0 := (HS.out.blk 3 rfl).cell 0
  simp at c0
  have c5 := (HS.out.blk 3 rfl).cell 5
  simp at c5
  have HGD : Hid (gl ∉ d.blocks) := Lib.hid (HS.out.apart 2 1 _ _ (by decide) rfl rfl gl (by simp [blkR]))
  go_wp2_with fail
  refine (undo_any d s k 1 n gl p v _ (HS.out.dev 1 rfl) (HS.out.blk 2 rfl) HGD.out HK.out HI.out (by decide) (by decide) HN.out HP.out).mono ?_
  rintro e w3 hp
  obtain ⟨rfl, hd, hb, hk⟩ := hp.free HL.out
  rw [undo_cells] at hb
  replace HS := Lib.hid (HS.out.step2 (i := 1) (j := 2) (by decide) rfl rfl hk (r' := devR d (s.run (undoOps 1 p v n))) (q' := blkR gl 148 (logC d k (undoEp n) 0)) hd hb (fun _ h => h) (fun _ h => h))
  clear hp hd hb hk c0 c5
  have c5 := (HS.out.blk 3 rfl).cell 5
  simp at c5
  have z5 := (HS.out.blk 3 rfl).frozen 5
  go_wp2
  go_ret
  exact ⟨rfl, by simpa using HS.out.put (i := 3) rfl 5 (.bool false)⟩

set_option maxHeartbeats 400000 in
theorem secopen_any (d : DevI) (k : Kfg) (op : Bool) (f t : Int) (ms md : Option Nat) (gl g : Nat) (w : World) (hb : Blk w g 139 (secC gl d k op f t ms md)) :
    Calls Try.prog 81 #[.pointer (some ⟨g, 0, none⟩)] w fun e w' => e = .returned (.bool op) ∧ w = w' := by
  have c5 := hb.cell 5
  simp at c5
  clear hb
  go_enter Try.func81, Try.ntmps81
  go_wp2
  go_ret
  trivial
end Go.Proofs.Ytbdomdmnjclpdaa
