/-
  Package object: field, Read, Ref, Write, Point.
-/
import Derived.Test.YtbdomdmnjclpdaaObj
set_option linter.unusedSimpArgs false
set_option linter.unusedVariables false
set_option maxRecDepth 100000
namespace Go.Proofs.Ytbdomdmnjclpdaa
open Go.RowKit Go.Shelf

/-- Why there is no such field. -/
def fieldErr (m b i : Int) (ref : Bool) : Int := if i < 0 ∨ m ≤ i then 1 else if decide (i < b) = ref then 0 else 5

set_option maxHeartbeats 4000000 in
theorem field_no (m b at_ i err : Int) (ref : Bool) (w : World) (he : fieldErr m b i ref = err) (h0 : err ≠ 0) :
    Calls Try.prog 46 #[obV m b at_, .int .i64 i, .bool ref] w fun e w' => e = .returned (.tuple #[.int .i64 0, .int .i64 err]) ∧ Keep w.heap.size [] w w' := by
  have HS := Lib.hid ((Sep.start w []).new 53 #[.int .i64 m, .int .i64 b, .int .i64 at_])
  go_enter Try.func46, Try.ntmps46
  go_upto_region 1 with fail
  generalize w.alloc _ = w2 at *
  generalize w.heap.size = go at *
  have c0 := (HS.out.blk 0 rfl).cell 0
  simp at c0
  have c1 := (HS.out.blk 0 rfl).cell 1
  simp at c1
  unfold fieldErr at he
  by_cases x1 : i < 0
  · rw [if_pos (.inl x1)] at he
    subst he
    clear h0
    go_wp2
    go_ret2
    exact ⟨rfl, HS.out.keep⟩
  by_cases x2 : m ≤ i
  · rw [if_pos (.inr x2)] at he
    subst he
    clear h0
    go_wp2
    go_ret2
    exact ⟨rfl, HS.out.keep⟩
  rw [if_neg (by omega)] at he
  by_cases x3 : i < b
  · have x4 : decide (i < b) = true := by simpa using x3
    rw [x4] at he
    cases ref
    · rw [if_neg (by simp)] at he
      subst he
      clear h0
      go_wp2
      go_ret2
      exact ⟨rfl, HS.out.keep⟩
    · rw [if_pos rfl] at he
      exact absurd he.symm h0
  · have x4 : decide (i < b) = false := by simpa using x3
    rw [x4] at he
    cases ref
    · rw [if_pos rfl] at he
      exact absurd he.symm h0
    · rw [if_neg (by simp)] at he
      subst he
      clear h0
      go_wp2
      go_ret2
      exact ⟨rfl, HS.out.keep⟩

set_option maxHeartbeats 4000000 in
theorem field_ok (m b at_ i q : Int) (ref : Bool) (w : World) (he : fieldErr m b i ref = 0) (hq : at_ + 1 + i = q) (ha : 0 ≤ at_ ∧ at_ ≤ 1000000) (hm : m ≤ 1000) :
    Calls Try.prog 46 #[obV m b at_, .int .i64 i, .bool ref] w fun e w' => e = .returned (.tuple #[.int .i64 q, .int .i64 0]) ∧ Keep w.heap.size [] w w' := by
  have HS := Lib.hid ((Sep.start w []).new 53 #[.int .i64 m, .int .i64 b, .int .i64 at_])
  obtain ⟨ha0, ha1⟩ := ha
  unfold fieldErr at he
  split at he
  · cases he
  rename_i hn
  split at he
  rotate_left
  · cases he
  rename_i hr
  clear he
  have x1 : ¬ i < 0 := by omega
  have x2 : ¬ m ≤ i := by omega
  clear hn
  have y1 : IntKind.i64.wrap (at_ + 1) = at_ + 1 := IntWalk.i64_in _ (by omega)
  have y2 : IntKind.i64.wrap (at_ + 1 + i) = q := by rw [IntWalk.i64_in _ (by omega)]; exact hq
  clear hq
  go_enter Try.func46, Try.ntmps46
  go_upto_region 1 with fail
  generalize w.alloc _ = w2 at *
  generalize w.heap.size = go at *
  have c0 := (HS.out.blk 0 rfl).cell 0
  simp at c0
  have c1 := (HS.out.blk 0 rfl).cell 1
  simp at c1
  have c2 := (HS.out.blk 0 rfl).cell 2
  simp at c2
  cases ref
  · have x3 : ¬ i < b := by simpa using hr
    clear hr
    go_wp2
    go_ret2
    exact ⟨rfl, HS.out.keep⟩
  · have x3 : i < b := by simpa using hr
    clear hr
    go_wp2
    go_ret2
    exact ⟨rfl, HS.out.keep⟩

set_option maxHeartbeats 4000000 in
theorem oread_no (m b at_ i err : Int) (dv : Value) (w : World) (he : fieldErr m b i false = err) (h0 : err ≠ 0) :
    Calls Try.prog 71 #[obV m b at_, dv, .int .i64 i] w fun e w' => e = .returned (.tuple #[.int .u64 0, .int .i64 err]) ∧ Keep w.heap.size [] w w' := by
  have HS := Lib.hid ((Sep.start w []).new 53 #[.int .i64 m, .int .i64 b, .int .i64 at_])
  have HF := Lib.hid (fun w => field_no m b at_ i err false w he h0)
  have e1 : decide (err = 0) = false := by simpa using h0
  have e2 : (err == 0) = false := by simpa using h0
  have e3 : (err != 0) = true := by simpa using h0
  clear he h0
  go_enter Try.func71, Try.ntmps71
  go_upto_region 1 with fail
  generalize w.alloc _ = w2 at *
  generalize w.heap.size = go at *
  have c0 := (HS.out.blk 0 rfl).cell 0
  simp at c0
  have c1 := (HS.out.blk 0 rfl).cell 1
  simp at c1
  have c2 := (HS.out.blk 0 rfl).cell 2
  simp at c2
  go_wp2_with fail
  refine (HF.out _).mono ?_
  rintro e w3 ⟨rfl, hkk⟩
  replace HS := Lib.hid (HS.out.grow hkk)
  clear hkk
  go_wp2
  go_ret2
  exact ⟨rfl, HS.out.keep⟩

set_option maxHeartbeats 4000000 in
theorem oread_ok (d : DevI) (t : St) (m b at_ i x : Int) (q : Nat) (w : World) (hd : Dev w d t) (he : fieldErr m b i false = 0) (hq : at_ + 1 + i = (q : Int)) (ha : 0 ≤ at_ ∧ at_ ≤ 1000000) (hm : m ≤ 1000) (hx : t.nw q = x) :
    Calls Try.prog 71 #[obV m b at_, .pointer (some ⟨d.b, 0, none⟩), .int .i64 i] w fun e w' => e = .returned (.tuple #[.int .u64 x, .int .i64 0]) ∧ Keep w.heap.size [] w w' := by
  have HS := Lib.hid ((Sep.start w []).new 53 #[.int .i64 m, .int .i64 b, .int .i64 at_])
  have HF := Lib.hid (fun w => field_ok m b at_ i q false w he hq ha hm)
  have HD := Lib.hid hd
  have HX := Lib.hid hx
  clear he hq ha hm hd hx
  go_enter Try.func71, Try.ntmps71
  go_upto_region 1 with fail
  generalize w.alloc _ = w2 at *
  generalize w.heap.size = go at *
  have c0 := (HS.out.blk 0 rfl).cell 0
  simp at c0
  have c1 := (HS.out.blk 0 rfl).cell 1
  simp at c1
  have c2 := (HS.out.blk 0 rfl).cell 2
  simp at c2
  go_wp2_with fail
  refine (HF.out _).mono ?_
  rintro e w3 ⟨rfl, hkk⟩
  replace HS := Lib.hid (HS.out.grow hkk)
  clear hkk c0 c1 c2
  go_wp2_with fail
  refine (load_is d t q x _ (HD.out.of_new HS.out.keep) HX.out).mono ?_
  rintro e w4 ⟨rfl, rfl⟩
  go_wp2
  go_ret2
  exact ⟨rfl, HS.out.keep⟩

set_option maxHeartbeats 4000000 in
theorem owrite_no (m b at_ i v err : Int) (F : Value) (w : World) (he : fieldErr m b i false = err) (h0 : err ≠ 0) :
    Calls Try.prog 72 #[obV m b at_, .int .i64 i, .int .u64 v, F] w fun e w' => e = .returned (.int .i64 err) ∧ Keep w.heap.size [] w w' := by
  have HS := Lib.hid ((Sep.start w []).new 53 #[.int .i64 m, .int .i64 b, .int .i64 at_])
  have HF := Lib.hid (fun w => field_no m b at_ i err false w he h0)
  have e1 : decide (err = 0) = false := by simpa using h0
  have e2 : (err == 0) = false := by simpa using h0
  have e3 : (err != 0) = true := by simpa using h0
  clear he h0
  go_enter Try.func72, Try.ntmps72
  go_upto_region 1 with fail
  generalize w.alloc _ = w2 at *
  generalize w.heap.size = go at *
  have c0 := (HS.out.blk 0 rfl).cell 0
  simp at c0
  have c1 := (HS.out.blk 0 rfl).cell 1
  simp at c1
  have c2 := (HS.out.blk 0 rfl).cell 2
  simp at c2
  go_wp2_with fail
  refine (HF.out _).mono ?_
  rintro e w3 ⟨rfl, hkk⟩
  replace HS := Lib.hid (HS.out.grow hkk)
  clear hkk
  go_wp2
  go_ret
  exact ⟨rfl, HS.out.keep⟩

set_option maxHeartbeats 4000000 in
theorem owrite_gen (G : FuncId) (bs cap : Array Value) (m b at_ i v q err : Int) (R : World → World → Prop) (w : World) (hG : Enters Try.prog G) (he : fieldErr m b i false = 0) (hq : at_ + 1 + i = q) (ha : 0 ≤ at_ ∧ at_ ≤ 1000000) (hm : m ≤ 1000) (hc : ∀ x : Ext w, Calls Try.prog G (bs ++ (#[.int .i64 q, .int .u64 v] ++ cap)) x.now fun e w' => e = .returned (.int .i64 err) ∧ R x.now w') :
    Calls Try.prog 72 #[obV m b at_, .int .i64 i, .int .u64 v, .func (.func G) bs cap] w fun e w' => e = .returned (.int .i64 err) ∧ ∃ x : Ext w, R x.now w' := by
  have HS := Lib.hid ((Sep.start w []).new 53 #[.int .i64 m, .int .i64 b, .int .i64 at_])
  have HF := Lib.hid (fun w => field_ok m b at_ i q false w he hq ha hm)
  have HC := Lib.hid hc
  have HG := Lib.hid hG
  clear he hq ha hm hc hG
  go_enter Try.func72, Try.ntmps72
  go_upto_region 1 with fail
  generalize w.alloc _ = w2 at *
  generalize w.heap.size = go at *
  have c0 := (HS.out.blk 0 rfl).cell 0
  simp at c0
  have c1 := (HS.out.blk 0 rfl).cell 1
  simp at c1
  have c2 := (HS.out.blk 0 rfl).cell 2
  simp at c2
  go_wp2_with fail
  refine (HF.out _).mono ?_
  rintro e w3 ⟨rfl, hkk⟩
  replace HS := Lib.hid (HS.out.grow hkk)
  clear hkk c0 c1 c2
  go_wp2_with fail
  rw [HG.out, Oper.upon_enter]
  refine (HC.out ⟨w3, HS.out.keep⟩).mono ?_
  rintro e w4 ⟨rfl, hr⟩
  have HR := Lib.hid hr
  have HKP := Lib.hid HS.out.keep
  clear hr
  go_wp2
  go_ret
  exact ⟨rfl, ⟨w3, HKP.out⟩, HR.out⟩

theorem owrite_dev (d : DevI) (t : St) (m b at_ i v : Int) (q : Nat) (w : World) (hd : Dev w d t) (hl : t.l < 0) (hqn : q < t.now.length) (he : fieldErr m b i false = 0) (hq : at_ + 1 + i = (q : Int)) (ha : 0 ≤ at_ ∧ at_ ≤ 1000000) (hm : m ≤ 1000) :
    Calls Try.prog 72 #[obV m b at_, .int .i64 i, .int .u64 v, .func (.func 27) #[.pointer (some ⟨d.b, 0, none⟩)] #[]] w fun e w' => e = .returned (.int .i64 0) ∧ Dev w' d (t.store q v) ∧ Keep w.heap.size d.blocks w w' := by
  refine (owrite_gen _ _ _ m b at_ i v (q : Int) 0 (fun w1 w' => Dev w' d (t.store q v) ∧ Keep w1.heap.size d.blocks w1 w') w (enters_of Try.func27 (by kernel_rfl) rfl) he hq ha hm (fun x => ?_)).mono ?_
  · refine (store_free d t q v x.now (hd.of_new x.keep) hl hqn).mono ?_
    rintro e w' ⟨rfl, h1, h2⟩
    exact ⟨rfl, h1, h2⟩
  · rintro e w' ⟨rfl, x, h1, h2⟩
    exact ⟨rfl, h1, (x.keep.sub (by simp)).join h2 x.keep.size (fun k _ h => h)⟩

set_option maxHeartbeats 4000000 in
theorem opoint_no (m b at_ i v err : Int) (F : Value) (w : World) (he : fieldErr m b i true = err) (h0 : err ≠ 0) :
    Calls Try.prog 26 #[obV m b at_, .int .i64 i, .int .i64 v, F] w fun e w' => e = .returned (.int .i64 err) ∧ Keep w.heap.size [] w w' := by
  have HS := Lib.hid ((Sep.start w []).new 53 #[.int .i64 m, .int .i64 b, .int .i64 at_])
  have HF := Lib.hid (fun w => field_no m b at_ i err true w he h0)
  have e1 : decide (err = 0) = false := by simpa using h0
  have e2 : (err == 0) = false := by simpa using h0
  have e3 : (err != 0) = true := by simpa using h0
  clear he h0
  go_enter Try.func26, Try.ntmps26
  go_upto_region 1 with fail
  generalize w.alloc _ = w2 at *
  generalize w.heap.size = go at *
  have c0 := (HS.out.blk 0 rfl).cell 0
  simp at c0
  have c1 := (HS.out.blk 0 rfl).cell 1
  simp at c1
  have c2 := (HS.out.blk 0 rfl).cell 2
  simp at c2
  go_wp2_with fail
  refine (HF.out _).mono ?_
  rintro e w3 ⟨rfl, hkk⟩
  replace HS := Lib.hid (HS.out.grow hkk)
  clear hkk
  go_wp2
  go_ret
  exact ⟨rfl, HS.out.keep⟩

set_option maxHeartbeats 4000000 in
theorem opoint_gen (G : FuncId) (bs cap : Array Value) (m b at_ i v q err : Int) (R : World → World → Prop) (w : World) (hG : Enters Try.prog G) (he : fieldErr m b i true = 0) (hq : at_ + 1 + i = q) (ha : 0 ≤ at_ ∧ at_ ≤ 1000000) (hm : m ≤ 1000) (hv : 0 ≤ v ∧ v ≤ 9223372036854775807) (hc : ∀ x : Ext w, Calls Try.prog G (bs ++ (#[.int .i64 q, .int .u64 v] ++ cap)) x.now fun e w' => e = .returned (.int .i64 err) ∧ R x.now w') :
    Calls Try.prog 26 #[obV m b at_, .int .i64 i, .int .i64 v, .func (.func G) bs cap] w fun e w' => e = .returned (.int .i64 err) ∧ ∃ x : Ext w, R x.now w' := by
  have HS := Lib.hid ((Sep.start w []).new 53 #[.int .i64 m, .int .i64 b, .int .i64 at_])
  have HF := Lib.hid (fun w => field_ok m b at_ i q true w he hq ha hm)
  have HC := Lib.hid hc
  have HG := Lib.hid hG
  have hcv : IntKind.u64.wrap v = v := by rw [IntKind.wrap_u64]; omega
  clear hv
  clear he hq ha hm hc hG
  go_enter Try.func26, Try.ntmps26
  go_upto_region 1 with fail
  generalize w.alloc _ = w2 at *
  generalize w.heap.size = go at *
  have c0 := (HS.out.blk 0 rfl).cell 0
  simp at c0
  have c1 := (HS.out.blk 0 rfl).cell 1
  simp at c1
  have c2 := (HS.out.blk 0 rfl).cell 2
  simp at c2
  go_wp2_with fail
  refine (HF.out _).mono ?_
  rintro e w3 ⟨rfl, hkk⟩
  replace HS := Lib.hid (HS.out.grow hkk)
  clear hkk c0 c1 c2
  go_wp2_with fail
  rw [HG.out, Oper.upon_enter]
  refine (HC.out ⟨w3, HS.out.keep⟩).mono ?_
  rintro e w4 ⟨rfl, hr⟩
  have HR := Lib.hid hr
  have HKP := Lib.hid HS.out.keep
  clear hr
  go_wp2
  go_ret
  exact ⟨rfl, ⟨w3, HKP.out⟩, HR.out⟩

theorem opoint_dev (d : DevI) (t : St) (m b at_ i v : Int) (q : Nat) (w : World) (hd : Dev w d t) (hl : t.l < 0) (hqn : q < t.now.length) (he : fieldErr m b i true = 0) (hq : at_ + 1 + i = (q : Int)) (ha : 0 ≤ at_ ∧ at_ ≤ 1000000) (hm : m ≤ 1000) (hv : 0 ≤ v ∧ v ≤ 9223372036854775807) :
    Calls Try.prog 26 #[obV m b at_, .int .i64 i, .int .i64 v, .func (.func 27) #[.pointer (some ⟨d.b, 0, none⟩)] #[]] w fun e w' => e = .returned (.int .i64 0) ∧ Dev w' d (t.store q v) ∧ Keep w.heap.size d.blocks w w' := by
  refine (opoint_gen _ _ _ m b at_ i v (q : Int) 0 (fun w1 w' => Dev w' d (t.store q v) ∧ Keep w1.heap.size d.blocks w1 w') w (enters_of Try.func27 (by kernel_rfl) rfl) he hq ha hm hv (fun x => ?_)).mono ?_
  · refine (store_free d t q v x.now (hd.of_new x.keep) hl hqn).mono ?_
    rintro e w' ⟨rfl, h1, h2⟩
    exact ⟨rfl, h1, h2⟩
  · rintro e w' ⟨rfl, x, h1, h2⟩
    exact ⟨rfl, h1, (x.keep.sub (by simp)).join h2 x.keep.size (fun k _ h => h)⟩
end Go.Proofs.Ytbdomdmnjclpdaa
