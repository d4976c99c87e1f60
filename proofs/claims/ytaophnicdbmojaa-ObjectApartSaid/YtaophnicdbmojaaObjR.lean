/-
  Package object: Ref.
-/
import Derived.Test.YtaophnicdbmojaaObjF
set_option linter.unusedSimpArgs false
set_option linter.unusedVariables false
set_option maxRecDepth 100000
namespace Go.Proofs.Ytaophnicdbmojaa
open Go.RowKit Go.Shelf

set_option maxHeartbeats 4000000 in
theorem oref_no (m b at_ i err : Int) (dv : Value) (w : World) (he : fieldErr m b i true = err) (h0 : err ≠ 0) :
    Calls Try.prog 48 #[obV m b at_, dv, .int .i64 i] w fun e w' => e = .returned (.tuple #[.int .i64 0, .int .i64 err]) ∧ Keep w.heap.size [] w w' := by
  have HS := Lib.hid ((Sep.start w []).new 75 #[.int .i64 m, .int .i64 b, .int .i64 at_])
  have HF := Lib.hid (fun w => field_no m b at_ i err true w he h0)
  have e1 : decide (err = 0) = false := by simpa using h0
  have e2 : (err == 0) = false := by simpa using h0
  have e3 : (err != 0) = true := by simpa using h0
  clear he h0
  go_enter Try.func48, Try.ntmps48
  go_upto_region 1 with fail
  generalize w.alloc _ = w2 at *
  generalize w.heap.size = go at *
  have c0 := (HS.out.blk 0 rfl).cell 0
  simp at c0
  have c1 := (HS.out.blk 0 rfl).cell 1
  simp at c1
  have c2 := (HS.out.blk 0 rfl).cell 2
  simp at c2
  go_wp2_with fail
  refine (HF.out _).mono ?_
  rintro e w3 ⟨rfl, hkk⟩
  replace HS := Lib.hid (HS.out.grow hkk)
  clear hkk
  go_wp2
  go_ret2
  exact ⟨rfl, HS.out.keep⟩

set_option maxHeartbeats 4000000 in
theorem oref_ok (d : DevI) (t : St) (m b at_ i x : Int) (q : Nat) (w : World) (hd : Dev w d t) (he : fieldErr m b i true = 0) (hq : at_ + 1 + i = (q : Int)) (ha : 0 ≤ at_ ∧ at_ ≤ 1000000) (hm : m ≤ 1000) (hx : t.nw q = x) (hx1 : x ≤ 9223372036854775807) (hx0 : 0 ≤ x) :
    Calls Try.prog 48 #[obV m b at_, .pointer (some ⟨d.b, 0, none⟩), .int .i64 i] w fun e w' => e = .returned (.tuple #[.int .i64 x, .int .i64 0]) ∧ Keep w.heap.size [] w w' := by
  have HS := Lib.hid ((Sep.start w []).new 75 #[.int .i64 m, .int .i64 b, .int .i64 at_])
  have HF := Lib.hid (fun w => field_ok m b at_ i q true w he hq ha hm)
  have HD := Lib.hid hd
  have HX := Lib.hid hx
  have hcv : IntKind.i64.wrap x = x := IntWalk.i64_in _ (by omega)
  clear he hq ha hm hd hx
  go_enter Try.func48, Try.ntmps48
  go_upto_region 1 with fail
  generalize w.alloc _ = w2 at *
  generalize w.heap.size = go at *
  have c0 := (HS.out.blk 0 rfl).cell 0
  simp at c0
  have c1 := (HS.out.blk 0 rfl).cell 1
  simp at c1
  have c2 := (HS.out.blk 0 rfl).cell 2
  simp at c2
  go_wp2_with fail
  refine (HF.out _).mono ?_
  rintro e w3 ⟨rfl, hkk⟩
  replace HS := Lib.hid (HS.out.grow hkk)
  clear hkk c0 c1 c2
  go_wp2_with fail
  refine (load_is d t q x _ (HD.out.of_new HS.out.keep) HX.out).mono ?_
  rintro e w4 ⟨rfl, rfl⟩
  go_wp2
  go_ret2
  exact ⟨rfl, HS.out.keep⟩
end Go.Proofs.Ytaophnicdbmojaa
