/-
  tumuluslaw11.Awake.
-/
import Derived.Test.YtbdomdmnjclpdaaLink
import Derived.Test.YtbdomdmnjclpdaaAwk10
set_option linter.unusedSimpArgs false
set_option linter.unusedVariables false
set_option maxRecDepth 100000
namespace Go.Proofs.Ytbdomdmnjclpdaa
open Go.RowKit Go.Shelf

set_option maxRecDepth 100000 in
set_option maxHeartbeats 4000000 in
theorem awake11_any (w : World) : Calls Try.prog 55 #[] w fun e w' => e = .returned (.bool true) ∧ Keep w.heap.size [] w w' := by
  have HS := Lib.hid (Sep.start w [])
  go_enter Try.func55, Try.ntmps55
  go_wp2_with fail
  refine (awake10_any _).mono ?_
  rintro e w1 ⟨rfl, hk⟩
  replace HS := Lib.hid (HS.out.grow hk)
  clear hk
  go_wp2_with fail
  replace HS := Lib.hid (HS.out.new 61 #[.int .u8 0, .int .u8 1])
  generalize w1.alloc _ = w2 at *
  generalize w1.heap.size = gh at *
  refine (linked_any 0 0 40 0 _ _ [⟨0, 1⟩] [] _ (by decide) (by decide) (by decide) (by decide) (by decide) (by decide) (rdH_one (HS.out.blk 0 rfl)) (by intro x hx; simp at hx; subst hx; exact ⟨by decide, by decide, by decide, by decide⟩) (by decide) ⟨none, 0, rfl, fun h => absurd h (by simp)⟩ (by simp) (by decide) (by decide) (by decide)).mono ?_
  have hpl : placed ((kOf 0 0 40).from_ 0) (kOf 0 0 40).S [⟨0, 1⟩] 0 = [⟨40, 1, 0⟩] := by rw [k40_from]; decide
  have hus : usedOf (kOf 0 0 40).S [⟨0, 1⟩] 0 = 2 := by decide
  have hk : (kOf 0 0 40).Ok := (kOf_ok (by decide) (by decide) (by decide)).1
  rw [hpl, hus]
  have hf0 := k40_from
  have hkS : (kOf 0 0 40).S = 48 := rfl
  generalize kOf 0 0 40 = k at *
  rintro e w3 ⟨d, t, rv, ov, rfl, hl, hS⟩
  obtain ⟨RA, RC, hrv⟩ := rowR_val (hS.row 2 rfl)
  obtain ⟨RL, hRL⟩ : ∃ RL, (uw (rootsOf t k k.R)).length = RL := ⟨_, rfl⟩
  rw [hRL] at hrv
  subst hrv
  clear hRL
  obtain ⟨gv, C0, ex, rfl, hS2⟩ := (HS.out.adds hS).rowBlk (i := 2) rfl (by simp [atsOf])
  replace HS := Lib.hid hS2
  rw [show (atsOf [⟨40, 1, 0⟩]).length = 1 from rfl]
  simp only [Kfg.cells, rbC]
  have hsc := hl.fill.scan
  rw [hf0] at hsc
  have HL := Lib.hid hl
  have HK := Lib.hid hk
  have HF0 := Lib.hid hf0
  have HKS := Lib.hid hkS
  have HSC := Lib.hid hsc
  clear hkS hS hS2 hl hpl hus hk hf0 hsc
  go_upto_region 4 with fail
  replace HS := Lib.hid ((HS.out.new 30 #[.int .i64 (k.L : Int), .int .i64 (k.R : Int), .int .i64 (k.S : Int)]).new 33 #[.int .i64 0, .int .i64 2, .slice RA RL RC])
  simp only [World.size_alloc] at HS
  generalize (w3.alloc _).alloc _ = w4 at *
  generalize w3.heap.size = gk at *
  generalize gk + 1 = gb at *
  have c0 := (HS.out.blk 4 rfl).cell 0
  simp at c0
  have c1 := (HS.out.blk 4 rfl).cell 1
  simp at c1
  have c2 := (HS.out.blk 4 rfl).cell 2
  simp at c2
  have b0 := (HS.out.blk 5 rfl).cell 0
  simp at b0
  have b1 := (HS.out.blk 5 rfl).cell 1
  simp at b1
  have b2 := (HS.out.blk 5 rfl).cell 2
  simp at b2
  go_wp2_with fail
  refine (objects_any _ _ _ _ _ _ _ _ ⟨_, rfl⟩ ⟨_, _, _, rfl, rfl, rfl⟩ ⟨_, _, _, _, _, rfl, rfl, rfl⟩).mono ?_
  rintro e1 w5 ⟨rfl, rfl⟩
  replace HS := Lib.hid (((HS.out.alloc (.cells #[.pointer (some ⟨d.b, 0, none⟩)] 28)).alloc (.cells #[.int .i64 (k.L : Int), .int .i64 (k.R : Int), .int .i64 (k.S : Int)] 30)).alloc (.cells #[.int .i64 0, .int .i64 2, .slice RA RL RC] 33))
  have hcmp : ∀ b1 b2 b3 w, (Go.binOp .eql 120 (.func (.func 73) #[] #[.pointer (some ⟨b1, 0, none⟩), .pointer (some ⟨b2, 0, none⟩), .pointer (some ⟨b3, 0, none⟩)]) .nilFunc).run Try.prog w = .ok (.bool false) w := fun _ _ _ _ => rfl
  generalize ((w4.alloc _).alloc _).alloc _ = w5 at *
  generalize w4.heap.size = gq at *
  clear c0 c1 c2 b0 b1 b2
  have c0 := (HS.out.blk 4 rfl).cell 0
  simp at c0
  have c1 := (HS.out.blk 4 rfl).cell 1
  simp at c1
  have c2 := (HS.out.blk 4 rfl).cell 2
  simp at c2
  have b0 := (HS.out.blk 5 rfl).cell 0
  simp at b0
  have b1 := (HS.out.blk 5 rfl).cell 1
  simp at b1
  have b2 := (HS.out.blk 5 rfl).cell 2
  simp at b2
  go_wp2_with fail
  clear hcmp
  refine (starts_any d t k 0 2 42 40 RA RL RC _ (HS.out.dev 1 rfl) HK.out (by decide) (by rw [HKS.out]; decide) HF0.out rfl HL.out.rng).mono ?_
  rintro e2 w6 ⟨mr, rfl, hS⟩
  have hsc2 : scan t 42 40 = [⟨40, 1, 0, 0⟩] := HSC.out
  rw [hsc2] at hS ⊢
  rw [show errAt [⟨40, 1, 0, 0⟩] = 0 from rfl]
  replace HS := Lib.hid (HS.out.adds hS)
  clear hS hsc2 c0 c1 c2 b0 b1 b2
  have him : IMap w6 mr .i64 (mapOf [⟨40, 1, 0, 0⟩]) := HS.out.all 6 _ rfl
  have hln := map_len (P := Try.prog) (T := 122) (ty := 3) him u_starts [40] (by decide) (fun j => by
    unfold mapOf stepM mset
    by_cases hj : j = 40 <;> simp [hj])
  have hlk := lookup_any (P := Try.prog) him u_starts underlying_int 40 (zero_ob w6)
  have e40 : mapOf [⟨40, 1, 0, 0⟩] 40 = some (.agg #[.int .i64 1, .int .i64 0, .int .i64 40]) := rfl
  rw [e40] at hlk
  simp only [Option.getD_some] at hlk
  have v0 := (HS.out.blk 2 rfl).cell 0
  simp [atsOf] at v0
  clear him e40
  have hfd : ∀ w, (Instr.field 53 (.agg #[.int .i64 1, .int .i64 0, .int .i64 40]) 0).run Try.prog w = .ok (.agg #[.int .i64 1, .int .i64 0]) w := fun w => by kernel_rfl
  have hfe : ∀ w, (Instr.field 51 (.agg #[.int .i64 1, .int .i64 0]) 0).run Try.prog w = .ok (.int .i64 1) w := fun w => by kernel_rfl
  go_wp2
  go_ret
  exact ⟨rfl, HS.out.keep⟩
end Go.Proofs.Ytbdomdmnjclpdaa
