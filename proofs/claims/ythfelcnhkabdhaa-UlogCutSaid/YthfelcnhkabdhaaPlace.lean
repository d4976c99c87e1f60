/-
  tumuluslaw06: A.place.
-/
import Derived.Test.YthfelcnhkabdhaaAwk6
set_option linter.unusedSimpArgs false
set_option linter.unusedVariables false
namespace Go.Proofs.Ythfelcnhkabdhaa
open Go.RowKit Go.Shelf

def Kfg.place (k : Kfg) (a : Nat) : Nat := k.act + a % (k.words - k.act)
theorem Kfg.place_lt {k : Kfg} (hk : k.Ok) (a : Nat) : k.act ≤ k.place a ∧ k.place a < k.words := by
  obtain ⟨w0, w1⟩ := Kfg.words_le hk
  have := Nat.mod_lt a (show 0 < k.words - k.act by omega)
  unfold Kfg.place
  omega

set_option maxRecDepth 100000 in
set_option maxHeartbeats 2000000 in
theorem place_any (k : Kfg) (a : Nat) (v : Int) (w : World) (hk : k.Ok) (ha : a ≤ 65535) :
    Calls Try.prog 24 #[.agg #[.int .u16 a, .int .u64 v], .agg k.cells] w fun e w' => e = .returned (.int .i64 (k.place a : Int)) ∧ Keep w.heap.size [] w w' := by
  have HS := Lib.hid (Sep.start w [])
  have HK := Lib.hid hk
  obtain ⟨w0, w1⟩ := Kfg.words_le hk
  obtain ⟨p, hp⟩ : ∃ p, k.place a = p := ⟨_, rfl⟩
  obtain ⟨nw, hnw⟩ : ∃ nw, k.words = nw := ⟨_, rfl⟩
  obtain ⟨na, hna⟩ : ∃ na, k.act = na := ⟨_, rfl⟩
  obtain ⟨xm, hx⟩ : ∃ xm, nw - na = xm := ⟨_, rfl⟩
  have hwd : ∀ w, Calls Try.prog 46 #[.agg k.cells] w fun e w' => e = .returned (.int .i64 (nw : Int)) ∧ Keep w.heap.size [] w w' := fun w => by rw [← hnw]; exact kwords k w hk
  have hac : ∀ w, Calls Try.prog 17 #[.agg k.cells] w fun e w' => e = .returned (.int .i64 (na : Int)) ∧ Keep w.heap.size [] w w' := fun w => by rw [← hna]; exact kactive k w hk
  have HWD := Lib.hid hwd
  have HAC := Lib.hid hac
  rw [hnw, hna] at w0
  rw [hnw] at w1
  clear hwd hac hk
  simp only [Kfg.cells]
  go_enter Try.func24, Try.ntmps24
  go_wp2_with fail
  replace HS := Lib.hid ((HS.out.new 48 #[.int .u16 a, .int .u64 v]).new 30 #[.int .i64 (k.L : Int), .int .i64 (k.R : Int), .int .i64 (k.S : Int)])
  have hs2 := HS.out
  simp only [World.size_alloc] at hs2
  replace HS := Lib.hid hs2
  clear hs2
  generalize (w.alloc _).alloc _ = w2 at *
  obtain ⟨ga, hga⟩ : ∃ ga, w.heap.size = ga := ⟨_, rfl⟩
  rw [hga] at HS
  obtain ⟨gc, hgc⟩ : ∃ gc, ga + 1 = gc := ⟨_, rfl⟩
  rw [hgc] at HS
  simp only [hga, hgc]
  have b0 : ∀ x : Ext w2, x.now.cell? ⟨ga, 0, none⟩ = some (.int .u16 (a : Int)) := fun x => x.cell (by simpa using (HS.out.blk 0 rfl).cell 0)
  have c0 : ∀ x : Ext w2, x.now.cell? ⟨gc, 0, none⟩ = some (.int .i64 (k.L : Int)) := fun x => x.cell (by simpa using (HS.out.blk 1 rfl).cell 0)
  have c1 : ∀ x : Ext w2, x.now.cell? ⟨gc, 1, none⟩ = some (.int .i64 (k.R : Int)) := fun x => x.cell (by simpa using (HS.out.blk 1 rfl).cell 1)
  have c2 : ∀ x : Ext w2, x.now.cell? ⟨gc, 2, none⟩ = some (.int .i64 (k.S : Int)) := fun x => x.cell (by simpa using (HS.out.blk 1 rfl).cell 2)
  have hsub : IntKind.i64.wrap ((nw : Int) - (na : Int)) = (xm : Int) := by rw [IntWalk.i64_in _ (by omega)]; omega
  have hx0 : ((xm : Int) == 0) = false := by rw [beq_eq_false_iff_ne]; omega
  have hrem : IntKind.i64.wrap ((na : Int) + (a : Int) % (xm : Int)) = (p : Int) := by
    rw [← hp]
    unfold Kfg.place
    rw [hna, hnw, hx]
    have h1 : ((a : Int) % (xm : Int)) = ((a % xm : Nat) : Int) := by omega
    have h2 := Nat.mod_lt a (show 0 < xm by omega)
    rw [h1, IntWalk.i64_in _ (by omega)]; omega
  refine wp_region_ext (by kernel_rfl) (by kernel_rfl) ?_
  repeat (go_big_quiet_step ((first | (go_at_call 46; with_reducible exact Calls.ext (HWD.out _)) | (go_at_call 17; with_reducible exact Calls.ext (HAC.out _)))))
  refine wpQuiet_nil ?_
  rintro _ ⟨x, rfl⟩
  replace HS := Lib.hid (HS.out.grow x.keep)
  go_wp2
  go_ret
  rw [hp]
  refine ⟨?_, by first | exact HS.out.keep | exact hga ▸ HS.out.keep⟩
  rfl
end Go.Proofs.Ythfelcnhkabdhaa
