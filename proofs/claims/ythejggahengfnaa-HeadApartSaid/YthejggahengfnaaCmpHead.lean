/-
  Two heads, compared.
-/
import Derived.Laws.StructEq
import Derived.Test.YthejggahengfnaaHead
set_option linter.unusedSimpArgs false
set_option linter.unusedVariables false
namespace Go.Proofs.Ythejggahengfnaa
open Go.RowKit Go.Shelf

theorem head_struct : Try.prog.underlying 24 = some (.struct (Try.prog.fieldsOf 24)) := by kernel_rfl
theorem head_held : Try.prog.stoodInHeld 24 = false := by kernel_rfl
theorem head_fields : ∃ f0 f1 : Field, Try.prog.fieldsOf 24 = #[f0, f1] ∧ (f0.type = 3 ∧ f1.type = 3) ∧ (f0.offset = 0 ∧ f1.offset = 1) ∧ f0.name = "Words" ∧ f1.name = "Refs" := ⟨_, _, rfl, ⟨rfl, rfl⟩, ⟨rfl, rfl⟩, rfl, rfl⟩
theorem int_int : Try.prog.underlying 3 = some (.int .i64) := by kernel_rfl
theorem eql_head (a b c d : Int) (w : World) : (binOp .eql 24 (.agg #[.int .i64 a, .int .i64 b]) (.agg #[.int .i64 c, .int .i64 d])).run Try.prog w = .ok (.bool (a == c && b == d)) w := by
  obtain ⟨f0, f1, hf, ⟨h0, h1⟩, ⟨o0, o1⟩, n0, n1⟩ := head_fields
  have hp0 : ∀ x y (w : World), (part 3 #[x, y] 0).run Try.prog w = .ok x w := fun x y w => by kernel_rfl
  have hp1 : ∀ x y (w : World), (part 3 #[x, y] 1).run Try.prog w = .ok y w := fun x y w => by kernel_rfl
  rw [run_eql_struct, run_equalIn_agg w 9999 24 _ _ head_struct head_held, hf]
  simp [Op.eqFields, h0, h1, o0, o1, n0, n1, hp0, hp1, run_equalIn_int, int_int]
  by_cases e1 : a = c <;> by_cases e2 : b = d <;> simp [e1, e2]
theorem neq_head (a b c d : Int) (w : World) : (binOp .neq 24 (.agg #[.int .i64 a, .int .i64 b]) (.agg #[.int .i64 c, .int .i64 d])).run Try.prog w = .ok (.bool (!(a == c && b == d))) w := by
  obtain ⟨f0, f1, hf, ⟨h0, h1⟩, ⟨o0, o1⟩, n0, n1⟩ := head_fields
  have hp0 : ∀ x y (w : World), (part 3 #[x, y] 0).run Try.prog w = .ok x w := fun x y w => by kernel_rfl
  have hp1 : ∀ x y (w : World), (part 3 #[x, y] 1).run Try.prog w = .ok y w := fun x y w => by kernel_rfl
  rw [run_neq_struct, run_equalIn_agg w 9999 24 _ _ head_struct head_held, hf]
  simp [Op.eqFields, h0, h1, o0, o1, n0, n1, hp0, hp1, run_equalIn_int, int_int]
  by_cases e1 : a = c <;> by_cases e2 : b = d <;> simp [e1, e2]
end Go.Proofs.Ythejggahengfnaa
