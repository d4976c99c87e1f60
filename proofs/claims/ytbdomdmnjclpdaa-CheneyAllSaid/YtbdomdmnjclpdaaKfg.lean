/-
  A config that may be, by natural numbers; the contracts of package region over it.
-/
import Derived.Test.YtbdomdmnjclpdaaReg
import Derived.Test.YtbdomdmnjclpdaaOps
import Derived.Test.YtbdomdmnjclpdaaOpen
set_option linter.unusedSimpArgs false
set_option linter.unusedVariables false
set_option maxRecDepth 100000
namespace Go.Proofs.Ytbdomdmnjclpdaa
open Go.RowKit Go.Shelf

structure Kfg where
  L : Nat
  R : Nat
  S : Nat
structure Kfg.Ok (k : Kfg) : Prop where
  r0 : 1 ≤ k.R
  r1 : k.R ≤ 16
  l0 : k.R + 2 ≤ k.L
  l1 : k.L ≤ 200
  s0 : 8 ≤ k.S
  s1 : k.S ≤ 4096
def Kfg.cfg (k : Kfg) : Cfg := ⟨k.L, k.R, k.S⟩
/-- The config as cells. -/
abbrev Kfg.cells (k : Kfg) : Array Value := #[.int .i64 (k.L : Int), .int .i64 (k.R : Int), .int .i64 (k.S : Int)]
def up8 (n : Nat) : Nat := (n + 7) / 8 * 8
def Kfg.act (k : Kfg) : Nat := up8 (16 + 4 * k.L)
def Kfg.from_ (k : Kfg) (i : Nat) : Nat := up8 (k.act + 2 + k.R) + i * up8 k.S
def Kfg.words (k : Kfg) : Nat := k.from_ 2

theorem up8_cast (n : Nat) : lin (n : Int) = (up8 n : Int) := by unfold lin up8; omega
theorem up8_le (n : Nat) : n ≤ up8 n ∧ up8 n ≤ n + 7 ∧ up8 n % 8 = 0 := by unfold up8; omega

section
variable {k : Kfg}
theorem Kfg.Ok.small (h : k.Ok) : k.cfg.Small := by
  obtain ⟨a, b, c, d, e, f⟩ := h
  exact ⟨by simp [Kfg.cfg], by simp [Kfg.cfg]; omega, by simp [Kfg.cfg], by simp [Kfg.cfg]; omega, by simp [Kfg.cfg], by simp [Kfg.cfg]; omega⟩
theorem Kfg.Ok.okB (h : k.Ok) : errIf k.cfg.okB = 0 := by
  obtain ⟨a, b, c, d, e, f⟩ := h
  exact errIf_yes _ _ _ ⟨by omega, by omega, by omega, by omega, by omega, by omega⟩
theorem Kfg.active_eq (k : Kfg) : k.cfg.active = (k.act : Int) := by
  unfold Cfg.active Kfg.act
  rw [← up8_cast]; simp [Kfg.cfg]
theorem Kfg.root_eq (k : Kfg) (i : Nat) : k.cfg.root i = ((k.act + 2 + i : Nat) : Int) := by
  unfold Cfg.root; rw [k.active_eq]; omega
theorem Kfg.from_eq (k : Kfg) (i : Nat) : k.cfg.from_ i = (k.from_ i : Int) := by
  have h : k.cfg.root k.cfg.roots = ((k.act + 2 + k.R : Nat) : Int) := k.root_eq k.R
  have h2 : lin k.cfg.space = (up8 k.S : Int) := up8_cast k.S
  unfold Cfg.from_ Kfg.from_
  rw [h, up8_cast, h2]; simp
theorem Kfg.words_eq (k : Kfg) : k.cfg.words = (k.words : Int) := k.from_eq 2
theorem Kfg.val_eq (k : Kfg) : k.cfg.val = .agg k.cells := rfl
theorem Kfg.act_mod (k : Kfg) : k.act % 8 = 0 := (up8_le _).2.2
theorem Kfg.act_le (k : Kfg) : 16 + 4 * k.L ≤ k.act ∧ k.act ≤ 16 + 4 * k.L + 7 := ⟨(up8_le _).1, (up8_le _).2.1⟩
theorem Kfg.from_le (k : Kfg) : k.act + 2 + k.R ≤ k.from_ 0 ∧ k.from_ 0 ≤ k.act + 2 + k.R + 7 := by
  have := up8_le (k.act + 2 + k.R)
  unfold Kfg.from_; omega
theorem Kfg.from_mod (k : Kfg) (i : Nat) : k.from_ i % 8 = 0 := by
  have h1 := (up8_le (k.act + 2 + k.R)).2.2
  have h2 := (up8_le k.S).2.2
  unfold Kfg.from_
  rw [Nat.add_mod, h1, Nat.mul_mod, h2]; simp
theorem Kfg.from_step (k : Kfg) (i : Nat) : k.from_ (i + 1) = k.from_ i + up8 k.S := by
  unfold Kfg.from_; rw [Nat.succ_mul]; omega
theorem Kfg.words_is (k : Kfg) : k.words = k.from_ 0 + 2 * up8 k.S := by
  unfold Kfg.words Kfg.from_; omega
theorem Kfg.words_mod (k : Kfg) : k.words % 8 = 0 := k.from_mod 2
theorem Kfg.words_le (h : k.Ok) : k.act + 2 + k.R ≤ k.words ∧ k.words ≤ 10000 := by
  have h1 := k.from_le
  have h2 := k.words_is
  have h3 := k.act_le
  have h4 := up8_le k.S
  have := h.r1
  have := h.l1
  have := h.s1
  omega
end

section
variable (k : Kfg) (w : World) (h : k.Ok)
include h
set_option linter.unusedSectionVars false in
theorem krecord (i : Nat) (hi : i ≤ 1000) : Calls Try.prog 62 #[.agg k.cells, .int .i64 i] w fun e w' => e = .returned (.int .i64 ((16 + 4 * i : Nat) : Int)) ∧ Keep w.heap.size [] w w' := by
  have := record_any k.cfg (i : Int) w (by omega) (by omega)
  rw [show k.cfg.record i = ((16 + 4 * i : Nat) : Int) by unfold Cfg.record; omega] at this
  exact this
theorem krecord_eq (i m : Nat) (hi : i ≤ 1000) (hm : 16 + 4 * i = m) : Calls Try.prog 62 #[.agg k.cells, .int .i64 i] w fun e w' => e = .returned (.int .i64 (m : Int)) ∧ Keep w.heap.size [] w w' := by
  subst hm; exact krecord k w h i hi
theorem kactive : Calls Try.prog 49 #[.agg k.cells] w fun e w' => e = .returned (.int .i64 (k.act : Int)) ∧ Keep w.heap.size [] w w' := by
  have := active_any k.cfg w h.small
  rw [k.active_eq] at this
  exact this
theorem kroot (i : Nat) (hi : i ≤ 1000000) : Calls Try.prog 28 #[.agg k.cells, .int .i64 i] w fun e w' => e = .returned (.int .i64 ((k.act + 2 + i : Nat) : Int)) ∧ Keep w.heap.size [] w w' := by
  have := root_any k.cfg (i : Int) w h.small (by omega) (by omega)
  rw [k.root_eq] at this
  exact this
theorem kroot_eq (i m : Nat) (hi : i ≤ 1000000) (hm : k.act + 2 + i = m) : Calls Try.prog 28 #[.agg k.cells, .int .i64 i] w fun e w' => e = .returned (.int .i64 (m : Int)) ∧ Keep w.heap.size [] w w' := by
  subst hm; exact kroot k w h i hi
theorem kfrom (i : Nat) (hi : i ≤ 1000) : Calls Try.prog 18 #[.agg k.cells, .int .i64 i] w fun e w' => e = .returned (.int .i64 (k.from_ i : Int)) ∧ Keep w.heap.size [] w w' := by
  have := from_any k.cfg (i : Int) w h.small (by omega) (by omega)
  rw [k.from_eq] at this
  exact this
theorem kwords : Calls Try.prog 60 #[.agg k.cells] w fun e w' => e = .returned (.int .i64 (k.words : Int)) ∧ Keep w.heap.size [] w w' := by
  have := wordsOf_any k.cfg w h.small
  rw [k.words_eq] at this
  exact this
theorem kcheck : Calls Try.prog 68 #[.agg k.cells] w fun e w' => e = .returned (.int .i64 0) ∧ Keep w.heap.size [] w w' := by
  have := check_any k.cfg w
  rw [h.okB] at this
  exact this
end
/-- tumuluslaw03.Make answers a config that may be. -/
theorem kmake (l r s : Int) (w : World) (l0 : 0 ≤ l) (l1 : l ≤ 65535) (r0 : 0 ≤ r) (r1 : r ≤ 65535) (s0 : 0 ≤ s) (s1 : s ≤ 65535) :
    Calls Try.prog 42 #[.agg #[.int .u16 l, .int .u16 r, .int .u16 s]] w fun e w' => ∃ k : Kfg, k.Ok ∧ k.L ≤ 19 ∧ k.R ≤ 6 ∧ k.S ≤ 97 ∧ e = .returned (.agg k.cells) ∧ Keep w.heap.size [] w w' := by
  refine (make_any l r s w l0 l1 r0 r1 s0 s1).mono ?_
  rintro e w' ⟨rfl, hk⟩
  obtain ⟨L, hL⟩ := Int.eq_ofNat_of_zero_le (show 0 ≤ 1 + r % 6 + 2 + l % 12 by omega)
  obtain ⟨R, hR⟩ := Int.eq_ofNat_of_zero_le (show 0 ≤ 1 + r % 6 by omega)
  obtain ⟨S, hS⟩ := Int.eq_ofNat_of_zero_le (show 0 ≤ 8 + s % 90 by omega)
  refine ⟨⟨L, R, S⟩, ⟨?_, ?_, ?_, ?_, ?_, ?_⟩, ?_, ?_, ?_, ?_, hk⟩ 
  all_goals first | (dsimp only; omega) | skip
  unfold mkCfg Cfg.val Kfg.cells
  simp only
  rw [hL, hR, hS]

/-- The cut of a row of operations. -/
theorem Sep.cut_played {w w1 : World} {d : DevI} {s : St} {ops pre : List Dop} {o : Dop} {v : Value} {L : List Res} {i : Nat} (HS : Sep w d.blocks L w1) (hi : L[i]? = some (devR d (s.run pre))) (hp : (pre ++ [o]) <+: ops) (hg : (s.run pre).goes) :
    Played w d s ops v offE w1 := by
  obtain ⟨rest, hr⟩ := hp
  have hl : pre.length < ops.length := by rw [← hr]; simp
  have ht : ops.take pre.length = pre := by rw [← hr]; simp
  exact .inr ⟨pre.length, hl, by rw [ht]; exact hg, rfl, by rw [ht]; exact HS.dev i hi, HS.keep⟩
theorem Sep.did_played {w w1 : World} {d : DevI} {s : St} {ops : List Dop} {v : Value} {L : List Res} {i : Nat} (HS : Sep w d.blocks L w1) (hi : L[i]? = some (devR d (s.run ops))) : Played w d s ops v (.returned v) w1 :=
  .inl ⟨rfl, HS.dev i hi, HS.keep⟩
end Go.Proofs.Ytbdomdmnjclpdaa
