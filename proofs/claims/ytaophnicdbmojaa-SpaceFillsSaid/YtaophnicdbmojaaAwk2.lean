/-
  Awake of layer 2.
-/
import Derived.Test.YtaophnicdbmojaaAwk
set_option maxRecDepth 100000
namespace Go.Proofs.Ytaophnicdbmojaa
open Go.RowKit Go.Shelf

theorem const50 (k : Int) (w : World) : Calls Try.prog 91 #[.int .i64 k] w fun e w' => e = .returned (.int .u8 0) ∧ w = w' := by
  go_enter Try.func91, Try.ntmps91
  go_wp2
  go_ret
  exact ⟨rfl, rfl⟩

/-- A choice that hangs on nothing. -/
theorem chooses_const (G : FuncId) (c : Int) (n : Nat) (B : List Nat) (hG : Enters Try.prog G) (h0 : 0 ≤ c) (h1 : c ≤ 255)
    (h : ∀ (k : Int) (w : World), Calls Try.prog G #[.int .i64 k] w fun e w' => e = .returned (.int .u8 c) ∧ w = w') : Chooses G #[] (fun _ => c) n (fun _ _ => True) [] B :=
  ⟨hG, fun k w _ _ => (h k w).mono fun e w' ⟨h1, h2⟩ => ⟨h1, trivial, h2 ▸ Keep.refl _ _ _⟩, fun _ => ⟨h0, h1⟩, fun _ _ _ _ _ => trivial, by simp⟩

theorem store_free (d : DevI) (s : St) (k : Nat) (v : Int) (w : World) (h : Dev w d s) (hl : s.l < 0) (hk : k < s.now.length) :
    Calls Try.prog 19 #[.pointer (some ⟨d.b, 0, none⟩), .int .i64 k, .int .u64 v] w (Did w d (.int .i64 0) (s.store k v)) :=
  (store_in d s k v w h hk).mono fun _ _ h => h.elim (fun h => h.2) (fun h => by have := h.1.1; omega)
theorem flush_free (d : DevI) (s : St) (k : Nat) (w : World) (h : Dev w d s) (hl : s.l < 0) (hk : k < s.now.length) :
    Calls Try.prog 72 #[.pointer (some ⟨d.b, 0, none⟩), .int .i64 k] w (Did w d (.int .i64 0) (s.flush k)) :=
  (flush_in d s k w h hk).mono fun _ _ h => h.elim (fun h => h.2) (fun h => by have := h.1.1; omega)
theorem fence_free (d : DevI) (s : St) (w : World) (h : Dev w d s) (hl : s.l < 0) :
    Calls Try.prog 73 #[.pointer (some ⟨d.b, 0, none⟩)] w (Did w d (.tuple #[]) s.fence) :=
  (fence_any d s w h).mono fun _ _ h => h.elim (fun h => h.2) (fun h => by have := h.1.1; omega)

/-- Device d, made since the heap was of size n, is all that has turned since w. -/
theorem Keep.did {n : Nat} {w w' w'' : World} {d : DevI} (hk : Keep n [] w w') (hd : Keep w'.heap.size d.blocks w' w'') (hn : n ≤ w'.heap.size) (hb : ∀ k ∈ d.blocks, n ≤ k) : Keep n [] w w'' :=
  hk.join hd hn fun k hk hm => by have := hb k hm; omega

set_option maxHeartbeats 800000 in
theorem awake2_any (w : World) :
    Calls Try.prog 88 #[] w fun e w' => e = .returned (.bool true) ∧ Keep w.heap.size [] w w' := by
  have hmf : ∀ (fn : Fn) (first cap : Array Value) (w : World), (Instr.makeFunc fn first cap).run Try.prog w = .ok (.func fn first cap) w := fun _ _ _ _ => rfl
  go_enter Try.func88, Try.ntmps88
  go_wp2_with fail
  refine (awake1_any w).mono ?_
  rintro e w1 ⟨rfl, hk1⟩
  have HK1 := Lib.hid hk1
  clear hk1
  go_wp2_with fail
  refine (new2_any _ [1] _ (Rd.of_blk (xs := uw [1]) (ex := []) (Blk.new w1 25 #[.int .u64 1])) (by decide)).mono ?_
  rintro e w2 ⟨d, rfl, hb, hd, hk2⟩
  have HK2 : Hid (Keep w.heap.size [] w w2) := (HK1.out.alloc HK1.out.size _).join hk2 (by have := HK1.out.size; simp; omega) (by simp)
  have HB : Hid (∀ k ∈ d.blocks, w.heap.size ≤ k) := fun k hk => by have := hb k hk; have := HK1.out.size; simp at *; omega
  have HD := Lib.hid hd
  clear hb hd hk2 HK1
  go_wp2_with fail
  refine (store_free d _ 0 5 w2 HD.out (by decide) (by decide)).mono ?_
  rintro e w3 ⟨rfl, hd3, hk3⟩
  have HK3 : Hid (Keep w.heap.size [] w w3) := HK2.out.did hk3 HK2.out.size HB.out
  have HD3 := Lib.hid hd3
  clear hd3 hk3 HD HK2
  go_wp2_with fail
  refine (load_any d _ 0 w3 HD3.out).mono ?_
  rintro e w4 ⟨rfl, rfl⟩
  go_wp2_with fail
  refine (crash_any d _ 91 #[] _ _ [] w3 HD3.out (chooses_const _ 0 _ _ (enters_of Try.func91 (by kernel_rfl) rfl) (by decide) (by decide) const50) trivial (by simp)).mono ?_
  rintro e w5 ⟨rfl, hd5, _, hk5⟩
  rw [List.append_nil] at hk5
  have HK5 : Hid (Keep w.heap.size [] w w5) := HK3.out.did hk5 HK3.out.size HB.out
  have HD5 := Lib.hid hd5
  clear hd5 hk5 HD3 HK3
  have hw5 : wordAt ((St.fresh (-1) 0 [1]).store 0 5).now 0 = 5 := by decide
  rw [hw5]
  go_wp2_with fail
  refine (load_any d _ 0 w5 HD5.out).mono ?_
  rintro e w6 ⟨rfl, rfl⟩
  have hw6 : wordAt (((St.fresh (-1) 0 [1]).store 0 5).crash fun _ => 0).now 0 = 1 := by decide
  rw [hw6]
  go_wp2_with fail
  refine (len_any d _ w5 HD5.out).mono ?_
  rintro e w7 ⟨rfl, rfl⟩
  have hw7 : ((((St.fresh (-1) 0 [1]).store 0 5).crash fun _ => 0).now.length : Int) = 8 := by decide
  rw [hw7]
  go_wp2
  go_ret
  exact ⟨rfl, HK5.out⟩
end Go.Proofs.Ytaophnicdbmojaa
