/-
  The fixed facts Awake of the layers 1 and 2.
  Awake of layer 2.
-/
import Derived.Test.YtbdomdmnjclpdaaNvm
set_option maxRecDepth 100000
namespace Go.Proofs.Ytbdomdmnjclpdaa
open Go.RowKit Go.Shelf

theorem Blk.one {w : World} {g : Nat} {t : TypeId} {v : Value} (h : Blk w g t #[v]) : w.cell? ⟨g, 0, none⟩ = some v := by
  have := h.cell 0
  simpa using this

theorem Pow.tick {w : World} {p : Nat} {l u : Int} (h : Pow w p l u) (n : Nat) (u' : Int) : Pow ((w.drewN n).setCell ⟨p, 1, none⟩ (.int .i64 u')) p l u' := by
  have := (Blk.drewN h n).set_ 1 (.int .i64 u')
  simpa [Pow] using this

set_option maxHeartbeats 400000 in
theorem awake1_body (v p : Nat) (w : World) (hv : Blk w v 71 #[.pointer (some ⟨p, 0, none⟩)]) (hp : Pow w p 1 0) :
    Calls Try.prog 100 #[.pointer (some ⟨v, 0, none⟩)] w fun e w' => e = offE ∧ Pow w' p 1 1 ∧ Keep w.heap.size [p] w w' := by
  have hc := hv.one
  have HV := Lib.hid hv
  have HP := Lib.hid hp
  clear hv hp
  go_enter Try.func100, Try.ntmps100
  go_wp2_with fail
  refine (tick_less p 1 0 w HP.out (by omega) (by omega)).mono ?_
  rintro e w1 ⟨rfl, n, rfl⟩
  have hne : v ≠ p := by rintro rfl; have := HV.out.inj HP.out; simp at this
  have hv1 : Blk ((w.drewN n).setCell ⟨p, 1, none⟩ (.int .i64 (wrap64 (0 + 1)))) v 71 #[.pointer (some ⟨p, 0, none⟩)] := (HV.out.drewN n).far (by simpa using hne) _
  have hp1 := Pow.tick HP.out n (wrap64 (0 + 1))
  have hk1 : Keep w.heap.size [p] w ((w.drewN n).setCell ⟨p, 1, none⟩ (.int .i64 (wrap64 (0 + 1)))) := ((Keep.refl _ _ _).drewN n).setCell (by simp) _
  rw [show wrap64 (0 + 1) = 1 by unfold wrap64; omega] at hv1 hp1 hk1 ⊢
  generalize (w.drewN n).setCell ⟨p, 1, none⟩ (.int .i64 1) = w1 at *
  have hc1 := hv1.one
  have HP1 := Lib.hid hp1
  have HK1 := Lib.hid hk1
  clear hv1 hp1 hk1
  go_wp2_with fail
  refine (tick_goes p 1 1 w1 HP1.out (by omega) (by omega)).mono ?_
  rintro e w2 ⟨rfl, n2, rfl⟩
  unfold offE
  go_wp2
  exact ⟨rfl, rfl, HP1.out, HK1.out.drewN n2⟩

set_option maxHeartbeats 400000 in
theorem nothing_any (w : World) :
    Calls Try.prog 102 #[] w fun e w' => e = .returned (.tuple #[]) ∧ w = w' := by
  go_enter Try.func102, Try.ntmps102
  go_wp2
  go_end0
  exact ⟨rfl, rfl⟩

/-- power.Run at a body that does what A says, or is cut at what B says: with what it keeps. -/
theorem run_keep (G : FuncId) (cap : Array Value) (w : World) (A B : World → Prop) (S : List Nat) (hG : Enters Try.prog G)
    (hA : ∀ w1 w2, A w1 → Keep w.heap.size [] w1 w2 → A w2) (hB : ∀ w1 w2, B w1 → Keep w.heap.size [] w1 w2 → B w2)
    (h : ∀ w0, Keep w.heap.size [] w w0 → w.heap.size < w0.heap.size → Calls Try.prog G cap w0 fun e w1 => Keep w0.heap.size S w0 w1 ∧ (((∃ v, e = .returned v) ∧ A w1) ∨ (e = offE ∧ B w1))) (hS : ∀ k ∈ S, k < w.heap.size) :
    Calls Try.prog 99 #[.func (.func G) #[] cap] w fun e w' => Keep w.heap.size S w w' ∧ ((e = .returned (.bool true) ∧ A w') ∨ (e = .returned (.bool false) ∧ B w')) := by
  have hk0 : Keep w.heap.size [] w (w.alloc (.cells #[.bool false] 4)) := (Keep.refl _ _ _).alloc (Nat.le_refl _) _
  have hb0 := Blk.new w 4 #[.bool false]
  refine (run_any G cap w (fun w1 => Keep w.heap.size S w w1 ∧ A w1) (fun w1 => Keep w.heap.size S w w1 ∧ B w1) hG ((h _ hk0 (by simp)).mono ?_)).mono ?_
  · rintro e w1 ⟨hk, h1⟩
    have hkw : Keep w.heap.size S w w1 := (hk0.sub (S' := S) (by simp)).join hk (by simp) (fun _ _ h => h)
    refine ⟨hb0.keep hk hb0.lt (fun hc => by have := hS _ hc; omega), ?_⟩
    rcases h1 with ⟨hv, hA1⟩ | ⟨he, hB1⟩
    · exact .inl ⟨hv, hkw, hA1⟩
    · exact .inr ⟨he, hkw, hB1⟩
  · rintro e w' (⟨rfl, w1, ⟨hk, hA1⟩, hlt, rfl⟩ | ⟨rfl, w1, ⟨hk, hB1⟩, hlt, rfl⟩)
    · have h2 : Keep w.heap.size [] w1 (w1.setCell ⟨w.heap.size, 0, none⟩ (.bool true)) := (Keep.refl _ _ _).setCell (by simp) _
      exact ⟨hk.setCell (by simp) _, .inl ⟨rfl, hA _ _ hA1 h2⟩⟩
    · have h2 : Keep w.heap.size [] w1 ((w1.alloc (.cells #[] 117)).setCell ⟨w.heap.size, 0, none⟩ (.bool false)) := ((Keep.refl _ _ _).alloc (by omega) _).setCell (by simp) _
      exact ⟨(hk.alloc (by omega) _).setCell (by simp) _, .inr ⟨rfl, hB _ _ hB1 h2⟩⟩

set_option maxHeartbeats 800000 in
theorem awake1_any (w : World) :
    Calls Try.prog 96 #[] w fun e w' => e = .returned (.bool true) ∧ Keep w.heap.size [] w w' := by
  have hmf : ∀ (fn : Fn) (first cap : Array Value) (w : World), (Instr.makeFunc fn first cap).run Try.prog w = .ok (.func fn first cap) w := fun _ _ _ _ => rfl
  go_enter Try.func96, Try.ntmps96
  go_wp2_with fail
  refine (pnew_any 1 w).mono ?_
  rintro e w1 ⟨rfl, rfl⟩
  go_wp2_with fail
  obtain ⟨p, hpe⟩ : ∃ p, p = w.heap.size := ⟨_, rfl⟩
  have hp : Pow ((w.alloc (.cells #[.int .i64 1, .int .i64 0] 101)).alloc (.cells #[.pointer (some ⟨w.heap.size, 0, none⟩)] 71)) p 1 0 := by rw [hpe]; exact (Blk.new w _ _).alloc _
  have hv : Blk ((w.alloc (.cells #[.int .i64 1, .int .i64 0] 101)).alloc (.cells #[.pointer (some ⟨w.heap.size, 0, none⟩)] 71)) (w.heap.size + 1) 71 #[.pointer (some ⟨p, 0, none⟩)] := by
    have := Blk.new (w.alloc (.cells #[.int .i64 1, .int .i64 0] 101)) 71 #[.pointer (some ⟨w.heap.size, 0, none⟩)]
    rw [World.size_alloc] at this
    rw [hpe]
    exact this
  have hk : Keep w.heap.size [] w ((w.alloc (.cells #[.int .i64 1, .int .i64 0] 101)).alloc (.cells #[.pointer (some ⟨w.heap.size, 0, none⟩)] 71)) := ((Keep.refl _ _ _).alloc (Nat.le_refl _) _).alloc (by simp) _
  generalize (w.alloc (.cells #[.int .i64 1, .int .i64 0] 101)).alloc (.cells #[.pointer (some ⟨w.heap.size, 0, none⟩)] 71) = W2 at *
  have hlt : w.heap.size + 1 < W2.heap.size := hv.lt
  have hr := run_keep 100 #[.pointer (some ⟨w.heap.size + 1, 0, none⟩)] W2 (fun _ => False) (fun w' => Pow w' p 1 1) [p] (enters_of Try.func100 (by kernel_rfl) rfl) (fun _ _ h _ => h)
    (fun w1 w2 h hk => h.keep hk (by omega) (by simp))
    (fun w0 hk0 _ => (awake1_body (w.heap.size + 1) p w0 (hv.keep hk0 hlt (by simp)) (hp.keep hk0 (by omega) (by simp))).mono fun e w1 ⟨h1, h2, h3⟩ => ⟨h3, .inr ⟨h1, h2⟩⟩) (by simp; omega)
  refine hr.mono ?_
  rintro e w3 ⟨hk3, ⟨_, hf⟩ | ⟨rfl, hp3⟩⟩
  · exact hf.elim
  have hv3 := hv.keep hk3 hlt (by simp; omega)
  have hc3 := hv3.one
  have HP3 := Lib.hid hp3
  have HK : Hid (Keep w.heap.size [] w w3) := hk.join hk3 (by omega) (by simp; omega)
  clear hr hk3 hv hp hk hp3 hv3 hpe hlt
  go_wp2_with fail
  refine (used_any p 1 1 w3 HP3.out).mono ?_
  rintro e w4 ⟨rfl, rfl⟩
  go_wp2_with fail
  have hr2 := run_keep 102 #[] w3 (fun _ => True) (fun _ => False) [] (enters_of Try.func102 (by kernel_rfl) rfl) (fun _ _ _ _ => trivial) (fun _ _ h _ => h)
    (fun w0 hk0 _ => (nothing_any w0).mono fun e w1 ⟨h1, h2⟩ => ⟨h2 ▸ Keep.refl _ _ _, .inl ⟨⟨_, h1⟩, trivial⟩⟩) (by simp)
  refine hr2.mono ?_
  rintro e w5 ⟨hk5, ⟨rfl, _⟩ | ⟨_, hf⟩⟩
  · have HK5 := Lib.hid hk5
    clear hr2 hk5
    go_wp2
    go_ret
    exact ⟨rfl, HK.out.join HK5.out HK.out.size (by simp)⟩
  · exact hf.elim

set_option maxHeartbeats 400000 in
theorem new2_any (v : Value) (xs : List Int) (w : World) (hv : Rd w v (uw xs)) (hl : xs.length ≤ 1000000000) :
    Calls Try.prog 15 #[v] w fun e w' => ∃ d : DevI, e = .returned (.pointer (some ⟨d.b, 0, none⟩)) ∧ (∀ k ∈ d.blocks, w.heap.size ≤ k) ∧ Dev w' d (St.fresh (-1) 0 xs) ∧ Keep w.heap.size [] w w' := by
  have HV := Lib.hid hv
  clear hv
  go_enter Try.func15, Try.ntmps15
  go_wp2_with fail
  refine (pnew_any (-1) w).mono ?_
  rintro e w1 ⟨rfl, rfl⟩
  go_wp2_with fail
  have hk : Keep w.heap.size [] w (w.alloc (.cells #[.int .i64 (-1), .int .i64 0] 101)) := (Keep.refl _ _ _).alloc (Nat.le_refl _) _
  refine (new_any w.heap.size (-1) 0 v xs _ (Blk.new w _ _) (HV.out.keep hk) hl).mono ?_
  rintro e w2 ⟨d, rfl, hp, hb, hd, hk2⟩
  have HP := Lib.hid hp
  have HB := Lib.hid hb
  have HD := Lib.hid hd
  have HK : Hid (Keep w.heap.size [] w w2) := hk.join hk2 (by simp) (by simp)
  clear hp hb hd hk hk2
  go_wp2
  go_ret
  refine ⟨d, rfl, fun k hk => ?_, HD.out, HK.out⟩
  by_cases h : k = w.heap.size
  · omega
  · have := HB.out k hk h
    simp at this
    omega
end Go.Proofs.Ytbdomdmnjclpdaa
set_option maxRecDepth 100000
namespace Go.Proofs.Ytbdomdmnjclpdaa
open Go.RowKit Go.Shelf

theorem const50 (k : Int) (w : World) : Calls Try.prog 98 #[.int .i64 k] w fun e w' => e = .returned (.int .u8 0) ∧ w = w' := by
  go_enter Try.func98, Try.ntmps98
  go_wp2
  go_ret
  exact ⟨rfl, rfl⟩

/-- A choice that hangs on nothing. -/
theorem chooses_const (G : FuncId) (c : Int) (n : Nat) (B : List Nat) (hG : Enters Try.prog G) (h0 : 0 ≤ c) (h1 : c ≤ 255)
    (h : ∀ (k : Int) (w : World), Calls Try.prog G #[.int .i64 k] w fun e w' => e = .returned (.int .u8 c) ∧ w = w') : Chooses G #[] (fun _ => c) n (fun _ _ => True) [] B :=
  ⟨hG, fun k w _ _ => (h k w).mono fun e w' ⟨h1, h2⟩ => ⟨h1, trivial, h2 ▸ Keep.refl _ _ _⟩, fun _ => ⟨h0, h1⟩, fun _ _ _ _ _ => trivial, by simp⟩

theorem store_free (d : DevI) (s : St) (k : Nat) (v : Int) (w : World) (h : Dev w d s) (hl : s.l < 0) (hk : k < s.now.length) :
    Calls Try.prog 27 #[.pointer (some ⟨d.b, 0, none⟩), .int .i64 k, .int .u64 v] w (Did w d (.int .i64 0) (s.store k v)) :=
  (store_in d s k v w h hk).mono fun _ _ h => h.elim (fun h => h.2) (fun h => by have := h.1.1; omega)
theorem flush_free (d : DevI) (s : St) (k : Nat) (w : World) (h : Dev w d s) (hl : s.l < 0) (hk : k < s.now.length) :
    Calls Try.prog 53 #[.pointer (some ⟨d.b, 0, none⟩), .int .i64 k] w (Did w d (.int .i64 0) (s.flush k)) :=
  (flush_in d s k w h hk).mono fun _ _ h => h.elim (fun h => h.2) (fun h => by have := h.1.1; omega)
theorem fence_free (d : DevI) (s : St) (w : World) (h : Dev w d s) (hl : s.l < 0) :
    Calls Try.prog 54 #[.pointer (some ⟨d.b, 0, none⟩)] w (Did w d (.tuple #[]) s.fence) :=
  (fence_any d s w h).mono fun _ _ h => h.elim (fun h => h.2) (fun h => by have := h.1.1; omega)

/-- Device d, made since the heap was of size n, is all that has turned since w. -/
theorem Keep.did {n : Nat} {w w' w'' : World} {d : DevI} (hk : Keep n [] w w') (hd : Keep w'.heap.size d.blocks w' w'') (hn : n ≤ w'.heap.size) (hb : ∀ k ∈ d.blocks, n ≤ k) : Keep n [] w w'' :=
  hk.join hd hn fun k hk hm => by have := hb k hm; omega

set_option maxHeartbeats 800000 in
theorem awake2_any (w : World) :
    Calls Try.prog 95 #[] w fun e w' => e = .returned (.bool true) ∧ Keep w.heap.size [] w w' := by
  have hmf : ∀ (fn : Fn) (first cap : Array Value) (w : World), (Instr.makeFunc fn first cap).run Try.prog w = .ok (.func fn first cap) w := fun _ _ _ _ => rfl
  go_enter Try.func95, Try.ntmps95
  go_wp2_with fail
  refine (awake1_any w).mono ?_
  rintro e w1 ⟨rfl, hk1⟩
  have HK1 := Lib.hid hk1
  clear hk1
  go_wp2_with fail
  refine (new2_any _ [1] _ (Rd.of_blk (xs := uw [1]) (ex := []) (Blk.new w1 38 #[.int .u64 1])) (by decide)).mono ?_
  rintro e w2 ⟨d, rfl, hb, hd, hk2⟩
  have HK2 : Hid (Keep w.heap.size [] w w2) := (HK1.out.alloc HK1.out.size _).join hk2 (by have := HK1.out.size; simp; omega) (by simp)
  have HB : Hid (∀ k ∈ d.blocks, w.heap.size ≤ k) := fun k hk => by have := hb k hk; have := HK1.out.size; simp at *; omega
  have HD := Lib.hid hd
  clear hb hd hk2 HK1
  go_wp2_with fail
  refine (store_free d _ 0 5 w2 HD.out (by decide) (by decide)).mono ?_
  rintro e w3 ⟨rfl, hd3, hk3⟩
  have HK3 : Hid (Keep w.heap.size [] w w3) := HK2.out.did hk3 HK2.out.size HB.out
  have HD3 := Lib.hid hd3
  clear hd3 hk3 HD HK2
  go_wp2_with fail
  refine (load_any d _ 0 w3 HD3.out).mono ?_
  rintro e w4 ⟨rfl, rfl⟩
  go_wp2_with fail
  refine (crash_any d _ 98 #[] _ _ [] w3 HD3.out (chooses_const _ 0 _ _ (enters_of Try.func98 (by kernel_rfl) rfl) (by decide) (by decide) const50) trivial (by simp)).mono ?_
  rintro e w5 ⟨rfl, hd5, _, hk5⟩
  rw [List.append_nil] at hk5
  have HK5 : Hid (Keep w.heap.size [] w w5) := HK3.out.did hk5 HK3.out.size HB.out
  have HD5 := Lib.hid hd5
  clear hd5 hk5 HD3 HK3
  have hw5 : wordAt ((St.fresh (-1) 0 [1]).store 0 5).now 0 = 5 := by decide
  rw [hw5]
  go_wp2_with fail
  refine (load_any d _ 0 w5 HD5.out).mono ?_
  rintro e w6 ⟨rfl, rfl⟩
  have hw6 : wordAt (((St.fresh (-1) 0 [1]).store 0 5).crash fun _ => 0).now 0 = 1 := by decide
  rw [hw6]
  go_wp2_with fail
  refine (len_any d _ w5 HD5.out).mono ?_
  rintro e w7 ⟨rfl, rfl⟩
  have hw7 : ((((St.fresh (-1) 0 [1]).store 0 5).crash fun _ => 0).now.length : Int) = 8 := by decide
  rw [hw7]
  go_wp2
  go_ret
  exact ⟨rfl, HK5.out⟩
end Go.Proofs.Ytbdomdmnjclpdaa
