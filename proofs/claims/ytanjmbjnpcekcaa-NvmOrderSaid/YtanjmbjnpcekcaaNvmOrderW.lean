/-
  The walk of tumuluslaw02.NvmOrder.
-/
import Derived.Test.YtanjmbjnpcekcaaChoice
import Derived.Test.YtanjmbjnpcekcaaRel
import Derived.Test.YtanjmbjnpcekcaaOpen
set_option linter.unusedSimpArgs false
set_option linter.unusedVariables false
namespace Go.Proofs.Ytanjmbjnpcekcaa
open Go.RowKit Go.Shelf

theorem order_one (k : Nat) (b : Int) (g : Nat) (w : World) (b0 : 0 ≤ b) (b1 : b ≤ 18446744073709551615) (hk : k ≤ 1099511627776) (hc : w.cell? ⟨g, 0, none⟩ = some (.int .u64 b)) :
    Calls Try.prog 33 #[.int .i64 k, .pointer (some ⟨g, 0, none⟩)] w fun e w' => e = .returned (.int .u8 (choiceOf b k)) ∧ w = w' := by
  have hch := choice_any b k w b0 b1 hk
  go_enter Try.func33, Try.ntmps33
  go_wp2_with fail
  refine hch.mono ?_
  rintro e w' ⟨rfl, rfl⟩
  go_wp2
  go_ret
  exact ⟨rfl, rfl⟩
theorem order_two (k : Nat) (b : Int) (g : Nat) (w : World) (b0 : 0 ≤ b) (b1 : b ≤ 18446744073709551615) (hk : k ≤ 1099511627776) (hc : w.cell? ⟨g, 0, none⟩ = some (.int .u64 b)) :
    Calls Try.prog 35 #[.int .i64 k, .pointer (some ⟨g, 0, none⟩)] w fun e w' => e = .returned (.int .u8 (choiceOf b k)) ∧ w = w' := by
  have hch := choice_any b k w b0 b1 hk
  go_enter Try.func35, Try.ntmps35
  go_wp2_with fail
  refine hch.mono ?_
  rintro e w' ⟨rfl, rfl⟩
  go_wp2
  go_ret
  exact ⟨rfl, rfl⟩

theorem pad_one (a : Int) : pad [a] = [a,0,0,0,0,0,0,0] := by simp [pad, List.replicate]
def ordA (a b c : Int) : St := (((St.fresh (-1) 0 [a]).store 0 b).flush 0).store 0 c
def ordB (a b c : Int) : St := (ordA a b c).fence
theorem ordA_is (a b c : Int) : (ordA a b c).l = -1 ∧ (ordA a b c).now = [c,0,0,0,0,0,0,0] ∧ (ordA a b c).kept = [a,0,0,0,0,0,0,0] ∧ (ordA a b c).q 0 = some [b,0,0,0,0,0,0,0] := by
  simp [ordA, St.store, St.flush, St.fresh, St.tick, pad_one, line]
theorem ordB_is (a b c : Int) : (ordB a b c).l = -1 ∧ (ordB a b c).now = [c,0,0,0,0,0,0,0] ∧ (ordB a b c).kept = [b,0,0,0,0,0,0,0] ∧ (ordB a b c).q 0 = none := by
  obtain ⟨h1, h2, h3, h4⟩ := ordA_is a b c
  simp [ordB, St.fence, St.tick, fenced, h1, h2, h3, h4, show List.range 8 = [0,1,2,3,4,5,6,7] by decide]
theorem crash_word (s : St) (ch : Nat → Int) (i : Nat) (hi : i < s.now.length) : wordAt (s.crash ch).now i = left s ch i := by
  have := leftTo_get s ch s.now.length i
  simp only [hi, if_true] at this
  simp [wordAt, St.crash, List.getD_eq_getElem?_getD, this]
theorem ordA_crash (a b c : Int) (ch : Nat → Int) : wordAt ((ordA a b c).crash ch).now 0 = if ch 0 % 3 = 1 then b else if ch 0 % 3 = 2 then c else a := by
  obtain ⟨h1, h2, h3, h4⟩ := ordA_is a b c
  refine (crash_word _ ch 0 (by rw [h2]; simp)).trans ?_
  simp [left, h2, h3, h4]
theorem ordB_crash (a b c : Int) (ch : Nat → Int) : wordAt ((ordB a b c).crash ch).now 0 = if ch 0 % 3 = 2 then c else b := by
  obtain ⟨h1, h2, h3, h4⟩ := ordB_is a b c
  refine (crash_word _ ch 0 (by rw [h2]; simp)).trans ?_
  simp only [left, h2, h3, h4]
  split
  · rw [if_neg (by omega)]; rfl
  · rfl

theorem store_len (s : St) (k : Nat) (v : Int) : (s.store k v).now.length = s.now.length := by simp [St.store, St.tick]
theorem flush_len (s : St) (k : Nat) : (s.flush k).now.length = s.now.length := by simp [St.flush, St.tick]
theorem fence_len (s : St) : s.fence.now.length = s.now.length := by simp [St.fence, St.tick]
theorem fresh_len (l u : Int) (xs : List Int) : (St.fresh l u xs).now.length = (xs.length + 7) / 8 * 8 := by simp [St.fresh, pad_length]
theorem store_lim (s : St) (k : Nat) (v : Int) : (s.store k v).l = s.l := rfl
theorem flush_lim (s : St) (k : Nat) : (s.flush k).l = s.l := rfl
theorem fence_lim (s : St) : s.fence.l = s.l := rfl
theorem fresh_lim (l u : Int) (xs : List Int) : (St.fresh l u xs).l = l := rfl

set_option maxRecDepth 100000 in
set_option maxHeartbeats 2000000 in
theorem NvmOrder.core (a b c bt : Int) (w : World) (t0 : 0 ≤ bt) (t1 : bt ≤ 18446744073709551615) :
    Calls Try.prog 7 #[.int .u64 a, .int .u64 b, .int .u64 c, .int .u64 bt] w fun e w' => e = .returned (.bool true) ∧ Keep w.heap.size [] w w' := by
  have hmf : ∀ (fn : Fn) (first cap : Array Value) (w : World), (Instr.makeFunc fn first cap).run Try.prog w = .ok (.func fn first cap) w := fun _ _ _ _ => rfl
  go_enter Try.func7, Try.ntmps7
  go_wp2_with fail
  have hb0 := Blk.new w 25 #[.int .u64 bt]
  have hk0 : Keep w.heap.size [] w (w.alloc (.cells #[.int .u64 bt] 25)) := (Keep.refl _ _ _).alloc (Nat.le_refl _) _
  generalize w.alloc (.cells #[.int .u64 bt] 25) = w0 at *
  refine (awake2_any w0).mono ?_
  rintro e w1 ⟨rfl, hk1⟩
  have HK1 : Hid (Keep w.heap.size [] w w1) := hk0.join hk1 hk0.size (by simp)
  have HB1 := Lib.hid (hb0.keep hk1 hb0.lt (by simp))
  clear hk1 hb0 hk0
  go_wp2_with fail
  refine (new2_any _ [a] _ (Rd.of_blk (xs := uw [a]) (ex := []) (Blk.new w1 25 #[.int .u64 a])) (by simp)).mono ?_
  rintro e w2 ⟨d, rfl, hdb, hd, hk2⟩
  have hk2' : Keep w1.heap.size [] w1 w2 := ((Keep.refl _ _ _).alloc (Nat.le_refl _) _).join hk2 (by simp) (by simp)
  have HK2 : Hid (Keep w.heap.size [] w w2) := HK1.out.join hk2' HK1.out.size (by simp)
  have HDB : Hid (∀ k ∈ d.blocks, w1.heap.size ≤ k) := fun k hk => by have := hdb k hk; simp at this; omega
  have HB2 := Lib.hid (HB1.out.keep hk2' HB1.out.lt (by simp))
  have HD2 := Lib.hid hd
  have HW1 : Hid (w.heap.size < w1.heap.size) := HB1.out.lt
  clear hdb hd hk2 hk2' HK1 HB1
  go_wp2_with fail
  refine (store_free d _ 0 b w2 HD2.out (by simp [store_lim, flush_lim, fresh_lim]) (by simp [store_len, flush_len, fresh_len])).mono ?_
  rintro e w3 ⟨rfl, hd3, hk3⟩
  have HD3 := Lib.hid hd3
  have HN : Hid (∀ n, n ≤ w1.heap.size → ∀ k ∈ d.blocks, n ≤ k) := fun n hn k hk => by have := HDB.out k hk; omega
  have HK3 : Hid (Keep w.heap.size [] w w3) := HK2.out.did hk3 HK2.out.size (HN.out _ (Nat.le_of_lt HW1.out))
  have HB3 := Lib.hid (HB2.out.keep hk3 HB2.out.lt (fun h => by have := HDB.out _ h; have := HW1.out; omega))
  clear hd3 hk3 HD2 HK2 HB2
  go_wp2_with fail
  refine (flush_free d _ 0 w3 HD3.out (by simp [store_lim, flush_lim, fresh_lim]) (by simp [store_len, flush_len, fresh_len])).mono ?_
  rintro e w4 ⟨rfl, hd4, hk4⟩
  have HD4 := Lib.hid hd4
  have HK4 : Hid (Keep w.heap.size [] w w4) := HK3.out.did hk4 HK3.out.size (HN.out _ (Nat.le_of_lt HW1.out))
  have HB4 := Lib.hid (HB3.out.keep hk4 HB3.out.lt (fun h => by have := HDB.out _ h; have := HW1.out; omega))
  clear hd4 hk4 HD3 HK3 HB3
  go_wp2_with fail
  refine (store_free d _ 0 c w4 HD4.out (by simp [store_lim, flush_lim, fresh_lim]) (by simp [store_len, flush_len, fresh_len])).mono ?_
  rintro e w5 ⟨rfl, hd5, hk5⟩
  have HD5 : Hid (Dev w5 d (ordA a b c)) := hd5
  have HK5 : Hid (Keep w.heap.size [] w w5) := HK4.out.did hk5 HK4.out.size (HN.out _ (Nat.le_of_lt HW1.out))
  have HB5 := Lib.hid (HB4.out.keep hk5 HB4.out.lt (fun h => by have := HDB.out _ h; have := HW1.out; omega))
  clear hd5 hk5 HD4 HK4 HB4
  go_wp2_with fail
  refine (new2_any _ [a] _ (Rd.of_blk (xs := uw [a]) (ex := []) (Blk.new w5 25 #[.int .u64 a])) (by simp)).mono ?_
  rintro x w6 ⟨e, rfl, hdb, he, hk6⟩
  have hk6' : Keep w5.heap.size [] w5 w6 := ((Keep.refl _ _ _).alloc (Nat.le_refl _) _).join hk6 (by simp) (by simp)
  have HK6 : Hid (Keep w.heap.size [] w w6) := HK5.out.join hk6' HK5.out.size (by simp)
  have HEB : Hid (∀ k ∈ e.blocks, w5.heap.size ≤ k) := fun k hk => by have := hdb k hk; simp at this; omega
  have HEN : Hid (∀ k ∈ e.blocks, w.heap.size ≤ k ∧ k ≠ w.heap.size) := fun k hk => by have := HEB.out k hk; have := HB5.out.lt; exact ⟨by omega, by omega⟩
  have HAP : Hid (∀ n, w5.heap.size ≤ n → ∀ k ∈ d.blocks, k < n ∧ k ∉ e.blocks) := fun n hn k hk => by
    have := HD5.out.lt k hk
    exact ⟨by omega, fun h => by have := HEB.out k h; omega⟩
  have HB6 := Lib.hid (HB5.out.keep hk6' HB5.out.lt (by simp))
  have HE6 := Lib.hid he
  have HD6 := Lib.hid (HD5.out.of_new hk6')
  have HLE6 : Hid (w5.heap.size ≤ w6.heap.size) := hk6'.size
  clear hdb he hk6 hk6' HK5 HB5 HD5
  go_wp2_with fail
  refine (store_free e _ 0 b w6 HE6.out (by simp [store_lim, flush_lim, fresh_lim]) (by simp [store_len, flush_len, fresh_len])).mono ?_
  rintro x w7 ⟨rfl, he7, hk7⟩
  have HE7 := Lib.hid he7
  have HD7 : Hid (Dev w7 d (ordA a b c)) := HD6.out.keep hk7 (HAP.out _ HLE6.out)
  have HLE7 : Hid (w5.heap.size ≤ w7.heap.size) := Nat.le_trans HLE6.out hk7.size
  have HK7 : Hid (Keep w.heap.size [] w w7) := HK6.out.did hk7 HK6.out.size (fun k hk => (HEN.out k hk).1)
  have HB7 := Lib.hid (HB6.out.keep hk7 HB6.out.lt (fun h => by exact (HEN.out _ h).2 rfl))
  clear he7 hk7 HE6 HD6 HLE6 HK6 HB6
  go_wp2_with fail
  refine (flush_free e _ 0 w7 HE7.out (by simp [store_lim, flush_lim, fresh_lim]) (by simp [store_len, flush_len, fresh_len])).mono ?_
  rintro x w8 ⟨rfl, he8, hk8⟩
  have HE8 := Lib.hid he8
  have HD8 : Hid (Dev w8 d (ordA a b c)) := HD7.out.keep hk8 (HAP.out _ HLE7.out)
  have HLE8 : Hid (w5.heap.size ≤ w8.heap.size) := Nat.le_trans HLE7.out hk8.size
  have HK8 : Hid (Keep w.heap.size [] w w8) := HK7.out.did hk8 HK7.out.size (fun k hk => (HEN.out k hk).1)
  have HB8 := Lib.hid (HB7.out.keep hk8 HB7.out.lt (fun h => by exact (HEN.out _ h).2 rfl))
  clear he8 hk8 HE7 HD7 HLE7 HK7 HB7
  go_wp2_with fail
  refine (store_free e _ 0 c w8 HE8.out (by simp [store_lim, flush_lim, fresh_lim]) (by simp [store_len, flush_len, fresh_len])).mono ?_
  rintro x w9 ⟨rfl, he9, hk9⟩
  have HE9 := Lib.hid he9
  have HD9 : Hid (Dev w9 d (ordA a b c)) := HD8.out.keep hk9 (HAP.out _ HLE8.out)
  have HLE9 : Hid (w5.heap.size ≤ w9.heap.size) := Nat.le_trans HLE8.out hk9.size
  have HK9 : Hid (Keep w.heap.size [] w w9) := HK8.out.did hk9 HK8.out.size (fun k hk => (HEN.out k hk).1)
  have HB9 := Lib.hid (HB8.out.keep hk9 HB8.out.lt (fun h => by exact (HEN.out _ h).2 rfl))
  clear he9 hk9 HE8 HD8 HLE8 HK8 HB8
  go_wp2_with fail
  refine (fence_free e _ w9 HE9.out (by simp [store_lim, flush_lim, fresh_lim]) ).mono ?_
  rintro x w10 ⟨rfl, he10, hk10⟩
  have HE10 : Hid (Dev w10 e (ordB a b c)) := he10
  have HD10 : Hid (Dev w10 d (ordA a b c)) := HD9.out.keep hk10 (HAP.out _ HLE9.out)
  have HLE10 : Hid (w5.heap.size ≤ w10.heap.size) := Nat.le_trans HLE9.out hk10.size
  have HK10 : Hid (Keep w.heap.size [] w w10) := HK9.out.did hk10 HK9.out.size (fun k hk => (HEN.out k hk).1)
  have HB10 := Lib.hid (HB9.out.keep hk10 HB9.out.lt (fun h => by exact (HEN.out _ h).2 rfl))
  clear he10 hk10 HE9 HD9 HLE9 HK9 HB9
  go_wp2_with fail
  obtain ⟨_, hAn, hAk, _⟩ := ordA_is a b c
  obtain ⟨_, hBn, hBk, _⟩ := ordB_is a b c
  have hwA : wordAt (ordA a b c).now 0 = c := by rw [hAn]; rfl
  have hwB : wordAt (ordB a b c).now 0 = c := by rw [hBn]; rfl
  refine (load_any d _ 0 w10 HD10.out).mono ?_
  rintro x w11 ⟨rfl, rfl⟩
  rw [hwA]
  go_wp2_with fail
  refine (load_any e _ 0 w10 HE10.out).mono ?_
  rintro x w11 ⟨rfl, rfl⟩
  rw [hwB]
  go_wp2_with fail
  refine (kept_any e _ w10 HE10.out).mono ?_
  rintro x w11 ⟨v, g11, ex11, rfl, hv, hb, hg, hk⟩
  rw [hBk] at hv hb
  rw [show (uw [b, 0, 0, 0, 0, 0, 0, 0]).length = 8 from rfl] at hv
  subst hv
  have hc11 : w11.cell? ⟨g11, 0, none⟩ = some (.int .u64 b) := by rw [hb.cell]; simp [uw]
  have HE11 := Lib.hid (HE10.out.of_new hk)
  have HD11 := Lib.hid (HD10.out.of_new hk)
  have HLE11 : Hid (w5.heap.size ≤ w11.heap.size) := Nat.le_trans HLE10.out hk.size
  have HK11 : Hid (Keep w.heap.size [] w w11) := HK10.out.join hk HK10.out.size (by simp)
  have HB11 := Lib.hid (HB10.out.keep hk HB10.out.lt (by simp))
  clear hb hg hk HE10 HD10 HLE10 HK10 HB10
  go_wp2_with fail
  clear hc11
  refine (kept_any e _ w11 HE11.out).mono ?_
  rintro x w12 ⟨v, g12, ex12, rfl, hv, hb, hg, hk⟩
  rw [hBk] at hv hb
  rw [show (uw [b, 0, 0, 0, 0, 0, 0, 0]).length = 8 from rfl] at hv
  subst hv
  have hc12 : w12.cell? ⟨g12, 0, none⟩ = some (.int .u64 b) := by rw [hb.cell]; simp [uw]
  have HE12 := Lib.hid (HE11.out.of_new hk)
  have HD12 := Lib.hid (HD11.out.of_new hk)
  have HLE12 : Hid (w5.heap.size ≤ w12.heap.size) := Nat.le_trans HLE11.out hk.size
  have HK12 : Hid (Keep w.heap.size [] w w12) := HK11.out.join hk HK11.out.size (by simp)
  have HB12 := Lib.hid (HB11.out.keep hk HB11.out.lt (by simp))
  clear hb hg hk HE11 HD11 HLE11 HK11 HB11
  go_wp2_with fail
  clear hc12
  refine (crash_any d _ 33 #[.pointer (some ⟨w.heap.size, 0, none⟩)] _ _ [] w12 HD12.out (chooses_bits _ w.heap.size bt _ d.blocks (enters_of Try.func33 (by kernel_rfl) rfl) (fun h => by have := HDB.out _ h; have := HW1.out; omega) (by rw [hAn]; simp)
    (fun k w hk hc => order_one k bt _ w t0 t1 hk hc)) HB12.out (by simp)).mono ?_
  rintro x w13 ⟨rfl, hd13, hb13, hk13⟩
  rw [List.append_nil] at hk13
  have HD13 := Lib.hid hd13
  have HB13 := Lib.hid hb13
  have HK13 : Hid (Keep w.heap.size [] w w13) := HK12.out.did hk13 HK12.out.size (HN.out _ (Nat.le_of_lt HW1.out))
  have HE13 := Lib.hid (HE12.out.keep hk13 fun k hk => ⟨HE12.out.lt k hk, fun h => (HAP.out w12.heap.size HLE12.out k h).2 hk⟩)
  have HLE13 : Hid (w5.heap.size ≤ w13.heap.size) := Nat.le_trans HLE12.out hk13.size
  clear hd13 hb13 hk13 HD12 HB12 HK12 HE12 HLE12
  go_wp2_with fail
  refine (crash_any e _ 35 #[.pointer (some ⟨w.heap.size, 0, none⟩)] _ _ [] w13 HE13.out (chooses_bits _ w.heap.size bt _ e.blocks (enters_of Try.func35 (by kernel_rfl) rfl) (fun h => (HEN.out _ h).2 rfl) (by rw [hBn]; simp)
    (fun k w hk hc => order_two k bt _ w t0 t1 hk hc)) HB13.out (by simp)).mono ?_
  rintro x w14 ⟨rfl, he14, hb14, hk14⟩
  rw [List.append_nil] at hk14
  have HE14 := Lib.hid he14
  have HB14 := Lib.hid hb14
  have HK14 : Hid (Keep w.heap.size [] w w14) := HK13.out.did hk14 HK13.out.size (fun k hk => (HEN.out k hk).1)
  have HD14 := Lib.hid (HD13.out.keep hk14 (HAP.out _ HLE13.out))
  clear he14 hb14 hk14 HE13 HB13 HK13 HD13 HLE13
  go_wp2_with fail
  refine (load_any d _ 0 w14 HD14.out).mono ?_
  rintro x w15 ⟨rfl, rfl⟩
  have hch := fun w => choice_any bt 0 w t0 t1 (by decide)
  obtain ⟨cz, hcz⟩ : ∃ cz, choiceOf bt 0 = cz := ⟨_, rfl⟩
  obtain ⟨x1, hx1⟩ : ∃ x1, wordAt ((ordA a b c).crash (choiceOf bt)).now 0 = x1 := ⟨_, rfl⟩
  obtain ⟨y1, hy1⟩ : ∃ y1, wordAt ((ordB a b c).crash (choiceOf bt)).now 0 = y1 := ⟨_, rfl⟩
  have hcs := choiceOf_small bt 0
  obtain ⟨r, hr⟩ : ∃ r : Nat, cz % 3 = r := ⟨(cz % 3).toNat, by omega⟩
  have hr3 : r < 3 := by omega
  have HX1 : Hid (#[Value.int .u64 a, .int .u64 b, .int .u64 c][r]? = some (.int .u64 x1)) := by
    rw [ordA_crash, hcz] at hx1
    have h3 : r = 0 ∨ r = 1 ∨ r = 2 := by omega
    rcases h3 with rfl | rfl | rfl
    · rw [if_neg (by omega), if_neg (by omega)] at hx1; rw [hx1]; rfl
    · rw [if_pos (by omega)] at hx1; rw [hx1]; rfl
    · rw [if_neg (by omega), if_pos (by omega)] at hx1; rw [hx1]; rfl
  have HY1 : Hid (#[Value.int .u64 b, .int .u64 b, .int .u64 c][r]? = some (.int .u64 y1)) := by
    rw [ordB_crash, hcz] at hy1
    have h3 : r = 0 ∨ r = 1 ∨ r = 2 := by omega
    rcases h3 with rfl | rfl | rfl
    · rw [if_neg (by omega)] at hy1; rw [hy1]; rfl
    · rw [if_neg (by omega)] at hy1; rw [hy1]; rfl
    · rw [if_pos (by omega)] at hy1; rw [hy1]; rfl
  rw [hx1]
  rw [hcz] at hch hcs
  clear hx1 hcz
  have hr3I : (r : Int) < 3 := by omega
  have hrt : cz.tmod 3 = (r : Int) := by rw [Int.tmod_eq_emod_of_nonneg hcs.1]; exact hr
  clear hr hcs
  have hld : ∀ y : Ext w14, Calls Try.prog 18 #[.pointer (some ⟨e.b, 0, none⟩), .int .i64 0] y.now fun e w' => e = .returned (.int .u64 y1) ∧ y.now = w' := fun y => by
    have := load_any e _ 0 y.now (HE14.out.of_new y.keep)
    rwa [hy1] at this
  have hbt : ∀ y : Ext w14, y.now.cell? ⟨w.heap.size, 0, none⟩ = some (.int .u64 bt) := fun y => y.cell (by simpa using HB14.out.cell 0)
  clear hy1
  go_wp2_with fail
  refine wp_region_rel (by kernel_rfl) (by kernel_rfl) (by kernel_rfl) ?_
  simp only [puts, Act.put, List.setIfInBounds_toArray, List.set_cons_succ, List.set_cons_zero, Nat.zero_add, Nat.reduceAdd]
  repeat (apply wpRel_is; (focus (intro u y K hK; simp only [sure, told, lay, Region.binds, List.getElem?_cons_zero, List.getElem?_cons_succ, List.getElem?_nil, if_true, Nat.reduceBEq, cond_true, cond_false]; intros; go_simp; simp only [yUpon]; with_reducible refine hK y (Keep.refl _ _ _))); simp only [List.nil_append, List.cons_append])
  refine wpRel_so (fun v w' => ∃ g, v = .slice (some ⟨g, 0, none⟩) 3 3 ∧ Blk w' g 25 #[.int .u64 a, .int .u64 b, .int .u64 c]) (fun v w1 w2 ⟨g, h, hb⟩ hk => ⟨g, h, hb.keep hk hb.lt (by simp)⟩) ?_ ?_
  · intro u y K hK
    simp only [sure, told, lay, Region.binds, List.getElem?_cons_zero, List.getElem?_cons_succ, List.getElem?_nil, if_true, Nat.reduceBEq, cond_true, cond_false]
    intros
    go_simp
    simp only [yUpon]
    exact hK _ ⟨y.now.alloc (.cells #[.int .u64 a, .int .u64 b, .int .u64 c] 25), y.keep.alloc y.keep.size _⟩ ((Keep.refl _ _ _).alloc (Nat.le_refl _) _) ⟨_, rfl, Blk.new y.now 25 _⟩
  simp only [List.nil_append, List.cons_append]
  repeat (apply wpRel_is; (focus (intro u y K hK; simp only [sure, told, lay, Region.binds, List.getElem?_cons_zero, List.getElem?_cons_succ, List.getElem?_nil, if_true, Nat.reduceBEq, cond_true, cond_false]; intros; go_simp; simp only [yUpon]; with_reducible refine hK y (Keep.refl _ _ _))); simp only [List.nil_append, List.cons_append])
  apply wpRel_is
  · intro u y K hK
    simp only [sure, told, lay, Region.binds, List.getElem?_cons_zero, List.getElem?_cons_succ, List.getElem?_nil, if_true, Nat.reduceBEq, cond_true, cond_false]
    intros
    go_simp
    simp only [yUpon]
    refine (hch y.now).mono ?_
    rintro e w' ⟨rfl, rfl⟩
    exact hK y (Keep.refl _ _ _)
  simp only [List.nil_append, List.cons_append]
  repeat (apply wpRel_is; (focus (intro u y K hK; simp only [sure, told, lay, Region.binds, List.getElem?_cons_zero, List.getElem?_cons_succ, List.getElem?_nil, if_true, Nat.reduceBEq, cond_true, cond_false]; intros; go_simp; simp only [yUpon]; with_reducible refine hK y (Keep.refl _ _ _))); simp only [List.nil_append, List.cons_append])
  refine wpRel_so (fun v w' => ∃ g, v = .pointer (some ⟨g, r, none⟩) ∧ w'.cell? ⟨g, r, none⟩ = some (.int .u64 x1)) (fun v w1 w2 ⟨g, h, hb⟩ hk => ⟨g, h, (World.cell?_of_block (hk.block g (World.block_lt_of_cell? w1 _ hb) (by simp))).trans hb⟩) ?_ ?_
  · intro u y K hK
    simp only [sure, told, lay, Region.binds, List.getElem?_cons_zero, List.getElem?_cons_succ, List.getElem?_nil, if_true, Nat.reduceBEq, cond_true, cond_false]
    rintro ⟨g, hu, hb⟩
    intros
    simp only [hu]
    go_simp
    simp only [yUpon]
    exact hK _ y (Keep.refl _ _ _) ⟨g, rfl, by rw [hb.cell]; exact HX1.out⟩
  simp only [List.nil_append, List.cons_append]
  apply wpRel_is
  · intro u y K hK
    simp only [sure, told, lay, Region.binds, List.getElem?_cons_zero, List.getElem?_cons_succ, List.getElem?_nil, if_true, Nat.reduceBEq, cond_true, cond_false]
    rintro ⟨g, hu, hc⟩
    intros
    simp only [hu]
    go_simp
    simp only [yUpon]
    exact hK y (Keep.refl _ _ _)
  simp only [List.nil_append, List.cons_append]
  repeat (apply wpRel_is; (focus (intro u y K hK; simp only [sure, told, lay, Region.binds, List.getElem?_cons_zero, List.getElem?_cons_succ, List.getElem?_nil, if_true, Nat.reduceBEq, cond_true, cond_false]; intros; go_simp; simp only [yUpon]; with_reducible refine hK y (Keep.refl _ _ _))); simp only [List.nil_append, List.cons_append])
  apply wpRel_is
  · intro u y K hK
    simp only [sure, told, lay, Region.binds, List.getElem?_cons_zero, List.getElem?_cons_succ, List.getElem?_nil, if_true, Nat.reduceBEq, cond_true, cond_false]
    intros
    go_simp
    simp only [yUpon]
    refine (hld y).mono ?_
    rintro e w' ⟨rfl, rfl⟩
    exact hK y (Keep.refl _ _ _)
  simp only [List.nil_append, List.cons_append]
  repeat (apply wpRel_is; (focus (intro u y K hK; simp only [sure, told, lay, Region.binds, List.getElem?_cons_zero, List.getElem?_cons_succ, List.getElem?_nil, if_true, Nat.reduceBEq, cond_true, cond_false]; intros; go_simp; simp only [yUpon]; with_reducible refine hK y (Keep.refl _ _ _))); simp only [List.nil_append, List.cons_append])
  refine wpRel_so (fun v w' => ∃ g, v = .slice (some ⟨g, 0, none⟩) 3 3 ∧ Blk w' g 25 #[.int .u64 b, .int .u64 b, .int .u64 c]) (fun v w1 w2 ⟨g, h, hb⟩ hk => ⟨g, h, hb.keep hk hb.lt (by simp)⟩) ?_ ?_
  · intro u y K hK
    simp only [sure, told, lay, Region.binds, List.getElem?_cons_zero, List.getElem?_cons_succ, List.getElem?_nil, if_true, Nat.reduceBEq, cond_true, cond_false]
    intros
    go_simp
    simp only [yUpon]
    exact hK _ ⟨y.now.alloc (.cells #[.int .u64 b, .int .u64 b, .int .u64 c] 25), y.keep.alloc y.keep.size _⟩ ((Keep.refl _ _ _).alloc (Nat.le_refl _) _) ⟨_, rfl, Blk.new y.now 25 _⟩
  simp only [List.nil_append, List.cons_append]
  repeat (apply wpRel_is; (focus (intro u y K hK; simp only [sure, told, lay, Region.binds, List.getElem?_cons_zero, List.getElem?_cons_succ, List.getElem?_nil, if_true, Nat.reduceBEq, cond_true, cond_false]; intros; go_simp; simp only [yUpon]; with_reducible refine hK y (Keep.refl _ _ _))); simp only [List.nil_append, List.cons_append])
  apply wpRel_is
  · intro u y K hK
    simp only [sure, told, lay, Region.binds, List.getElem?_cons_zero, List.getElem?_cons_succ, List.getElem?_nil, if_true, Nat.reduceBEq, cond_true, cond_false]
    intros
    go_simp
    simp only [yUpon]
    refine (hch y.now).mono ?_
    rintro e w' ⟨rfl, rfl⟩
    exact hK y (Keep.refl _ _ _)
  simp only [List.nil_append, List.cons_append]
  repeat (apply wpRel_is; (focus (intro u y K hK; simp only [sure, told, lay, Region.binds, List.getElem?_cons_zero, List.getElem?_cons_succ, List.getElem?_nil, if_true, Nat.reduceBEq, cond_true, cond_false]; intros; go_simp; simp only [yUpon]; with_reducible refine hK y (Keep.refl _ _ _))); simp only [List.nil_append, List.cons_append])
  refine wpRel_so (fun v w' => ∃ g, v = .pointer (some ⟨g, r, none⟩) ∧ w'.cell? ⟨g, r, none⟩ = some (.int .u64 y1)) (fun v w1 w2 ⟨g, h, hb⟩ hk => ⟨g, h, (World.cell?_of_block (hk.block g (World.block_lt_of_cell? w1 _ hb) (by simp))).trans hb⟩) ?_ ?_
  · intro u y K hK
    simp only [sure, told, lay, Region.binds, List.getElem?_cons_zero, List.getElem?_cons_succ, List.getElem?_nil, if_true, Nat.reduceBEq, cond_true, cond_false]
    rintro ⟨g, hu, hb⟩
    intros
    simp only [hu]
    go_simp
    simp only [yUpon]
    exact hK _ y (Keep.refl _ _ _) ⟨g, rfl, by rw [hb.cell]; exact HY1.out⟩
  simp only [List.nil_append, List.cons_append]
  apply wpRel_is
  · intro u y K hK
    simp only [sure, told, lay, Region.binds, List.getElem?_cons_zero, List.getElem?_cons_succ, List.getElem?_nil, if_true, Nat.reduceBEq, cond_true, cond_false]
    rintro ⟨g, hu, hc⟩
    intros
    simp only [hu]
    go_simp
    simp only [yUpon]
    exact hK y (Keep.refl _ _ _)
  simp only [List.nil_append, List.cons_append]
  repeat (apply wpRel_is; (focus (intro u y K hK; simp only [sure, told, lay, Region.binds, List.getElem?_cons_zero, List.getElem?_cons_succ, List.getElem?_nil, if_true, Nat.reduceBEq, cond_true, cond_false]; intros; go_simp; simp only [yUpon]; with_reducible refine hK y (Keep.refl _ _ _))); simp only [List.nil_append, List.cons_append])
  refine wpRel_nil ?_
  intro u y h
  have h25 : u 25 = .bool true := h 25 _ rfl
  have hk := y.keep
  have HY := Lib.hid hk
  clear h hk
  simp only [h25]
  go_wp2
  go_ret
  exact ⟨rfl, HK14.out.join HY.out HK14.out.size (by simp)⟩

theorem NvmOrder.walk {w : World} (a : Int) (_ : lowest .u64 ≤ a) (_ : a ≤ greatest .u64) (b : Int) (_ : lowest .u64 ≤ b) (_ : b ≤ greatest .u64) (c : Int) (_ : lowest .u64 ≤ c) (_ : c ≤ greatest .u64) (bt : Int) (t0 : lowest .u64 ≤ bt) (t1 : bt ≤ greatest .u64) :
    Calls Try.prog 7 #[.int .u64 a, .int .u64 b, .int .u64 c, .int .u64 bt] w fun e w' => e = .returned (.bool true) ∧ Below w.heap.size w w' := by
  simp [lowest, greatest] at t0 t1
  exact (NvmOrder.core a b c bt w t0 t1).mono fun e w' ⟨he, hk⟩ => ⟨he, hk.below⟩
end Go.Proofs.Ytanjmbjnpcekcaa
