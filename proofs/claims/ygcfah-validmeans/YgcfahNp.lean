/- wire.plain and wire.structs. -/
import Derived.Test.YgcfahNw
import Derived.Deep.RegionHeld3
import Derived.Deep.RegionWith
namespace Go.Proofs.Ygcfah
open Go.RowKit
set_option linter.unusedVariables false
set_option linter.unusedSimpArgs false
set_option maxRecDepth 100000 in
set_option maxHeartbeats 1000000 in
theorem nplain_no (a0 : Option Addr) (len cap : Nat) (to code n : Int) (c0 : 0 ≤ code) (c1 : code ≤ 7) (n0 : 0 ≤ n) (n1 : n ≤ 536870911) (h : code < 2 ∨ 6 < code ∨ 128 < n) (w : World) :
    Calls Fahg.prog 154 #[.agg #[.slice a0 len cap, .int .u16 1], .int .i32 to, .int .u8 code, .int .i32 n] w fun e w' => e = .returned (.tuple #[WP.nul.nval, .bool false]) ∧ Below w.heap.size w w' := by
  have h' : code < 2 ∨ (2 ≤ code ∧ 6 < code) ∨ (2 ≤ code ∧ code ≤ 6 ∧ 128 < n) := by omega
  clear h
  rcases h' with h | h | h
  all_goals
    go_enter Fahg.func154, Fahg.ntmps154
    go_wp2_with fail
    refine bodyPost_ret (v := .tuple #[WP.nul.nval, .bool false]) (by simp [results, Fahg.results154, go_sem, WP.nul, WP.nval]) rfl ⟨rfl, ?_⟩
    repeat' (first | exact Below.refl _ _ | refine Below.setCell ?_ (by simp) _ | refine below_drewN' ?_ _ | refine Below.drew ?_ | refine below_alloc ?_ (Nat.le_refl _) _)
set_option maxRecDepth 100000 in
set_option maxHeartbeats 1000000 in
theorem nplain_in (a0 : Option Addr) (len cap : Nat) (to code n : Int) (hl : len ≤ 256) (h0 : -2147483648 ≤ to) (h1 : to ≤ 1073741823) (c0 : 2 ≤ code) (c1 : code ≤ 6) (n0 : 0 ≤ n) (n1 : n ≤ 128) (w : World) (r : WP) (B : Bool)
    (hB : Hid (spansB to ((n * elBits code + 63) / 64) len = B)) (hr : r = if B then ⟨2, to, 0, 0, code, n⟩ else WP.nul) :
    Calls Fahg.prog 154 #[.agg #[.slice a0 len cap, .int .u16 1], .int .i32 to, .int .u8 code, .int .i32 n] w fun e w' => e = .returned (.tuple #[r.nval, .bool B]) ∧ Below w.heap.size w w' := by
  have be := elBits_bd code
  have m0 : 0 ≤ n * elBits code := Int.mul_nonneg n0 be.1
  have m1 : n * elBits code ≤ 128 * 64 := Int.mul_le_mul n1 be.2 be.1 (by omega)
  have hw := fun at_ w => nwords_l at_ 0 0 code n (by omega) (by omega) (by omega) (by omega) c0 c1 n0 n1 w
  obtain ⟨m, hm⟩ : ∃ m, m = (n * elBits code + 63) / 64 := ⟨_, rfl⟩
  have b0 : 0 ≤ m := by omega
  have b1 : m ≤ 257 := by omega
  rw [← hm] at hw hB
  have hs : ∀ (x : Int) (w : World), x = m → Calls Fahg.prog 152 #[.agg #[.slice a0 len cap, .int .u16 1], .int .i32 to, .int .i32 x] w fun e w' => e = .returned (.bool B) ∧ ∃ c nq, w' = (w.alloc (.cells c 262)).drewN nq := fun x w hx => by
    have := nspans_any a0 len cap to m hl h0 h1 (by omega) (by omega) w
    rw [hB.out] at this
    rw [hx]; exact this
  have HWM : Hid (IntKind.i32.wrap m = m) := by show _ = _; simp [IntKind.wrap, IntKind.bits, IntKind.signed]; omega
  have HW : Hid _ := hw
  have HS : Hid _ := hs
  have HTO : Hid (B = true → 0 ≤ to ∧ to ≤ 256) := fun hb => by
    have := hB.out
    rw [hb] at this
    have := spansB_to b0 this
    omega
  clear hw hs hm hB be m0 m1
  go_enter Fahg.func154, Fahg.ntmps154
  go_wp2_with fail
  obtain ⟨w3, hw3⟩ : ∃ w3, w3 = (((w.alloc (Obj.cells #[Value.slice a0 len cap, Value.int IntKind.u16 1] 262)).alloc (Obj.cells #[Value.int IntKind.u8 0, Value.int IntKind.u16 0, Value.int IntKind.u8 0, Value.int IntKind.u8 0, Value.int IntKind.u8 0, Value.int IntKind.u16 0] 34)).alloc (Obj.cells #[Value.int IntKind.u8 2, Value.int IntKind.u16 0, Value.int IntKind.u8 0, Value.int IntKind.u8 0, Value.int IntKind.u8 code, Value.int IntKind.u16 n] 34)) := ⟨_, rfl⟩
  rw [← hw3]
  have k1 : ∀ o, w3.cell? ⟨w.heap.size, o, none⟩ = #[Value.slice a0 len cap, Value.int IntKind.u16 1][o]? := fun o => by rw [hw3, World.cell?_alloc_past _ _ _ (by simp; omega), World.cell?_alloc_past _ _ _ (by simp), World.cell?_alloc_at _ _ _ _ rfl]
  have k2 : ∀ o, w3.cell? ⟨w.heap.size + 1, o, none⟩ = #[Value.int IntKind.u8 0, Value.int IntKind.u16 0, Value.int IntKind.u8 0, Value.int IntKind.u8 0, Value.int IntKind.u8 0, Value.int IntKind.u16 0][o]? := fun o => by rw [hw3, World.cell?_alloc_past _ _ _ (by simp), World.cell?_alloc_at _ _ _ _ (by simp)]
  have k3 : ∀ o, w3.cell? ⟨w.heap.size + 1 + 1, o, none⟩ = #[Value.int IntKind.u8 2, Value.int IntKind.u16 0, Value.int IntKind.u8 0, Value.int IntKind.u8 0, Value.int IntKind.u8 code, Value.int IntKind.u16 n][o]? := fun o => by rw [hw3, World.cell?_alloc_at _ _ _ _ (by simp)]
  have f2 : w3.frozen? ⟨w.heap.size + 1 + 1, 1, none⟩ = false := by rw [hw3]; simp [go_sem]
  have HB : Hid (Below w.heap.size w w3) := by rw [hw3]; exact below_alloc (below_alloc (below_alloc (Below.refl _ _) (Nat.le_refl _) _) (Nat.le_refl _) _) (Nat.le_refl _) _
  have hz3 : w.heap.size + 2 < w3.heap.size := by rw [hw3]; simp
  have hz4 : w.heap.size < w3.heap.size := by omega
  have hz5 : w.heap.size + 1 < w3.heap.size := by omega
  have a1 := k1 0
  have a2 := k1 1
  have r1 := k3 0
  have r2 := k3 1
  have r3 := k3 2
  have r4 := k3 3
  have r5 := k3 4
  have r6 := k3 5
  simp only [show ∀ a b c d e f : Value, #[a, b, c, d, e, f][0]? = some a from fun _ _ _ _ _ _ => rfl, show ∀ a b c d e f : Value, #[a, b, c, d, e, f][1]? = some b from fun _ _ _ _ _ _ => rfl, show ∀ a b c d e f : Value, #[a, b, c, d, e, f][2]? = some c from fun _ _ _ _ _ _ => rfl, show ∀ a b c d e f : Value, #[a, b, c, d, e, f][3]? = some d from fun _ _ _ _ _ _ => rfl, show ∀ a b c d e f : Value, #[a, b, c, d, e, f][4]? = some e from fun _ _ _ _ _ _ => rfl, show ∀ a b c d e f : Value, #[a, b, c, d, e, f][5]? = some f from fun _ _ _ _ _ _ => rfl, show ∀ a b : Value, #[a, b][0]? = some a from fun _ _ => rfl, show ∀ a b : Value, #[a, b][1]? = some b from fun _ _ => rfl] at r1 r2 r3 r4 r5 r6 a1 a2
  have HK2 : Hid _ := k2
  have HFN : Hid (∀ o, w3.frozen? ⟨w.heap.size + 1, o, none⟩ = false) := fun o => by rw [hw3]; simp [go_sem]
  clear hw3 k1 k2 k3
  go_region_held3 (fun w' => w'.cell? ⟨w.heap.size, 0, none⟩ = some (.slice a0 len cap) ∧ w'.cell? ⟨w.heap.size, 1, none⟩ = some (.int .u16 1) ∧ w'.cell? ⟨w.heap.size + 1 + 1, 0, none⟩ = some (.int .u8 2) ∧ w'.cell? ⟨w.heap.size + 1 + 1, 1, none⟩ = some (.int .u16 0) ∧ w'.cell? ⟨w.heap.size + 1 + 1, 2, none⟩ = some (.int .u8 0) ∧ w'.cell? ⟨w.heap.size + 1 + 1, 3, none⟩ = some (.int .u8 0) ∧ w'.cell? ⟨w.heap.size + 1 + 1, 4, none⟩ = some (.int .u8 code) ∧ w'.cell? ⟨w.heap.size + 1 + 1, 5, none⟩ = some (.int .u16 n)) (simp [go_sem, a1, a2, r1, r2, r3, r4, r5, r6, hz3, hz4, hz5])
    (first | (go_at_call 95; refine (HW.out _ _).mono ?_; rintro e wI ⟨rfl, cA, nA, rfl⟩) | (go_at_call 152; refine (HS.out _ _ (by first | rfl | exact HWM.out | omega)).mono ?_; rintro e wI ⟨rfl, cB, nB, rfl⟩))
  obtain ⟨w4, hw4⟩ : ∃ w4, w4 = ((((w3.alloc (Obj.cells cA 34)).drewN (1 + nA)).alloc (Obj.cells cB 262)).drewN nB) := ⟨_, rfl⟩
  rw [← hw4]
  have hb4 : Below w3.heap.size w3 w4 := by rw [hw4]; exact below_drewN' (below_alloc (below_drewN' (below_alloc (Below.refl _ _) (Nat.le_refl _) _) _) (Nat.le_refl _) _) _
  have s1 := (hb4.cell (p := ⟨w.heap.size + 1 + 1, 0, none⟩) hz3).trans r1
  have s2 := (hb4.cell (p := ⟨w.heap.size + 1 + 1, 1, none⟩) hz3).trans r2
  have s3 := (hb4.cell (p := ⟨w.heap.size + 1 + 1, 2, none⟩) hz3).trans r3
  have s4 := (hb4.cell (p := ⟨w.heap.size + 1 + 1, 3, none⟩) hz3).trans r4
  have s5 := (hb4.cell (p := ⟨w.heap.size + 1 + 1, 4, none⟩) hz3).trans r5
  have s6 := (hb4.cell (p := ⟨w.heap.size + 1 + 1, 5, none⟩) hz3).trans r6
  have g2 := (hb4.frozen (p := ⟨w.heap.size + 1 + 1, 1, none⟩) hz3).trans f2
  have t := fun o => (hb4.cell (p := ⟨w.heap.size + 1, o, none⟩) hz5).trans (HK2.out o)
  have t1 := t 0
  have t2 := t 1
  have t3 := t 2
  have t4 := t 3
  have t5 := t 4
  have t6 := t 5
  simp only [show ∀ a b c d e f : Value, #[a, b, c, d, e, f][0]? = some a from fun _ _ _ _ _ _ => rfl, show ∀ a b c d e f : Value, #[a, b, c, d, e, f][1]? = some b from fun _ _ _ _ _ _ => rfl, show ∀ a b c d e f : Value, #[a, b, c, d, e, f][2]? = some c from fun _ _ _ _ _ _ => rfl, show ∀ a b c d e f : Value, #[a, b, c, d, e, f][3]? = some d from fun _ _ _ _ _ _ => rfl, show ∀ a b c d e f : Value, #[a, b, c, d, e, f][4]? = some e from fun _ _ _ _ _ _ => rfl, show ∀ a b c d e f : Value, #[a, b, c, d, e, f][5]? = some f from fun _ _ _ _ _ _ => rfl] at t1 t2 t3 t4 t5 t6
  have gn : ∀ o, w4.frozen? ⟨w.heap.size + 1, o, none⟩ = false := fun o => (hb4.frozen (p := ⟨w.heap.size + 1, o, none⟩) hz5).trans (HFN.out o)
  have HB4 : Hid (Below w.heap.size w w4) := HB.out.trans (hb4.mono (by omega))
  clear hw4 hb4 r1 r2 r3 r4 r5 r6 f2 t HK2 a1 a2 HB HW HS HFN
  subst hr
  cases B with
  | false =>
    go_wp2_with fail
    refine bodyPost_ret (v := .tuple #[WP.nul.nval, .bool false]) (by simp [results, Fahg.results154, go_sem, WP.nul, WP.nval, t1, t2, t3, t4, t5, t6]) rfl ⟨rfl, ?_⟩
    repeat' (first | refine Below.setCell ?_ (by simp) _ | exact HB4.out)
  | true =>
    have hto := HTO.out rfl
    go_wp2_with fail
    refine bodyPost_ret (v := .tuple #[WP.nval ⟨2, to, 0, 0, code, n⟩, .bool true]) (by simp [results, Fahg.results154, go_sem, WP.nul, WP.nval, t1, t2, t3, t4, t5, t6, s1, s2, s3, s4, s5, s6]) rfl ⟨rfl, ?_⟩
    repeat' (first | refine Below.setCell ?_ (by simp <;> omega) _ | exact HB4.out)
/-- wire's structs: what a tag must be. -/
def ntB (t n : Int) : Bool := secOk t && decide (low2 t = 0) && decide (cnt30 t ≤ 128) && !(decide (secD t + secP t = 0) && decide (cnt30 t ≠ 0)) && decide (cnt30 t * (secD t + secP t) = n)
set_option maxRecDepth 100000 in
set_option maxHeartbeats 1000000 in
theorem nstructs_no (a0 : Option Addr) (len cap : Nat) (to n : Int) (hl : len ≤ 256) (h0 : -2147483648 ≤ to) (h1 : to ≤ 1073741823) (n0 : 0 ≤ n) (n1 : n ≤ 536870911) (hno : spansB to (n + 1) len = false) (w : World) :
    Calls Fahg.prog 153 #[.agg #[.slice a0 len cap, .int .u16 1], .int .i32 to, .int .i32 n] w fun e w' => e = .returned (.tuple #[WP.nul.nval, .bool false]) ∧ Below w.heap.size w w' := by
  have hs := fun w => nspans_any a0 len cap to (n + 1) hl h0 h1 (by omega) (by omega) w
  rw [hno] at hs
  have HS : Hid _ := hs
  clear hs hno
  go_enter Fahg.func153, Fahg.ntmps153
  go_wp2_with fail
  refine (HS.out _).mono ?_
  rintro e wI ⟨rfl, c, nq, rfl⟩
  go_wp2_with fail
  refine bodyPost_ret (v := .tuple #[WP.nul.nval, .bool false]) (by simp [results, Fahg.results153, go_sem, WP.nul, WP.nval]) rfl ⟨rfl, ?_⟩
  repeat' (first | refine Below.setCell ?_ (by simp) _ | refine below_drewN' ?_ _ | refine below_alloc ?_ (Nat.le_refl _) _ | exact Below.refl _ _)

set_option maxRecDepth 100000 in
set_option maxHeartbeats 1000000 in
theorem nstructs_yes (b off len cap : Nat) (to n t : Int) (hl : len ≤ 256) (n0 : 0 ≤ n) (h1 : 1 ≤ to) (h2 : to + (n + 1) ≤ len) (ht : U64 t) (w : World) (hc : w.cell? ⟨b, off + to.toNat, none⟩ = some (.int .u64 t)) (r : WP) (Bv : Bool) (hB : Hid (ntB t n = Bv)) (hr : Hid (r = if Bv then (⟨2, to + 1, secD t, secP t, 7, cnt30 t⟩ : WP) else WP.nul)) :
    Calls Fahg.prog 153 #[.agg #[.slice (some ⟨b, off, none⟩) len cap, .int .u16 1], .int .i32 to, .int .i32 n] w fun e w' => e = .returned (.tuple #[r.nval, .bool Bv]) ∧ Below w.heap.size w w' := by
  have hb : b < w.heap.size := World.block_lt_of_cell? w ⟨b, off + to.toNat, none⟩ hc
  have hs := fun w => nspans_any (some ⟨b, off, none⟩) len cap to (n + 1) hl (by omega) (by omega) (by omega) (by omega) w
  rw [show spansB to (n + 1) len = true from by unfold spansB; rw [if_neg (by omega)]; exact decide_eq_true (by omega)] at hs
  have HS : Hid _ := hs
  have HT : Hid (U64 t) := ht
  have b0 := low2_bd t
  have b1 := cnt30_bd t
  have b2 := secD_bd t
  have b3 := secP_bd t ht
  clear hs ht
  go_enter Fahg.func153, Fahg.ntmps153
  go_wp2_with fail
  refine (HS.out _).mono ?_
  rintro e w1 ⟨rfl, c, n2, hw1⟩
  have k1 : ∀ o, w1.cell? ⟨w.heap.size, o, none⟩ = #[Value.slice (some ⟨b, off, none⟩) len cap, Value.int IntKind.u16 1][o]? := fun o => by
    rw [hw1]
    exact (World.cell?_alloc_past _ _ _ (by simp; omega)).trans (cell_two_old w _ _ 262 34 o)
  have a1 := k1 0
  simp only [show ∀ a b : Value, #[a, b][0]? = some a from fun _ _ => rfl] at a1
  have hc1 : w1.cell? ⟨b, off + to.toNat, none⟩ = some (.int .u64 t) := by
    rw [hw1]
    exact (World.cell?_alloc_past _ _ _ (by simp; omega)).trans ((World.cell?_alloc_past _ _ _ (by simp; omega)).trans ((World.cell?_alloc_past _ _ _ hb).trans hc))
  have hnul : ∀ o, w1.cell? ⟨w.heap.size + 1, o, none⟩ = #[Value.int IntKind.u8 0, Value.int IntKind.u16 0, Value.int IntKind.u8 0, Value.int IntKind.u8 0, Value.int IntKind.u8 0, Value.int IntKind.u16 0][o]? := fun o => by
    rw [hw1]
    exact (World.cell?_alloc_past _ _ _ (by simp)).trans (World.cell?_alloc_at _ _ _ _ (by simp))
  have hfr : ∀ o, w1.frozen? ⟨w.heap.size + 1, o, none⟩ = false := fun o => by rw [hw1]; simp [go_sem]
  have HB1 : Hid (Below w.heap.size w w1) := by rw [hw1]; exact below_drewN' (below_alloc (below_alloc (below_alloc (Below.refl _ _) (Nat.le_refl _) _) (Nat.le_refl _) _) (Nat.le_refl _) _) _
  have hz1 : w.heap.size + 1 < w1.heap.size := by rw [hw1]; simp
  have t1 := hnul 0
  have t2 := hnul 1
  have t3 := hnul 2
  have t4 := hnul 3
  have t5 := hnul 4
  have t6 := hnul 5
  simp only [show ∀ a b c d e f : Value, #[a, b, c, d, e, f][0]? = some a from fun _ _ _ _ _ _ => rfl, show ∀ a b c d e f : Value, #[a, b, c, d, e, f][1]? = some b from fun _ _ _ _ _ _ => rfl, show ∀ a b c d e f : Value, #[a, b, c, d, e, f][2]? = some c from fun _ _ _ _ _ _ => rfl, show ∀ a b c d e f : Value, #[a, b, c, d, e, f][3]? = some d from fun _ _ _ _ _ _ => rfl, show ∀ a b c d e f : Value, #[a, b, c, d, e, f][4]? = some e from fun _ _ _ _ _ _ => rfl, show ∀ a b c d e f : Value, #[a, b, c, d, e, f][5]? = some f from fun _ _ _ _ _ _ => rfl] at t1 t2 t3 t4 t5 t6
  clear hw1 k1 hc hnul
  have HC30 : Hid (∀ w, Calls Fahg.prog 99 #[.int .u64 t, .int .u8 2, .int .u8 30] w fun e w' => e = .returned (.int .u64 (cnt30 t)) ∧ w' = w) := fun w => take_2_30 _ HT.out w
  have hmul0 : 0 ≤ cnt30 t * (secD t + secP t) := Int.mul_nonneg b1.1 (by omega)
  by_cases hs : secOk t = true
  rotate_left
  · have HN : Hid (ntB t n = false) := by show _ = _; simp [ntB, hs]
    have hs' : secOk t = false := by simpa using hs
    clear hs
    obtain rfl : Bv = false := hB.out.symm.trans HN.out
    obtain rfl : r = WP.nul := hr.out
    clear HN hB hr
    go_wp2_with fail
    refine (take_2_30 _ HT.out _).mono ?_; rintro e w' ⟨rfl, rfl⟩
    go_wp2_with fail
    refine (nsections_any _ HT.out _).mono ?_; rintro e w' ⟨rfl, rfl⟩
    go_wp2_with fail
    refine bodyPost_ret (v := .tuple #[WP.nul.nval, .bool false]) (by simp [results, Fahg.results153, go_sem, WP.nul, WP.nval, t1, t2, t3, t4, t5, t6]) rfl ⟨?_, ?_⟩
    · rfl
    · repeat' (first | refine Below.setCell ?_ (by simp) _ | exact HB1.out)
  by_cases hlo : low2 t = 0
  rotate_left
  · have HN : Hid (ntB t n = false) := by show _ = _; simp [ntB, hlo]
    have hlo' : (low2 t != 0) = true := by simpa using hlo
    clear hlo
    obtain rfl : Bv = false := hB.out.symm.trans HN.out
    obtain rfl : r = WP.nul := hr.out
    clear HN hB hr
    go_wp2_with fail
    refine (take_2_30 _ HT.out _).mono ?_; rintro e w' ⟨rfl, rfl⟩
    go_wp2_with fail
    refine (nsections_any _ HT.out _).mono ?_; rintro e w' ⟨rfl, rfl⟩
    go_wp2_with fail
    refine (take_0_2 _ HT.out _).mono ?_; rintro e w' ⟨rfl, rfl⟩
    go_wp2_with fail
    refine bodyPost_ret (v := .tuple #[WP.nul.nval, .bool false]) (by simp [results, Fahg.results153, go_sem, WP.nul, WP.nval, t1, t2, t3, t4, t5, t6]) rfl ⟨?_, ?_⟩
    · rfl
    · repeat' (first | refine Below.setCell ?_ (by simp) _ | exact HB1.out)
  by_cases hcn : cnt30 t ≤ 128
  rotate_left
  · have HN : Hid (ntB t n = false) := by show _ = _; simp [ntB, hcn]
    have hlo' : (low2 t != 0) = false := by simpa using hlo
    have hcn' : 128 < cnt30 t := by omega
    clear hcn hlo
    obtain rfl : Bv = false := hB.out.symm.trans HN.out
    obtain rfl : r = WP.nul := hr.out
    clear HN hB hr
    go_wp2_with fail
    refine (take_2_30 _ HT.out _).mono ?_; rintro e w' ⟨rfl, rfl⟩
    go_wp2_with fail
    refine (nsections_any _ HT.out _).mono ?_; rintro e w' ⟨rfl, rfl⟩
    go_wp2_with fail
    refine (take_0_2 _ HT.out _).mono ?_; rintro e w' ⟨rfl, rfl⟩
    go_wp2_with fail
    refine bodyPost_ret (v := .tuple #[WP.nul.nval, .bool false]) (by simp [results, Fahg.results153, go_sem, WP.nul, WP.nval, t1, t2, t3, t4, t5, t6]) rfl ⟨?_, ?_⟩
    · rfl
    · repeat' (first | refine Below.setCell ?_ (by simp) _ | exact HB1.out)
  have hmul1 : cnt30 t * (secD t + secP t) ≤ 128 * 16 := Int.mul_le_mul hcn (by omega) (by omega) (by omega)
  have hlo' : (low2 t != 0) = false := by simpa using hlo
  have HLO : Hid _ := hlo
  clear hlo
  by_cases hz : secD t + secP t = 0 ∧ cnt30 t ≠ 0
  · have HN : Hid (ntB t n = false) := by show _ = _; simp [ntB, hz]
    have hz1' : (secD t + secP t == 0) = true := by simpa using hz.1
    have hz2' : (cnt30 t != 0) = true := by simpa using hz.2
    clear hz
    obtain rfl : Bv = false := hB.out.symm.trans HN.out
    obtain rfl : r = WP.nul := hr.out
    clear HN hB hr
    go_wp2_with fail
    refine (take_2_30 _ HT.out _).mono ?_; rintro e w' ⟨rfl, rfl⟩
    go_wp2_with fail
    refine (nsections_any _ HT.out _).mono ?_; rintro e w' ⟨rfl, rfl⟩
    go_wp2_with fail
    refine (take_0_2 _ HT.out _).mono ?_; rintro e w' ⟨rfl, rfl⟩
    go_wp2_with fail
    refine bodyPost_ret (v := .tuple #[WP.nul.nval, .bool false]) (by simp [results, Fahg.results153, go_sem, WP.nul, WP.nval, t1, t2, t3, t4, t5, t6]) rfl ⟨?_, ?_⟩
    · rfl
    · repeat' (first | refine Below.setCell ?_ (by simp) _ | exact HB1.out)
  have hz' : (secD t + secP t == 0 && cnt30 t != 0) = false := by
    rw [Bool.and_eq_false_iff]
    by_cases h : secD t + secP t = 0
    · right; simp; by_cases h2 : cnt30 t = 0
      · exact h2
      · exact absurd ⟨h, h2⟩ hz
    · left; simpa using h
  have hzz : (secD t + secP t = 0 ∧ cnt30 t = 0) ∨ secD t + secP t ≠ 0 := by
    by_cases h : secD t + secP t = 0
    · left; refine ⟨h, ?_⟩; by_cases h2 : cnt30 t = 0
      · exact h2
      · exact absurd ⟨h, h2⟩ hz
    · exact .inr h
  clear hz' hz
  by_cases hp : cnt30 t * (secD t + secP t) = n
  rotate_left
  · have HN : Hid (ntB t n = false) := by show _ = _; simp [ntB, hp]
    obtain rfl : Bv = false := hB.out.symm.trans HN.out
    obtain rfl : r = WP.nul := hr.out
    clear HN hB hr
    rcases hzz with ⟨e1, e2⟩ | e1
    · have hn0 : ¬ n = 0 := fun h => hp (by rw [e2, h]; simp)
      have hE0 : (secD t + secP t == 0) = true := by simpa using e1
      clear e1 hp
      generalize cnt30 t = C at *
      subst e2
      go_wp2_with fail
      refine (HC30.out _).mono ?_; rintro e w' ⟨rfl, rfl⟩
      go_wp2_with fail
      refine (nsections_any _ HT.out _).mono ?_; rintro e w' ⟨rfl, rfl⟩
      go_wp2_with fail
      refine (take_0_2 _ HT.out _).mono ?_; rintro e w' ⟨rfl, rfl⟩
      go_wp2_with fail
      refine bodyPost_ret (v := .tuple #[WP.nul.nval, .bool false]) (by simp [results, Fahg.results153, go_sem, WP.nul, WP.nval, t1, t2, t3, t4, t5, t6]) rfl ⟨?_, ?_⟩
      · rfl
      · repeat' (first | refine Below.setCell ?_ (by simp) _ | exact HB1.out)
    · have hE0 : (secD t + secP t == 0) = false := by simpa using e1
      have hp' : (cnt30 t * (secD t + secP t) != n) = true := by simpa using hp
      clear e1 hp
      go_wp2_with fail
      refine (take_2_30 _ HT.out _).mono ?_; rintro e w' ⟨rfl, rfl⟩
      go_wp2_with fail
      refine (nsections_any _ HT.out _).mono ?_; rintro e w' ⟨rfl, rfl⟩
      go_wp2_with fail
      refine (take_0_2 _ HT.out _).mono ?_; rintro e w' ⟨rfl, rfl⟩
      go_wp2_with fail
      refine bodyPost_ret (v := .tuple #[WP.nul.nval, .bool false]) (by simp [results, Fahg.results153, go_sem, WP.nul, WP.nval, t1, t2, t3, t4, t5, t6]) rfl ⟨?_, ?_⟩
      · rfl
      · repeat' (first | refine Below.setCell ?_ (by simp) _ | exact HB1.out)
  have HN : Hid (ntB t n = true) := by
    show _ = _
    simp only [ntB, hs, hp, HLO.out]
    rcases hzz with ⟨e1, e2⟩ | e1
    · simp [e2]
    · simp [e1, hcn]
  obtain rfl : Bv = true := hB.out.symm.trans HN.out
  obtain rfl : r = ⟨2, to + 1, secD t, secP t, 7, cnt30 t⟩ := hr.out
  clear HN hB hr
  rcases hzz with ⟨e1, e2⟩ | e1
  · have hn0 : n = 0 := by rw [← hp, e2]; simp
    have hE0 : (secD t + secP t == 0) = true := by simpa using e1
    clear e1 hp
    generalize hCC : cnt30 t = C at *
    have HCC : Hid _ := hCC
    clear hCC
    subst e2
    subst hn0
    go_wp2_with fail
    refine (HC30.out _).mono ?_; rintro e w' ⟨rfl, rfl⟩
    go_wp2_with fail
    refine (nsections_any _ HT.out _).mono ?_; rintro e w' ⟨rfl, rfl⟩
    go_wp2_with fail
    refine (take_0_2 _ HT.out _).mono ?_; rintro e w' ⟨rfl, rfl⟩
    go_wp2_with fail
    refine bodyPost_ret (v := .tuple #[WP.nval ⟨2, to + 1, secD t, secP t, 7, 0⟩, .bool true]) (by simp [results, Fahg.results153, go_sem, WP.nul, WP.nval, t1, t2, t3, t4, t5, t6]) rfl ⟨?_, ?_⟩
    · rw [HCC.out]
    · repeat' (first | refine Below.setCell ?_ (by simp) _ | exact HB1.out)
  · have hE0 : (secD t + secP t == 0) = false := by simpa using e1
    have hp' : (cnt30 t * (secD t + secP t) != n) = false := by simpa using hp
    clear e1 hp
    go_wp2_with fail
    refine (take_2_30 _ HT.out _).mono ?_; rintro e w' ⟨rfl, rfl⟩
    go_wp2_with fail
    refine (nsections_any _ HT.out _).mono ?_; rintro e w' ⟨rfl, rfl⟩
    go_wp2_with fail
    refine (take_0_2 _ HT.out _).mono ?_; rintro e w' ⟨rfl, rfl⟩
    go_wp2_with fail
    refine bodyPost_ret (v := .tuple #[WP.nval ⟨2, to + 1, secD t, secP t, 7, cnt30 t⟩, .bool true]) (by simp [results, Fahg.results153, go_sem, WP.nul, WP.nval, t1, t2, t3, t4, t5, t6]) rfl ⟨?_, ?_⟩
    · rfl
    · repeat' (first | refine Below.setCell ?_ (by simp) _ | exact HB1.out)
end Go.Proofs.Ygcfah
