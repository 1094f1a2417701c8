/- wire.ResolveWord and wire.Resolve. -/
import Derived.Test.YgcfahNp
namespace Go.Proofs.Ygcfah
open Go.RowKit
set_option linter.unusedVariables false
set_option linter.unusedSimpArgs false

def nWds (code n : Int) : Int := (n * elBits code + 63) / 64
/-- What wire.Resolve makes of word at_. -/
def rsn (z : Int → Int) (size at_ : Int) : WP × Bool :=
  if z at_ = 0 then (WP.nul, true)
  else if low2 (z at_) = 0 then
    if secOk (z at_) && spansB (rTo at_ (z at_)) (secD (z at_) + secP (z at_)) size then (⟨1, rTo at_ (z at_), secD (z at_), secP (z at_), 0, 0⟩, true) else (WP.nul, false)
  else if low2 (z at_) = 1 then
    if code3 (z at_) = 7 then
      if spansB (rTo at_ (z at_)) (cnt29 (z at_) + 1) size && ntB (z (rTo at_ (z at_))) (cnt29 (z at_)) then (⟨2, rTo at_ (z at_) + 1, secD (z (rTo at_ (z at_))), secP (z (rTo at_ (z at_))), 7, cnt30 (z (rTo at_ (z at_)))⟩, true) else (WP.nul, false)
    else if (decide (2 ≤ code3 (z at_)) && decide (cnt29 (z at_) ≤ 128)) && spansB (rTo at_ (z at_)) (nWds (code3 (z at_)) (cnt29 (z at_))) size then (⟨2, rTo at_ (z at_), 0, 0, code3 (z at_), cnt29 (z at_)⟩, true) else (WP.nul, false)
  else (WP.nul, false)

set_option maxRecDepth 100000 in
set_option maxHeartbeats 1000000 in
theorem resw_bad (a0 : Option Addr) (len cap : Nat) (at_ x : Int) (h0 : 0 ≤ at_) (h1 : at_ < len) (hl : len ≤ 256) (w : World) (hu : U64 x) (x0 : (x == 0) = false) (g0 : 2 ≤ low2 x) :
    Calls Fahg.prog 113 #[.slice a0 len cap, .int .u64 x, .int .u16 (at_ + 1), .int .u16 1] w fun e w' => e = .returned (.tuple #[WP.nul.nval, .bool false]) ∧ Below w.heap.size w w' := by
  have hbd := sgn30_bd (x / 4)
  have hlo := low2_bd x
  have hU : Hid (U64 x) := hu
  have hU4 : Hid (U64 (x / 4)) := div4_u64 _ hu
  have b4 := cnt29_bd x hu
  have b5 := code3_bd x
  have b2 := secD_bd x
  have b3 := secP_bd x hu
  clear hu
  have g1 : (low2 x == 0) = false := by simp; omega
  have g2 : (low2 x == 1) = false := by simp; omega
  go_enter Fahg.func113, Fahg.ntmps113
  go_wp2_with fail
  refine (sign30_any _ hU4.out _).mono ?_; rintro e w' ⟨rfl, rfl⟩
  go_wp2_with fail
  refine (take_0_2 _ hU.out _).mono ?_; rintro e w' ⟨rfl, rfl⟩
  go_wp2_with fail
  go_wp2_with fail
  refine bodyPost_ret (v := .tuple #[WP.nul.nval, .bool false]) (by simp [results, Fahg.results113, go_sem, WP.nul, WP.nval]) rfl ⟨rfl, ?_⟩
  repeat' (first | refine Below.setCell ?_ (by simp) _ | refine below_drewN' ?_ _ | refine below_alloc ?_ (Nat.le_refl _) _ | exact Below.refl _ _)

set_option maxRecDepth 100000 in
set_option maxHeartbeats 1000000 in
theorem resw_sec_no (a0 : Option Addr) (len cap : Nat) (at_ x : Int) (h0 : 0 ≤ at_) (h1 : at_ < len) (hl : len ≤ 256) (w : World) (hu : U64 x) (x0 : (x == 0) = false) (g0 : low2 x = 0) (hs : secOk x = false) :
    Calls Fahg.prog 113 #[.slice a0 len cap, .int .u64 x, .int .u16 (at_ + 1), .int .u16 1] w fun e w' => e = .returned (.tuple #[WP.nul.nval, .bool false]) ∧ Below w.heap.size w w' := by
  have hbd := sgn30_bd (x / 4)
  have hlo := low2_bd x
  have hU : Hid (U64 x) := hu
  have hU4 : Hid (U64 (x / 4)) := div4_u64 _ hu
  have b4 := cnt29_bd x hu
  have b5 := code3_bd x
  have b2 := secD_bd x
  have b3 := secP_bd x hu
  clear hu
  skip
  go_enter Fahg.func113, Fahg.ntmps113
  go_wp2_with fail
  refine (sign30_any _ hU4.out _).mono ?_; rintro e w' ⟨rfl, rfl⟩
  go_wp2_with fail
  refine (take_0_2 _ hU.out _).mono ?_; rintro e w' ⟨rfl, rfl⟩
  go_wp2_with fail
  refine (nsections_any _ hU.out _).mono ?_; rintro e w' ⟨rfl, rfl⟩
  go_wp2_with fail
  go_wp2_with fail
  refine bodyPost_ret (v := .tuple #[WP.nul.nval, .bool false]) (by simp [results, Fahg.results113, go_sem, WP.nul, WP.nval]) rfl ⟨rfl, ?_⟩
  repeat' (first | refine Below.setCell ?_ (by simp) _ | refine below_drewN' ?_ _ | refine below_alloc ?_ (Nat.le_refl _) _ | exact Below.refl _ _)

set_option maxRecDepth 100000 in
set_option maxHeartbeats 1000000 in
theorem resw_sec_out (a0 : Option Addr) (len cap : Nat) (at_ x : Int) (h0 : 0 ≤ at_) (h1 : at_ < len) (hl : len ≤ 256) (w : World) (hu : U64 x) (x0 : (x == 0) = false) (g0 : low2 x = 0) (hs : secOk x = true) (hsp : spansB (rTo at_ x) (secD x + secP x) len = false) :
    Calls Fahg.prog 113 #[.slice a0 len cap, .int .u64 x, .int .u16 (at_ + 1), .int .u16 1] w fun e w' => e = .returned (.tuple #[WP.nul.nval, .bool false]) ∧ Below w.heap.size w w' := by
  have hbd := sgn30_bd (x / 4)
  have hlo := low2_bd x
  have hU : Hid (U64 x) := hu
  have hU4 : Hid (U64 (x / 4)) := div4_u64 _ hu
  have b4 := cnt29_bd x hu
  have b5 := code3_bd x
  have b2 := secD_bd x
  have b3 := secP_bd x hu
  clear hu
  unfold rTo at hsp
  go_enter Fahg.func113, Fahg.ntmps113
  go_wp2_with fail
  refine (sign30_any _ hU4.out _).mono ?_; rintro e w' ⟨rfl, rfl⟩
  go_wp2_with fail
  refine (take_0_2 _ hU.out _).mono ?_; rintro e w' ⟨rfl, rfl⟩
  go_wp2_with fail
  refine (nsections_any _ hU.out _).mono ?_; rintro e w' ⟨rfl, rfl⟩
  go_wp2_with fail
  refine (nspans_any _ _ _ _ _ hl (by omega) (by omega) (by omega) (by omega) _).mono ?_
  rintro e w1 ⟨rfl, c, n2, hw1⟩
  have hb1 : Below ((w.alloc (Obj.cells #[Value.int IntKind.u8 0, Value.int IntKind.u16 0, Value.int IntKind.u8 0, Value.int IntKind.u8 0, Value.int IntKind.u8 0, Value.int IntKind.u16 0] 34)).alloc (Obj.cells #[Value.slice a0 len cap, Value.int IntKind.u16 1] 262)).heap.size ((w.alloc (Obj.cells #[Value.int IntKind.u8 0, Value.int IntKind.u16 0, Value.int IntKind.u8 0, Value.int IntKind.u8 0, Value.int IntKind.u8 0, Value.int IntKind.u16 0] 34)).alloc (Obj.cells #[Value.slice a0 len cap, Value.int IntKind.u16 1] 262)) w1 := by rw [hw1]; exact below_drewN' (below_alloc (Below.refl _ _) (Nat.le_refl _) _) _
  clear hw1
  have hbb : Below w.heap.size w w1 := (below_alloc (below_alloc (Below.refl w.heap.size w) (Nat.le_refl _) _) (Nat.le_refl _) _).trans (hb1.mono (by simp; omega))
  have q := fun o => (hb1.cell (p := ⟨w.heap.size, o, none⟩) (by simp; omega)).trans (cell_two_old w _ _ 34 262 o)
  have hfr : ∀ o, w1.frozen? ⟨w.heap.size, o, none⟩ = false := fun o => (hb1.frozen (p := ⟨w.heap.size, o, none⟩) (by simp; omega)).trans (by simp [go_sem])
  have t1 := q 0
  have t2 := q 1
  have t3 := q 2
  have t4 := q 3
  have t5 := q 4
  have t6 := q 5
  simp only [show ∀ a b c d e f : Value, #[a, b, c, d, e, f][0]? = some a from fun _ _ _ _ _ _ => rfl, show ∀ a b c d e f : Value, #[a, b, c, d, e, f][1]? = some b from fun _ _ _ _ _ _ => rfl, show ∀ a b c d e f : Value, #[a, b, c, d, e, f][2]? = some c from fun _ _ _ _ _ _ => rfl, show ∀ a b c d e f : Value, #[a, b, c, d, e, f][3]? = some d from fun _ _ _ _ _ _ => rfl, show ∀ a b c d e f : Value, #[a, b, c, d, e, f][4]? = some e from fun _ _ _ _ _ _ => rfl, show ∀ a b c d e f : Value, #[a, b, c, d, e, f][5]? = some f from fun _ _ _ _ _ _ => rfl] at t1 t2 t3 t4 t5 t6
  have HBB : Hid _ := hbb
  clear hb1 hbb q
  rw [hsp]
  go_wp2_with fail
  refine bodyPost_ret (v := .tuple #[WP.nul.nval, .bool false]) (by simp [results, Fahg.results113, go_sem, WP.nul, WP.nval, t1, t2, t3, t4, t5, t6]) rfl ⟨rfl, ?_⟩
  repeat' (first | refine Below.setCell ?_ (by simp) _ | exact HBB.out)

set_option maxRecDepth 100000 in
set_option maxHeartbeats 1000000 in
theorem resw_sec (a0 : Option Addr) (len cap : Nat) (at_ x : Int) (h0 : 0 ≤ at_) (h1 : at_ < len) (hl : len ≤ 256) (w : World) (hu : U64 x) (x0 : (x == 0) = false) (g0 : low2 x = 0) (hs : secOk x = true) (hsp : spansB (rTo at_ x) (secD x + secP x) len = true) :
    Calls Fahg.prog 113 #[.slice a0 len cap, .int .u64 x, .int .u16 (at_ + 1), .int .u16 1] w fun e w' => e = .returned (.tuple #[WP.nval ⟨1, rTo at_ x, secD x, secP x, 0, 0⟩, .bool true]) ∧ Below w.heap.size w w' := by
  have hbd := sgn30_bd (x / 4)
  have hlo := low2_bd x
  have hU : Hid (U64 x) := hu
  have hU4 : Hid (U64 (x / 4)) := div4_u64 _ hu
  have b4 := cnt29_bd x hu
  have b5 := code3_bd x
  have b2 := secD_bd x
  have b3 := secP_bd x hu
  clear hu
  have ht := spansB_to (by omega) hsp
  unfold rTo at ht hsp ⊢
  go_enter Fahg.func113, Fahg.ntmps113
  go_wp2_with fail
  refine (sign30_any _ hU4.out _).mono ?_; rintro e w' ⟨rfl, rfl⟩
  go_wp2_with fail
  refine (take_0_2 _ hU.out _).mono ?_; rintro e w' ⟨rfl, rfl⟩
  go_wp2_with fail
  refine (nsections_any _ hU.out _).mono ?_; rintro e w' ⟨rfl, rfl⟩
  go_wp2_with fail
  refine (nspans_any _ _ _ _ _ hl (by omega) (by omega) (by omega) (by omega) _).mono ?_
  rintro e w1 ⟨rfl, c, n2, hw1⟩
  have hb1 : Below ((w.alloc (Obj.cells #[Value.int IntKind.u8 0, Value.int IntKind.u16 0, Value.int IntKind.u8 0, Value.int IntKind.u8 0, Value.int IntKind.u8 0, Value.int IntKind.u16 0] 34)).alloc (Obj.cells #[Value.slice a0 len cap, Value.int IntKind.u16 1] 262)).heap.size ((w.alloc (Obj.cells #[Value.int IntKind.u8 0, Value.int IntKind.u16 0, Value.int IntKind.u8 0, Value.int IntKind.u8 0, Value.int IntKind.u8 0, Value.int IntKind.u16 0] 34)).alloc (Obj.cells #[Value.slice a0 len cap, Value.int IntKind.u16 1] 262)) w1 := by rw [hw1]; exact below_drewN' (below_alloc (Below.refl _ _) (Nat.le_refl _) _) _
  clear hw1
  have hbb : Below w.heap.size w w1 := (below_alloc (below_alloc (Below.refl w.heap.size w) (Nat.le_refl _) _) (Nat.le_refl _) _).trans (hb1.mono (by simp; omega))
  have q := fun o => (hb1.cell (p := ⟨w.heap.size, o, none⟩) (by simp; omega)).trans (cell_two_old w _ _ 34 262 o)
  have hfr : ∀ o, w1.frozen? ⟨w.heap.size, o, none⟩ = false := fun o => (hb1.frozen (p := ⟨w.heap.size, o, none⟩) (by simp; omega)).trans (by simp [go_sem])
  have t1 := q 0
  have t2 := q 1
  have t3 := q 2
  have t4 := q 3
  have t5 := q 4
  have t6 := q 5
  simp only [show ∀ a b c d e f : Value, #[a, b, c, d, e, f][0]? = some a from fun _ _ _ _ _ _ => rfl, show ∀ a b c d e f : Value, #[a, b, c, d, e, f][1]? = some b from fun _ _ _ _ _ _ => rfl, show ∀ a b c d e f : Value, #[a, b, c, d, e, f][2]? = some c from fun _ _ _ _ _ _ => rfl, show ∀ a b c d e f : Value, #[a, b, c, d, e, f][3]? = some d from fun _ _ _ _ _ _ => rfl, show ∀ a b c d e f : Value, #[a, b, c, d, e, f][4]? = some e from fun _ _ _ _ _ _ => rfl, show ∀ a b c d e f : Value, #[a, b, c, d, e, f][5]? = some f from fun _ _ _ _ _ _ => rfl] at t1 t2 t3 t4 t5 t6
  have HBB : Hid _ := hbb
  clear hb1 hbb q
  rw [hsp]
  go_wp2_with fail
  refine bodyPost_ret (v := .tuple #[WP.nval ⟨1, at_ + 1 + sgn30 (x / 4), secD x, secP x, 0, 0⟩, .bool true]) (by simp [results, Fahg.results113, go_sem, WP.nul, WP.nval, t1, t2, t3, t4, t5, t6]) rfl ⟨rfl, ?_⟩
  repeat' (first | refine Below.setCell ?_ (by simp) _ | exact HBB.out)

set_option maxRecDepth 100000 in
set_option maxHeartbeats 1000000 in
theorem resw_list (a0 : Option Addr) (len cap : Nat) (at_ x : Int) (h0 : 0 ≤ at_) (h1 : at_ < len) (hl : len ≤ 256) (w : World) (hu : U64 x) (x0 : (x == 0) = false) (g0 : low2 x = 1) (hc7 : code3 x ≤ 6) (r : WP) (Bv : Bool) (HC : Hid (∀ w, Calls Fahg.prog 154 #[.agg #[.slice a0 len cap, .int .u16 1], .int .i32 (rTo at_ x), .int .u8 (code3 x), .int .i32 (cnt29 x)] w fun e w' => e = .returned (.tuple #[r.nval, .bool Bv]) ∧ Below w.heap.size w w')) :
    Calls Fahg.prog 113 #[.slice a0 len cap, .int .u64 x, .int .u16 (at_ + 1), .int .u16 1] w fun e w' => e = .returned (.tuple #[r.nval, .bool Bv]) ∧ Below w.heap.size w w' := by
  have hbd := sgn30_bd (x / 4)
  have hlo := low2_bd x
  have hU : Hid (U64 x) := hu
  have hU4 : Hid (U64 (x / 4)) := div4_u64 _ hu
  have b4 := cnt29_bd x hu
  have b5 := code3_bd x
  have b2 := secD_bd x
  have b3 := secP_bd x hu
  clear hu
  have g1 : (low2 x == 0) = false := by simp; omega
  have g3 : (code3 x == 7) = false := by simp; omega
  unfold rTo at HC
  obtain ⟨r1, r2, r3, r4, r5, r6⟩ := r
  simp only [WP.nval] at HC ⊢
  go_enter Fahg.func113, Fahg.ntmps113
  go_wp2_with fail
  refine (sign30_any _ hU4.out _).mono ?_; rintro e w' ⟨rfl, rfl⟩
  go_wp2_with fail
  refine (take_0_2 _ hU.out _).mono ?_; rintro e w' ⟨rfl, rfl⟩
  go_wp2_with fail
  refine (take_32_3 _ hU.out _).mono ?_; rintro e w' ⟨rfl, rfl⟩
  go_wp2_with fail
  refine (take_35_29 _ hU.out _).mono ?_; rintro e w' ⟨rfl, rfl⟩
  go_wp2_with fail
  refine (HC.out _).mono ?_
  rintro e w1 ⟨rfl, hb1⟩
  have hbb : Below w.heap.size w w1 := (below_alloc (below_alloc (Below.refl w.heap.size w) (Nat.le_refl _) _) (Nat.le_refl _) _).trans (hb1.mono (by simp; omega))
  have q := fun o => (hb1.cell (p := ⟨w.heap.size, o, none⟩) (by simp; omega)).trans (cell_two_old w _ _ 34 262 o)
  have hfr : ∀ o, w1.frozen? ⟨w.heap.size, o, none⟩ = false := fun o => (hb1.frozen (p := ⟨w.heap.size, o, none⟩) (by simp; omega)).trans (by simp [go_sem])
  have t1 := q 0
  have t2 := q 1
  have t3 := q 2
  have t4 := q 3
  have t5 := q 4
  have t6 := q 5
  simp only [show ∀ a b c d e f : Value, #[a, b, c, d, e, f][0]? = some a from fun _ _ _ _ _ _ => rfl, show ∀ a b c d e f : Value, #[a, b, c, d, e, f][1]? = some b from fun _ _ _ _ _ _ => rfl, show ∀ a b c d e f : Value, #[a, b, c, d, e, f][2]? = some c from fun _ _ _ _ _ _ => rfl, show ∀ a b c d e f : Value, #[a, b, c, d, e, f][3]? = some d from fun _ _ _ _ _ _ => rfl, show ∀ a b c d e f : Value, #[a, b, c, d, e, f][4]? = some e from fun _ _ _ _ _ _ => rfl, show ∀ a b c d e f : Value, #[a, b, c, d, e, f][5]? = some f from fun _ _ _ _ _ _ => rfl] at t1 t2 t3 t4 t5 t6
  have HBB : Hid _ := hbb
  clear hb1 hbb q
  go_wp2_with fail
  refine bodyPost_ret (v := .tuple #[.agg #[.int .u8 r1, .int .u16 r2, .int .u8 r3, .int .u8 r4, .int .u8 r5, .int .u16 r6], .bool Bv]) (by simp [results, Fahg.results113, go_sem, WP.nul, WP.nval, t1, t2, t3, t4, t5, t6]) rfl ⟨rfl, ?_⟩
  repeat' (first | refine Below.setCell ?_ (by simp) _ | exact HBB.out)

set_option maxRecDepth 100000 in
set_option maxHeartbeats 1000000 in
theorem resw_tag (a0 : Option Addr) (len cap : Nat) (at_ x : Int) (h0 : 0 ≤ at_) (h1 : at_ < len) (hl : len ≤ 256) (w : World) (hu : U64 x) (x0 : (x == 0) = false) (g0 : low2 x = 1) (hc7 : code3 x = 7) (r : WP) (Bv : Bool) (HC : Hid (∀ w', Below w.heap.size w w' → Calls Fahg.prog 153 #[.agg #[.slice a0 len cap, .int .u16 1], .int .i32 (rTo at_ x), .int .i32 (cnt29 x)] w' fun e w2 => e = .returned (.tuple #[r.nval, .bool Bv]) ∧ Below w'.heap.size w' w2)) :
    Calls Fahg.prog 113 #[.slice a0 len cap, .int .u64 x, .int .u16 (at_ + 1), .int .u16 1] w fun e w' => e = .returned (.tuple #[r.nval, .bool Bv]) ∧ Below w.heap.size w w' := by
  have hbd := sgn30_bd (x / 4)
  have hlo := low2_bd x
  have hU : Hid (U64 x) := hu
  have hU4 : Hid (U64 (x / 4)) := div4_u64 _ hu
  have b4 := cnt29_bd x hu
  have b5 := code3_bd x
  have b2 := secD_bd x
  have b3 := secP_bd x hu
  clear hu
  have g1 : (low2 x == 0) = false := by simp; omega
  unfold rTo at HC
  obtain ⟨r1, r2, r3, r4, r5, r6⟩ := r
  simp only [WP.nval] at HC ⊢
  go_enter Fahg.func113, Fahg.ntmps113
  go_wp2_with fail
  refine (sign30_any _ hU4.out _).mono ?_; rintro e w' ⟨rfl, rfl⟩
  go_wp2_with fail
  refine (take_0_2 _ hU.out _).mono ?_; rintro e w' ⟨rfl, rfl⟩
  go_wp2_with fail
  refine (take_32_3 _ hU.out _).mono ?_; rintro e w' ⟨rfl, rfl⟩
  go_wp2_with fail
  refine (take_35_29 _ hU.out _).mono ?_; rintro e w' ⟨rfl, rfl⟩
  go_wp2_with fail
  refine (HC.out _ (below_alloc (below_alloc (Below.refl w.heap.size w) (Nat.le_refl _) _) (Nat.le_refl _) _)).mono ?_
  rintro e w1 ⟨rfl, hb1⟩
  have hbb : Below w.heap.size w w1 := (below_alloc (below_alloc (Below.refl w.heap.size w) (Nat.le_refl _) _) (Nat.le_refl _) _).trans (hb1.mono (by simp; omega))
  have q := fun o => (hb1.cell (p := ⟨w.heap.size, o, none⟩) (by simp; omega)).trans (cell_two_old w _ _ 34 262 o)
  have hfr : ∀ o, w1.frozen? ⟨w.heap.size, o, none⟩ = false := fun o => (hb1.frozen (p := ⟨w.heap.size, o, none⟩) (by simp; omega)).trans (by simp [go_sem])
  have t1 := q 0
  have t2 := q 1
  have t3 := q 2
  have t4 := q 3
  have t5 := q 4
  have t6 := q 5
  simp only [show ∀ a b c d e f : Value, #[a, b, c, d, e, f][0]? = some a from fun _ _ _ _ _ _ => rfl, show ∀ a b c d e f : Value, #[a, b, c, d, e, f][1]? = some b from fun _ _ _ _ _ _ => rfl, show ∀ a b c d e f : Value, #[a, b, c, d, e, f][2]? = some c from fun _ _ _ _ _ _ => rfl, show ∀ a b c d e f : Value, #[a, b, c, d, e, f][3]? = some d from fun _ _ _ _ _ _ => rfl, show ∀ a b c d e f : Value, #[a, b, c, d, e, f][4]? = some e from fun _ _ _ _ _ _ => rfl, show ∀ a b c d e f : Value, #[a, b, c, d, e, f][5]? = some f from fun _ _ _ _ _ _ => rfl] at t1 t2 t3 t4 t5 t6
  have HBB : Hid _ := hbb
  clear hb1 hbb q
  go_wp2_with fail
  refine bodyPost_ret (v := .tuple #[.agg #[.int .u8 r1, .int .u16 r2, .int .u8 r3, .int .u8 r4, .int .u8 r5, .int .u16 r6], .bool Bv]) (by simp [results, Fahg.results113, go_sem, WP.nul, WP.nval, t1, t2, t3, t4, t5, t6]) rfl ⟨rfl, ?_⟩
  repeat' (first | refine Below.setCell ?_ (by simp) _ | exact HBB.out)

set_option maxRecDepth 100000 in
theorem resw_zero (a0 : Option Addr) (len cap : Nat) (at_ : Int) (hl : len ≤ 256) (w : World) :
    Calls Fahg.prog 113 #[.slice a0 len cap, .int .u64 0, .int .u16 at_, .int .u16 1] w fun e w' => e = .returned (.tuple #[WP.nul.nval, .bool true]) ∧ Below w.heap.size w w' := by
  have hl' : ¬ 256 < len := by omega
  go_enter Fahg.func113, Fahg.ntmps113
  go_wp2_with fail
  refine bodyPost_ret (v := .tuple #[WP.nul.nval, .bool true]) (by simp [results, Fahg.results113, go_sem, WP.nul, WP.nval]) rfl ⟨rfl, ?_⟩
  repeat' (first | refine Below.setCell ?_ (by simp) _ | refine below_drewN' ?_ _ | refine below_alloc ?_ (Nat.le_refl _) _ | exact Below.refl _ _)

set_option maxRecDepth 100000 in
theorem res93 (b off len cap : Nat) (at_ x : Int) (h0 : 0 ≤ at_) (h1 : at_ < len) (hl : len ≤ 256) (w : World) (hc : w.cell? ⟨b, off + at_.toNat, none⟩ = some (.int .u64 x)) (r : WP) (Bv : Bool)
    (HC : Hid (∀ w', Below w.heap.size w w' → Calls Fahg.prog 113 #[.slice (some ⟨b, off, none⟩) len cap, .int .u64 x, .int .u16 (at_ + 1), .int .u16 1] w' fun e w2 => e = .returned (.tuple #[r.nval, .bool Bv]) ∧ Below w'.heap.size w' w2)) :
    Calls Fahg.prog 93 #[.slice (some ⟨b, off, none⟩) len cap, .int .u16 at_] w fun e w' => e = .returned (.tuple #[r.nval, .bool Bv]) ∧ Below w.heap.size w w' := by
  have hb : b < w.heap.size := World.block_lt_of_cell? w ⟨b, off + at_.toNat, none⟩ hc
  obtain ⟨r1, r2, r3, r4, r5, r6⟩ := r
  simp only [WP.nval] at HC ⊢
  go_enter Fahg.func93, Fahg.ntmps93
  go_wp2_with fail
  refine (HC.out _ (below_alloc (Below.refl w.heap.size w) (Nat.le_refl _) _)).mono ?_
  rintro e w1 ⟨rfl, hb1⟩
  have hbb : Below w.heap.size w w1 := (below_alloc (Below.refl w.heap.size w) (Nat.le_refl _) _).trans (hb1.mono (by simp))
  have q := fun o => (hb1.cell (p := ⟨w.heap.size, o, none⟩) (by simp)).trans (World.cell?_alloc_at _ _ _ _ rfl)
  have hfr : ∀ o, w1.frozen? ⟨w.heap.size, o, none⟩ = false := fun o => (hb1.frozen (p := ⟨w.heap.size, o, none⟩) (by simp)).trans (by simp [go_sem])
  have t1 := q 0
  have t2 := q 1
  have t3 := q 2
  have t4 := q 3
  have t5 := q 4
  have t6 := q 5
  simp only [show ∀ a b c d e f : Value, #[a, b, c, d, e, f][0]? = some a from fun _ _ _ _ _ _ => rfl, show ∀ a b c d e f : Value, #[a, b, c, d, e, f][1]? = some b from fun _ _ _ _ _ _ => rfl, show ∀ a b c d e f : Value, #[a, b, c, d, e, f][2]? = some c from fun _ _ _ _ _ _ => rfl, show ∀ a b c d e f : Value, #[a, b, c, d, e, f][3]? = some d from fun _ _ _ _ _ _ => rfl, show ∀ a b c d e f : Value, #[a, b, c, d, e, f][4]? = some e from fun _ _ _ _ _ _ => rfl, show ∀ a b c d e f : Value, #[a, b, c, d, e, f][5]? = some f from fun _ _ _ _ _ _ => rfl] at t1 t2 t3 t4 t5 t6
  have HBB : Hid _ := hbb
  clear hb1 hbb q HC hc
  go_wp2_with fail
  refine bodyPost_ret (v := .tuple #[.agg #[.int .u8 r1, .int .u16 r2, .int .u8 r3, .int .u8 r4, .int .u8 r5, .int .u16 r6], .bool Bv]) (by simp [results, Fahg.results93, go_sem, t1, t2, t3, t4, t5, t6]) rfl ⟨rfl, ?_⟩
  repeat' (first | refine Below.setCell ?_ (by simp) _ | exact HBB.out)

theorem nresolve_in (b off len cap : Nat) (at_ : Int) (z : Int → Int) (h0 : 0 ≤ at_) (h1 : at_ < len) (hl : len ≤ 256) (w : World) (hz : Row w b off len z) :
    Calls Fahg.prog 93 #[.slice (some ⟨b, off, none⟩) len cap, .int .u16 at_] w fun e w' => e = .returned (.tuple #[(rsn z len at_).1.nval, .bool (rsn z len at_).2]) ∧ Below w.heap.size w w' := by
  obtain ⟨hc, hu⟩ := hz at_ h0 h1
  refine res93 b off len cap at_ _ h0 h1 hl w hc _ _ (fun w' hb' => ?_)
  by_cases hx0 : z at_ = 0
  · have hR : rsn z len at_ = (WP.nul, true) := by simp [rsn, hx0]
    rw [hR, hx0]
    exact resw_zero _ len cap _ hl w'
  have hx0' : (z at_ == 0) = false := by simpa using hx0
  by_cases hlo0 : low2 (z at_) = 0
  · by_cases hs : secOk (z at_) = true
    · by_cases hsp : spansB (rTo at_ (z at_)) (secD (z at_) + secP (z at_)) len = true
      · have hR : rsn z len at_ = (⟨1, rTo at_ (z at_), secD (z at_), secP (z at_), 0, 0⟩, true) := by simp [rsn, hx0, hlo0, hs, hsp]
        rw [hR]
        exact resw_sec _ len cap at_ _ h0 h1 hl w' hu hx0' hlo0 hs hsp
      · have hR : rsn z len at_ = (WP.nul, false) := by simp [rsn, hx0, hlo0, hs, hsp]
        rw [hR]
        exact resw_sec_out _ len cap at_ _ h0 h1 hl w' hu hx0' hlo0 hs (by simpa using hsp)
    · have hR : rsn z len at_ = (WP.nul, false) := by simp [rsn, hx0, hlo0, hs]
      rw [hR]
      exact resw_sec_no _ len cap at_ _ h0 h1 hl w' hu hx0' hlo0 (by simpa using hs)
  have bs := sgn30_bd (z at_ / 4)
  have bt : -2147483648 ≤ rTo at_ (z at_) ∧ rTo at_ (z at_) ≤ 1073741823 := by unfold rTo; omega
  have b3 := code3_bd (z at_)
  have b4 := cnt29_bd _ hu
  by_cases hlo1 : low2 (z at_) = 1
  · by_cases hc7 : code3 (z at_) = 7
    · by_cases hsp : spansB (rTo at_ (z at_)) (cnt29 (z at_) + 1) len = true
      · have ht : 1 ≤ rTo at_ (z at_) ∧ rTo at_ (z at_) + (cnt29 (z at_) + 1) ≤ len := by
          unfold spansB at hsp; rw [if_neg (by omega)] at hsp; simpa using hsp
        obtain ⟨hct, hut⟩ := hz (rTo at_ (z at_)) (by omega) (by omega)
        have hbl : b < w.heap.size := World.block_lt_of_cell? w _ hct
        have hR : rsn z len at_ = (if ntB (z (rTo at_ (z at_))) (cnt29 (z at_)) then ⟨2, rTo at_ (z at_) + 1, secD (z (rTo at_ (z at_))), secP (z (rTo at_ (z at_))), 7, cnt30 (z (rTo at_ (z at_)))⟩ else WP.nul, ntB (z (rTo at_ (z at_))) (cnt29 (z at_))) := by
          cases hB : ntB (z (rTo at_ (z at_))) (cnt29 (z at_)) <;> simp [rsn, hx0, hlo1, hc7, hsp, hB]
        rw [hR]
        refine resw_tag _ len cap at_ _ h0 h1 hl w' hu hx0' hlo1 hc7 _ _ (fun w2 hb2 => ?_)
        exact nstructs_yes b off len cap _ _ _ hl b4.1 ht.1 ht.2 hut w2 (((hb2.cell (p := ⟨b, off + (rTo at_ (z at_)).toNat, none⟩) (Nat.lt_of_lt_of_le hbl hb'.size)).trans (hb'.cell (p := ⟨b, off + (rTo at_ (z at_)).toNat, none⟩) hbl)).trans hct) _ _ rfl rfl
      · have hR : rsn z len at_ = (WP.nul, false) := by simp [rsn, hx0, hlo1, hc7, hsp]
        rw [hR]
        refine resw_tag _ len cap at_ _ h0 h1 hl w' hu hx0' hlo1 hc7 _ _ (fun w2 _ => ?_)
        exact nstructs_no _ len cap _ _ hl bt.1 bt.2 b4.1 b4.2 (by simpa using hsp) w2
    · by_cases hin : 2 ≤ code3 (z at_) ∧ cnt29 (z at_) ≤ 128
      · have hR : rsn z len at_ = (if spansB (rTo at_ (z at_)) (nWds (code3 (z at_)) (cnt29 (z at_))) len then ⟨2, rTo at_ (z at_), 0, 0, code3 (z at_), cnt29 (z at_)⟩ else WP.nul, spansB (rTo at_ (z at_)) (nWds (code3 (z at_)) (cnt29 (z at_))) len) := by
          cases hB : spansB (rTo at_ (z at_)) (nWds (code3 (z at_)) (cnt29 (z at_))) len <;> simp [rsn, hx0, hlo1, hc7, hin, hB]
        rw [hR]
        refine resw_list _ len cap at_ _ h0 h1 hl w' hu hx0' hlo1 (by omega) _ _ (fun w2 => ?_)
        exact nplain_in _ len cap _ _ _ hl bt.1 bt.2 hin.1 (by omega) b4.1 hin.2 w2 _ _ rfl rfl
      · have hR : rsn z len at_ = (WP.nul, false) := by
          have : (decide (2 ≤ code3 (z at_)) && decide (cnt29 (z at_) ≤ 128)) = false := by simpa using hin
          simp [rsn, hx0, hlo1, hc7, this]
        rw [hR]
        refine resw_list _ len cap at_ _ h0 h1 hl w' hu hx0' hlo1 (by omega) _ _ (fun w2 => ?_)
        exact nplain_no _ len cap _ _ _ b3.1 b3.2 b4.1 b4.2 (by omega) w2
  · have bl := low2_bd (z at_)
    have hR : rsn z len at_ = (WP.nul, false) := by simp [rsn, hx0, hlo0, hlo1]
    rw [hR]
    exact resw_bad _ len cap at_ _ h0 h1 hl w' hu hx0' (by omega)
end Go.Proofs.Ygcfah
