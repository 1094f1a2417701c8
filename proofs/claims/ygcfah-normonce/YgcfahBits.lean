/- The leaves of package bitsx over Int: mask, fits, Take, Sign. -/
import Derived.Test.YgcfahRows
import Derived.WalkKit
import Derived.WalkSpells
import Derived.StillTactics
import Derived.Deep.Draws
namespace Go.Proofs.Ygcfah
open Go.RowKit

theorem setCell_drewN (w : World) (n : Nat) (a : Addr) (v : Value) : (w.drewN n).setCell a v = (w.setCell a v).drewN n := rfl
theorem alloc_drewN (w : World) (n : Nat) (o : Obj) : (w.drewN n).alloc o = (w.alloc o).drewN n := rfl
theorem below_drewN' {B : Nat} {a w : World} (h : Below B a w) (n : Nat) : Below B a (w.drewN n) := ⟨h.os, h.tape, h.output, h.size, h.block⟩

theorem below_alloc {B : Nat} {a w : World} (h : Below B a w) (hB : B ≤ a.heap.size) (o : Obj) : Below B a (w.alloc o) := h.alloc (Nat.le_trans hB h.size) o

/-- A word of 64 bits. -/
def U64 (x : Int) : Prop := 0 ≤ x ∧ x < 18446744073709551616

theorem ret_int {k : IntKind} {a b : Int} (h : a = b) : Ending.returned (.int k a) = .returned (.int k b) := by rw [h]
theorem ret_bool {a b : Bool} (h : a = b) : Ending.returned (.bool a) = .returned (.bool b) := by rw [h]

theorem wrap_u64 (n : Int) : IntKind.u64.wrap n = n % 18446744073709551616 := by simp [IntKind.wrap, IntKind.bits, IntKind.signed]

theorem two_pow_le64 (n : Nat) (h : n ≤ 63) : (2 : Int) ^ n ≤ 9223372036854775808 := by
  have h1 : (2 : Nat) ^ n ≤ 2 ^ 63 := Nat.pow_le_pow_right (by omega) h
  have h2 : ((2 ^ n : Nat) : Int) ≤ ((2 ^ 63 : Nat) : Int) := by exact_mod_cast h1
  simpa using h2
theorem two_pow_pos (n : Nat) : (1 : Int) ≤ (2 : Int) ^ n := by
  have h1 : 0 < (2 : Nat) ^ n := Nat.pow_pos (by omega)
  have h2 : ((0 : Nat) : Int) < ((2 ^ n : Nat) : Int) := by exact_mod_cast h1
  have h3 : ((2 ^ n : Nat) : Int) = (2 : Int) ^ n := by push_cast; rfl
  omega

theorem mask_num (n : Nat) (h : n ≤ 63) : IntKind.u64.wrap (IntKind.u64.wrap ((2 : Int) ^ n) - 1) = 2 ^ n - 1 := by
  have h1 := two_pow_le64 n h
  have h2 := two_pow_pos n
  rw [wrap_u64, wrap_u64]
  generalize (2 : Int) ^ n = p at *
  omega

/-- 'x & (2^n - 1)' is 'x % 2^n'. -/
theorem and_mask (x : Int) (hx : U64 x) (n : Nat) (h : n ≤ 63) : bits .and .u64 x (2 ^ n - 1) = x % 2 ^ n := by
  obtain ⟨h0, h1⟩ := hx
  have p1 := two_pow_le64 n h
  have p2 := two_pow_pos n
  rw [u64_and x (2 ^ n - 1) h0 h1 (by omega) (by omega)]
  obtain ⟨x, rfl⟩ := Int.eq_ofNat_of_zero_le h0
  have e : ((2 : Int) ^ n - 1).toNat = 2 ^ n - 1 := by
    have h3 : ((2 ^ n : Nat) : Int) = (2 : Int) ^ n := by push_cast; rfl
    omega
  rw [e, Int.toNat_natCast, Nat.and_two_pow_sub_one_eq_mod]
  push_cast; rfl

theorem div_pow_u64 (x : Int) (hx : U64 x) (a : Nat) : U64 (x / 2 ^ a) := by
  obtain ⟨h0, h1⟩ := hx
  have p2 := two_pow_pos a
  refine ⟨Int.ediv_nonneg h0 (by omega), ?_⟩
  have : x / 2 ^ a ≤ x := Int.ediv_le_self _ h0
  omega

theorem mask_any (n : Int) (h0 : 0 ≤ n) (h1 : n ≤ 63) (w : World) :
    Calls Fahg.prog 148 #[.int .u8 n] w fun e w' => e = .returned (.int .u64 (2 ^ n.toNat - 1)) ∧ w' = w := by
  go_enter Fahg.func148, Fahg.ntmps148
  go_wp2
  go_ret
  exact ⟨ret_int (mask_num _ (by omega)), rfl⟩

theorem fits_any (a n : Int) (h0 : 0 ≤ n) (h1 : n ≤ 255) (h2 : 0 ≤ a) (h3 : a ≤ 255) (w : World) :
    Calls Fahg.prog 149 #[.int .u8 a, .int .u8 n] w fun e w' => e = .returned (.bool (decide (a + n ≤ 64))) ∧ w' = w := by
  go_enter Fahg.func149, Fahg.ntmps149
  go_wp2
  go_ret
  exact ⟨rfl, rfl⟩

/-- Take, where the bits fit: the value handed in by the caller's own spelling. -/
theorem take_any (x a n r : Int) (hx : U64 x) (h0 : 0 ≤ n) (h1 : n ≤ 63) (h2 : 0 ≤ a) (h3 : a ≤ 63) (hf : a + n ≤ 64) (hr : Hid (r = x / 2 ^ a.toNat % 2 ^ n.toNat)) (w : World) :
    Calls Fahg.prog 99 #[.int .u64 x, .int .u8 a, .int .u8 n] w fun e w' => e = .returned (.int .u64 r) ∧ w' = w := by
  have hd : Hid (U64 (x / 2 ^ a.toNat)) := div_pow_u64 x hx a.toNat
  have hx' : Hid (U64 x) := hx
  clear hx
  go_enter Fahg.func99, Fahg.ntmps99
  go_wp2
  go_ret
  refine ⟨ret_int ?_, rfl⟩
  rw [hr.out, mask_num _ (by omega), and_mask _ hd.out _ (by omega)]

/-! The fields of a pointer word, under names (great numerals stay out of the walks). -/
def low2 (x : Int) : Int := x % 4
def mid16 (x : Int) : Int := x / 4294967296 % 65536
def top16 (x : Int) : Int := x / 281474976710656
def code3 (x : Int) : Int := x / 4294967296 % 8
def cnt29 (x : Int) : Int := x / 34359738368
def cnt30 (x : Int) : Int := x / 4 % 1073741824
def sgn30 (x : Int) : Int := (x + 536870912) % 1073741824 - 536870912
theorem low2_bd (x : Int) : 0 ≤ low2 x ∧ low2 x ≤ 3 := by unfold low2; omega
theorem mid16_bd (x : Int) : 0 ≤ mid16 x ∧ mid16 x ≤ 65535 := by unfold mid16; omega
theorem top16_bd (x : Int) (hx : U64 x) : 0 ≤ top16 x ∧ top16 x ≤ 65535 := by obtain ⟨a, b⟩ := hx; unfold top16; omega
theorem code3_bd (x : Int) : 0 ≤ code3 x ∧ code3 x ≤ 7 := by unfold code3; omega
theorem cnt29_bd (x : Int) (hx : U64 x) : 0 ≤ cnt29 x ∧ cnt29 x ≤ 536870911 := by obtain ⟨a, b⟩ := hx; unfold cnt29; omega
theorem cnt30_bd (x : Int) : 0 ≤ cnt30 x ∧ cnt30 x ≤ 1073741823 := by unfold cnt30; omega
theorem sgn30_bd (x : Int) : -536870912 ≤ sgn30 x ∧ sgn30 x ≤ 536870911 := by unfold sgn30; omega

theorem take_0_2 (x : Int) (hx : U64 x) (w : World) : Calls Fahg.prog 99 #[.int .u64 x, .int .u8 0, .int .u8 2] w fun e w' => e = .returned (.int .u64 (low2 x)) ∧ w' = w :=
  take_any x 0 2 _ hx (by decide) (by decide) (by decide) (by decide) (by decide) (show _ = _ by simp [low2]) w
theorem take_32_16 (x : Int) (hx : U64 x) (w : World) : Calls Fahg.prog 99 #[.int .u64 x, .int .u8 32, .int .u8 16] w fun e w' => e = .returned (.int .u64 (mid16 x)) ∧ w' = w :=
  take_any x 32 16 _ hx (by decide) (by decide) (by decide) (by decide) (by decide) (show _ = _ by simp [mid16]) w
theorem take_48_16 (x : Int) (hx : U64 x) (w : World) : Calls Fahg.prog 99 #[.int .u64 x, .int .u8 48, .int .u8 16] w fun e w' => e = .returned (.int .u64 (top16 x)) ∧ w' = w :=
  take_any x 48 16 _ hx (by decide) (by decide) (by decide) (by decide) (by decide) (show _ = _ by obtain ⟨a, b⟩ := hx; simp [top16]; omega) w
theorem take_32_3 (x : Int) (hx : U64 x) (w : World) : Calls Fahg.prog 99 #[.int .u64 x, .int .u8 32, .int .u8 3] w fun e w' => e = .returned (.int .u64 (code3 x)) ∧ w' = w :=
  take_any x 32 3 _ hx (by decide) (by decide) (by decide) (by decide) (by decide) (show _ = _ by simp [code3]) w
theorem take_35_29 (x : Int) (hx : U64 x) (w : World) : Calls Fahg.prog 99 #[.int .u64 x, .int .u8 35, .int .u8 29] w fun e w' => e = .returned (.int .u64 (cnt29 x)) ∧ w' = w :=
  take_any x 35 29 _ hx (by decide) (by decide) (by decide) (by decide) (by decide) (show _ = _ by obtain ⟨a, b⟩ := hx; simp [cnt29]; omega) w
theorem take_2_30 (x : Int) (hx : U64 x) (w : World) : Calls Fahg.prog 99 #[.int .u64 x, .int .u8 2, .int .u8 30] w fun e w' => e = .returned (.int .u64 (cnt30 x)) ∧ w' = w :=
  take_any x 2 30 _ hx (by decide) (by decide) (by decide) (by decide) (by decide) (show _ = _ by simp [cnt30]) w

theorem nat_xor_top (x : Nat) (hx : x < 1073741824) : x ^^^ 536870912 = if x < 536870912 then x + 536870912 else x - 536870912 := by
  have e1 : (x ^^^ 536870912) / 2 ^ 29 = x / 2 ^ 29 ^^^ 536870912 / 2 ^ 29 := Nat.xor_div_two_pow
  have e2 : (x ^^^ 536870912) % 2 ^ 29 = x % 2 ^ 29 ^^^ 536870912 % 2 ^ 29 := Nat.xor_mod_two_pow
  have e3 : (536870912 : Nat) / 2 ^ 29 = 1 := by decide
  have e4 : (536870912 : Nat) % 2 ^ 29 = 0 := by decide
  rw [e3] at e1; rw [e4, Nat.xor_zero] at e2
  generalize x ^^^ 536870912 = z at *
  have e5 : (2 : Nat) ^ 29 = 536870912 := by decide
  rw [e5] at e1 e2
  by_cases hlt : x < 536870912
  · have h0 : x / 536870912 = 0 := by omega
    rw [h0, show (0 ^^^ 1 : Nat) = 1 by decide] at e1
    rw [if_pos hlt]; omega
  · have h0 : x / 536870912 = 1 := by omega
    rw [h0, show (1 ^^^ 1 : Nat) = 0 by decide] at e1
    rw [if_neg hlt]; omega
theorem xor_top (x : Int) (h0 : 0 ≤ x) (h1 : x < 1073741824) : bits .xor .u64 x 536870912 = if x < 536870912 then x + 536870912 else x - 536870912 := by
  rw [u64_xor x 536870912 h0 (by omega) (by decide) (by decide)]
  obtain ⟨x, rfl⟩ := Int.eq_ofNat_of_zero_le h0
  simp only [Int.toNat_natCast, show ((536870912 : Int).toNat) = 536870912 from rfl, nat_xor_top x (by omega)]
  split <;> split <;> omega

theorem sign_num (x : Int) (hx : U64 x) : wrap64 (IntKind.u64.wrap (bits .xor .u64 (bits .and .u64 x 1073741823) 536870912 - 536870912)) = sgn30 x := by
  unfold sgn30
  have e : bits .and .u64 x 1073741823 = x % 1073741824 := and_mask x hx 30 (by decide)
  rw [e, xor_top _ (by omega) (by omega), wrap_u64, wrap64]
  obtain ⟨h0, h1⟩ := hx
  split <;> omega

/-- Sign of the low thirty bits. -/
theorem sign30_any (x : Int) (hx : U64 x) (w : World) :
    Calls Fahg.prog 98 #[.int .u64 x, .int .u8 30] w fun e w' => e = .returned (.int .i64 (sgn30 x)) ∧ w' = w := by
  have hx' : Hid (U64 x) := hx
  clear hx
  go_enter Fahg.func98, Fahg.ntmps98
  go_wp2
  go_ret
  exact ⟨ret_int (sign_num x hx'.out), rfl⟩
end Go.Proofs.Ygcfah
