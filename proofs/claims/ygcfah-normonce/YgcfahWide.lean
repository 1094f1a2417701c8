/- Package wide's leaves: sections, spans, elementBits, Words; and the law's own wideWords. -/
import Derived.Test.YgcfahBits
import Derived.Deep.QuietTactic
import Derived.BigQuiet
import Derived.Deep.Light
namespace Go.Proofs.Ygcfah
open Go.RowKit
set_option linter.unusedVariables false

def secOk (x : Int) : Bool := decide (mid16 x ≤ 8) && decide (top16 x ≤ 8)
def secD (x : Int) : Int := if secOk x then mid16 x else 0
def secP (x : Int) : Int := if secOk x then top16 x else 0

theorem ret_tup3 {k1 k2 : IntKind} {a b a' b' : Int} {c c' : Bool} (h1 : a = a') (h2 : b = b') (h3 : c = c') : Ending.returned (.tuple #[.int k1 a, .int k2 b, .bool c]) = .returned (.tuple #[.int k1 a', .int k2 b', .bool c']) := by rw [h1, h2, h3]

theorem sections_any (x : Int) (hx : U64 x) (w : World) :
    Calls Fahg.prog 100 #[.int .u64 x] w fun e w' => e = .returned (.tuple #[.int .u8 (secD x), .int .u8 (secP x), .bool (secOk x)]) ∧ w' = w := by
  have hx' : Hid (U64 x) := hx
  have b0 := mid16_bd x
  have b1 := top16_bd x hx
  clear hx
  go_enter Fahg.func100, Fahg.ntmps100
  go_wp2_with fail
  refine (take_32_16 _ hx'.out _).mono ?_; rintro e w' ⟨rfl, rfl⟩
  go_wp2_with fail
  refine (take_48_16 _ hx'.out _).mono ?_; rintro e w' ⟨rfl, rfl⟩
  go_wp2_with fail
  all_goals go_ret3
  all_goals go_light
  all_goals refine ⟨ret_tup3 ?_ ?_ ?_, rfl⟩
  all_goals (simp [secD, secP, secOk]; try omega)

def spansB (to n size : Int) : Bool := if n = 0 then decide (0 ≤ to ∧ to ≤ size) else decide (1 ≤ to ∧ to + n ≤ size)
theorem spans_any (to n size : Int) (h0 : -2147483648 ≤ to) (h1 : to ≤ 2147483647) (h2 : 0 ≤ n) (h3 : n ≤ 65535) (w : World) :
    Calls Fahg.prog 102 #[.int .i32 to, .int .u16 n, .int .i64 size] w fun e w' => e = .returned (.bool (spansB to n size)) ∧ w' = w := by
  go_enter Fahg.func102, Fahg.ntmps102
  go_wp2
  all_goals go_ret
  all_goals go_light
  all_goals refine ⟨ret_bool ?_, rfl⟩
  all_goals (unfold spansB; simp_all <;> omega)

def elBits (c : Int) : Int := if c = 1 then 1 else if c = 2 then 8 else if c = 3 then 16 else if c = 4 then 32 else if c = 5 then 64 else if c = 6 then 64 else 0
theorem elBits_bd (c : Int) : 0 ≤ elBits c ∧ elBits c ≤ 64 := by unfold elBits; (repeat' split) <;> omega
theorem idx8 (c : Int) (h0 : 0 ≤ c) (h1 : c ≤ 7) (w : World) : Sem.run Fahg.prog (Instr.index 257 (Value.agg #[Value.int IntKind.u32 0, Value.int IntKind.u32 1, Value.int IntKind.u32 8, Value.int IntKind.u32 16, Value.int IntKind.u32 32, Value.int IntKind.u32 64, Value.int IntKind.u32 64, Value.int IntKind.u32 0]) (Value.int IntKind.u8 c)) w = .ok (.int .u32 (elBits c)) w := by
  have : c = 0 ∨ c = 1 ∨ c = 2 ∨ c = 3 ∨ c = 4 ∨ c = 5 ∨ c = 6 ∨ c = 7 := by omega
  rcases this with rfl | rfl | rfl | rfl | rfl | rfl | rfl | rfl <;> (show _ = _; kernel_rfl)
theorem elbits_any (c : Int) (h0 : 0 ≤ c) (h1 : c ≤ 255) (w : World) :
    Calls Fahg.prog 103 #[.int .u8 c] w fun e w' => e = .returned (.int .u32 (elBits (c % 8))) ∧ w' = w := by
  have hi := fun w => idx8 (c % 8) (by omega) (by omega) w
  go_enter Fahg.func103, Fahg.ntmps103
  go_wp2
  go_ret
  exact ⟨rfl, rfl⟩
theorem elbits8 (c : Int) (h0 : 0 ≤ c) (h1 : c ≤ 7) (w : World) :
    Calls Fahg.prog 103 #[.int .u8 c] w fun e w' => e = .returned (.int .u32 (elBits c)) ∧ w' = w := by
  have h := elbits_any c h0 (by omega) w
  rwa [show c % 8 = c by omega] at h


/-- The words that an object of the wider format takes. -/
def wWords (kind data ptrs code count : Int) : Int :=
  if kind = 0 then 0
  else if kind = 1 ∧ data ≤ 8 ∧ ptrs ≤ 8 then data + ptrs
  else if kind = 2 ∧ code < 7 then min ((count * elBits code + 63) / 64) 257
  else if kind = 2 ∧ code = 7 ∧ data ≤ 8 ∧ ptrs ≤ 8 then min (1 + count * (data + ptrs)) 257
  else 257
theorem wWords_bd (kind data ptrs code count : Int) (d0 : 0 ≤ data) (p0 : 0 ≤ ptrs) (n0 : 0 ≤ count) : 0 ≤ wWords kind data ptrs code count ∧ wWords kind data ptrs code count ≤ 257 := by
  have e0 := elBits_bd code
  have m0 : 0 ≤ count * (data + ptrs) := Int.mul_nonneg n0 (by omega)
  have m2 : 0 ≤ count * elBits code := Int.mul_nonneg n0 (by omega)
  unfold wWords
  (repeat' split) <;> omega

set_option maxHeartbeats 400000 in
theorem words_any (kind at_ data ptrs code count : Int) (k0 : 0 ≤ kind) (k1 : kind ≤ 255) (d0 : 0 ≤ data) (d1 : data ≤ 255) (p0 : 0 ≤ ptrs) (p1 : ptrs ≤ 255) (c0 : 0 ≤ code) (c1 : code ≤ 255) (n0 : 0 ≤ count) (n1 : count ≤ 4294967295) (w : World) :
    Calls Fahg.prog 36 #[.agg #[.int .u8 kind, .int .u16 at_, .int .u8 data, .int .u8 ptrs, .int .u8 code, .int .u32 count]] w fun e w' => e = .returned (.int .u16 (wWords kind data ptrs code count)) ∧ ∃ c nq, w' = (w.alloc (.cells c 78)).drewN nq := by
  have e0 := elBits_bd code
  have m0 : 0 ≤ count * (data + ptrs) := Int.mul_nonneg n0 (by omega)
  have m1 : count * (data + ptrs) ≤ 4294967295 * 510 := Int.mul_le_mul n1 (by omega) (by omega) (by omega)
  have m2 : 0 ≤ count * elBits code := Int.mul_nonneg n0 (by omega)
  have m3 : count * elBits code ≤ 4294967295 * 64 := Int.mul_le_mul n1 (by omega) (by omega) (by omega)
  go_enter Fahg.func36, Fahg.ntmps36
  go_wp2_with fail
  all_goals try (go_quiet ((go_at_call 103; exact Calls.quiet_of_same (elbits8 _ (by omega) (by omega) _))); go_wp2_with fail)
  all_goals go_ret
  all_goals go_light
  all_goals refine ⟨ret_int ?_, ?_⟩
  all_goals first
    | exact ⟨_, 0, rfl⟩
    | exact ⟨_, _, rfl⟩
    | (simp only [beq_iff_eq, beq_eq_false_iff_ne] at *; unfold wWords; (repeat' split) <;> omega)

theorem idx7 (c : Int) (h0 : 0 ≤ c) (h1 : c ≤ 6) (w : World) : Sem.run Fahg.prog (Instr.index 194 (Value.agg #[Value.int IntKind.u64 0, Value.int IntKind.u64 1, Value.int IntKind.u64 8, Value.int IntKind.u64 16, Value.int IntKind.u64 32, Value.int IntKind.u64 64, Value.int IntKind.u64 64]) (Value.int IntKind.u8 c)) w = .ok (.int .u64 (elBits c)) w := by
  have : c = 0 ∨ c = 1 ∨ c = 2 ∨ c = 3 ∨ c = 4 ∨ c = 5 ∨ c = 6 := by omega
  rcases this with rfl | rfl | rfl | rfl | rfl | rfl | rfl <;> (show _ = _; kernel_rfl)

set_option maxRecDepth 100000 in
set_option maxHeartbeats 400000 in
theorem wideWords_any (kind at_ data ptrs code count : Int) (k0 : 0 ≤ kind) (k1 : kind ≤ 255) (d0 : 0 ≤ data) (d1 : data ≤ 255) (p0 : 0 ≤ ptrs) (p1 : ptrs ≤ 255) (c0 : 0 ≤ code) (c1 : code ≤ 255) (n0 : 0 ≤ count) (n1 : count ≤ 4294967295) (w : World) :
    Calls Fahg.prog 35 #[.agg #[.int .u8 kind, .int .u16 at_, .int .u8 data, .int .u8 ptrs, .int .u8 code, .int .u32 count]] w fun e w' => e = .returned (.int .u64 (wWords kind data ptrs code count)) ∧ ∃ c nq, w' = (w.alloc (.cells c 78)).drewN nq := by
  have e0 := elBits_bd code
  have m0 : 0 ≤ count * (data + ptrs) := Int.mul_nonneg n0 (by omega)
  have m1 : count * (data + ptrs) ≤ 4294967295 * 510 := Int.mul_le_mul n1 (by omega) (by omega) (by omega)
  have m2 : 0 ≤ count * elBits code := Int.mul_nonneg n0 (by omega)
  have m3 : count * elBits code ≤ 4294967295 * 64 := Int.mul_le_mul n1 (by omega) (by omega) (by omega)
  by_cases hc : code < 7
  · have hi := fun w => idx7 code c0 (by omega) w
    go_enter Fahg.func35, Fahg.ntmps35
    go_wp2_with fail
    go_quiet (fail)
    go_wp2_with fail
    all_goals go_ret
    all_goals go_light
    all_goals refine ⟨ret_int ?_, ?_⟩
    all_goals clear hi
    all_goals first
      | exact ⟨_, _, rfl⟩
      | (simp only [beq_iff_eq, beq_eq_false_iff_ne] at *; unfold wWords; (repeat' split) <;> omega)
  · go_enter Fahg.func35, Fahg.ntmps35
    go_wp2_with fail
    go_quiet (fail)
    go_wp2_with fail
    all_goals go_ret
    all_goals go_light
    all_goals refine ⟨ret_int ?_, ?_⟩
    all_goals first
      | exact ⟨_, _, rfl⟩
      | (simp only [beq_iff_eq, beq_eq_false_iff_ne] at *; unfold wWords; (repeat' split) <;> omega)
end Go.Proofs.Ygcfah
