/- Package wire's leaves: sections, spans, Width, Words. -/
import Derived.Test.YgcfahWideS
namespace Go.Proofs.Ygcfah
open Go.RowKit
set_option linter.unusedVariables false
set_option linter.unusedSimpArgs false

/-- A wire.Ptr as a value. -/
def WP.nval (p : WP) : Value := .agg #[.int .u8 p.kind, .int .u16 p.at_, .int .u8 p.data, .int .u8 p.ptrs, .int .u8 p.code, .int .u16 p.count]

theorem nsections_any (x : Int) (hx : U64 x) (w : World) :
    Calls Fahg.prog 151 #[.int .u64 x] w fun e w' => e = .returned (.tuple #[.int .u8 (secD x), .int .u8 (secP x), .bool (secOk x)]) ∧ w' = w := by
  have hx' : Hid (U64 x) := hx
  have b0 := mid16_bd x
  have b1 := top16_bd x hx
  clear hx
  go_enter Fahg.func151, Fahg.ntmps151
  go_wp2_with fail
  refine (take_32_16 _ hx'.out _).mono ?_; rintro e w' ⟨rfl, rfl⟩
  go_wp2_with fail
  refine (take_48_16 _ hx'.out _).mono ?_; rintro e w' ⟨rfl, rfl⟩
  go_wp2_with fail
  all_goals go_ret3
  all_goals go_light
  all_goals refine ⟨ret_tup3 ?_ ?_ ?_, rfl⟩
  all_goals (simp [secD, secP, secOk]; try omega)

theorem nspans_any (a0 : Option Addr) (len cap : Nat) (to n : Int) (hl : len ≤ 256) (h0 : -2147483648 ≤ to) (h1 : to ≤ 1073741823) (h2 : 0 ≤ n) (h3 : n ≤ 1073741823) (w : World) :
    Calls Fahg.prog 152 #[.agg #[.slice a0 len cap, .int .u16 1], .int .i32 to, .int .i32 n] w fun e w' => e = .returned (.bool (spansB to n len)) ∧ ∃ c nq, w' = (w.alloc (.cells c 262)).drewN nq := by
  by_cases hs : 0 ≤ to + n
  · go_enter Fahg.func152, Fahg.ntmps152
    go_wp2_with fail
    all_goals go_ret
    all_goals go_light
    all_goals refine ⟨ret_bool ?_, _, 0, rfl⟩
    all_goals (unfold spansB; simp_all <;> omega)
  · have hto : to < 0 := by omega
    go_enter Fahg.func152, Fahg.ntmps152
    go_wp2_with fail
    all_goals go_ret
    all_goals go_light
    all_goals refine ⟨ret_bool ?_, _, 0, rfl⟩
    all_goals (unfold spansB; simp_all <;> omega)

theorem width_any (c : Int) (h0 : 2 ≤ c) (h1 : c ≤ 5) (w : World) :
    Calls Fahg.prog 118 #[.int .u8 c] w fun e w' => e = .returned (.int .u8 (elBits c / 8)) ∧ w' = w := by
  have : c = 2 ∨ c = 3 ∨ c = 4 ∨ c = 5 := by omega
  rcases this with rfl | rfl | rfl | rfl
  all_goals
    go_enter Fahg.func118, Fahg.ntmps118
    go_wp2_with fail
    go_ret
    exact ⟨ret_int (by decide), rfl⟩
theorem width_no (c : Int) (h : c < 2 ∨ 5 < c) (h0 : 0 ≤ c) (h1 : c ≤ 255) (w : World) :
    Calls Fahg.prog 118 #[.int .u8 c] w fun e w' => e = .returned (.int .u8 0) ∧ w' = w := by
  by_cases h2 : c < 2
  · clear h
    go_enter Fahg.func118, Fahg.ntmps118
    go_wp2_with fail
    go_ret
    exact ⟨rfl, rfl⟩
  · have h5 : 5 < c := by omega
    clear h
    go_enter Fahg.func118, Fahg.ntmps118
    go_wp2_with fail
    go_ret
    exact ⟨rfl, rfl⟩

set_option maxHeartbeats 400000 in
theorem nwords_struct (at_ data ptrs code count : Int) (d0 : 0 ≤ data) (d1 : data ≤ 8) (p0 : 0 ≤ ptrs) (p1 : ptrs ≤ 8) (w : World) :
    Calls Fahg.prog 95 #[.agg #[.int .u8 1, .int .u16 at_, .int .u8 data, .int .u8 ptrs, .int .u8 code, .int .u16 count]] w fun e w' => e = .returned (.int .u16 (data + ptrs)) ∧ ∃ c nq, w' = (w.alloc (.cells c 34)).drewN nq := by
  go_enter Fahg.func95, Fahg.ntmps95
  go_wp2_with fail
  go_ret
  exact ⟨ret_int (by first | rfl | omega), _, 0, rfl⟩
set_option maxHeartbeats 400000 in
theorem nwords_list (at_ data ptrs code count : Int) (d0 : 0 ≤ data) (d1 : data ≤ 8) (p0 : 0 ≤ ptrs) (p1 : ptrs ≤ 8) (c0 : 2 ≤ code) (c1 : code ≤ 5) (n0 : 0 ≤ count) (n1 : count ≤ 128) (w : World) :
    Calls Fahg.prog 95 #[.agg #[.int .u8 2, .int .u16 at_, .int .u8 data, .int .u8 ptrs, .int .u8 code, .int .u16 count]] w fun e w' => e = .returned (.int .u16 ((count * elBits code + 63) / 64)) ∧ ∃ c nq, w' = (w.alloc (.cells c 34)).drewN nq := by
  have hE : elBits code = 8 ∨ elBits code = 16 ∨ elBits code = 32 ∨ elBits code = 64 := by
    have : code = 2 ∨ code = 3 ∨ code = 4 ∨ code = 5 := by omega
    rcases this with rfl | rfl | rfl | rfl <;> simp [elBits]
  have hw := fun w => width_any code c0 c1 w
  generalize elBits code = E at *
  have HW : Hid _ := hw
  clear hw
  rcases hE with rfl | rfl | rfl | rfl
  all_goals
    go_enter Fahg.func95, Fahg.ntmps95
    go_wp2_with fail
    go_quiet ((go_at_call 118; exact Calls.quiet_of_same (HW.out _)))
    go_wp2_with fail
    go_ret
    refine ⟨ret_int ?_, _, _, rfl⟩
    rw [IntKind.wrap_u16, Int.tdiv_eq_ediv_of_nonneg (by omega)]
    omega
set_option maxHeartbeats 400000 in
theorem nwords_ptrs (at_ data ptrs count : Int) (d0 : 0 ≤ data) (d1 : data ≤ 8) (p0 : 0 ≤ ptrs) (p1 : ptrs ≤ 8) (n0 : 0 ≤ count) (n1 : count ≤ 128) (w : World) :
    Calls Fahg.prog 95 #[.agg #[.int .u8 2, .int .u16 at_, .int .u8 data, .int .u8 ptrs, .int .u8 6, .int .u16 count]] w fun e w' => e = .returned (.int .u16 count) ∧ ∃ c nq, w' = (w.alloc (.cells c 34)).drewN nq := by
  go_enter Fahg.func95, Fahg.ntmps95
  go_wp2_with fail
  go_ret
  exact ⟨rfl, _, 0, rfl⟩
set_option maxHeartbeats 400000 in
theorem nwords_structs (at_ data ptrs count m : Int) (hm : Hid (m = count * (data + ptrs))) (m0 : 0 ≤ m) (m1 : m ≤ 256) (d0 : 0 ≤ data) (d1 : data ≤ 8) (p0 : 0 ≤ ptrs) (p1 : ptrs ≤ 8) (n0 : 0 ≤ count) (n1 : count ≤ 128) (w : World) :
    Calls Fahg.prog 95 #[.agg #[.int .u8 2, .int .u16 at_, .int .u8 data, .int .u8 ptrs, .int .u8 7, .int .u16 count]] w fun e w' => e = .returned (.int .u16 (1 + m)) ∧ ∃ c nq, w' = (w.alloc (.cells c 34)).drewN nq := by
  have hc : IntKind.u16.wrap (count * (data + ptrs)) = m := by rw [← hm.out, IntKind.wrap_u16]; omega
  go_enter Fahg.func95, Fahg.ntmps95
  go_wp2_with fail
  go_ret
  exact ⟨rfl, _, 0, rfl⟩
theorem nwords_l (at_ data ptrs code count : Int) (d0 : 0 ≤ data) (d1 : data ≤ 8) (p0 : 0 ≤ ptrs) (p1 : ptrs ≤ 8) (c0 : 2 ≤ code) (c1 : code ≤ 6) (n0 : 0 ≤ count) (n1 : count ≤ 128) (w : World) :
    Calls Fahg.prog 95 #[.agg #[.int .u8 2, .int .u16 at_, .int .u8 data, .int .u8 ptrs, .int .u8 code, .int .u16 count]] w fun e w' => e = .returned (.int .u16 ((count * elBits code + 63) / 64)) ∧ ∃ c nq, w' = (w.alloc (.cells c 34)).drewN nq := by
  by_cases h : code = 6
  · subst h
    rw [show (count * elBits 6 + 63) / 64 = count from by simp [elBits]; omega]
    exact nwords_ptrs at_ data ptrs count d0 d1 p0 p1 n0 n1 w
  · exact nwords_list at_ data ptrs code count d0 d1 p0 p1 c0 (by omega) n0 n1 w
end Go.Proofs.Ygcfah
