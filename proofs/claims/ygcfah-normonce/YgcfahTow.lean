/- law.ownWords, law.isStructs. -/
import Derived.Test.YgcfahTarr
namespace Go.Proofs.Ygcfah
open Go.RowKit
set_option linter.unusedVariables false
set_option linter.unusedSimpArgs false
theorem iss_any (b o : Nat) (nd : NodeC) (w : World) (h0 : w.cell? ⟨b, o, none⟩ = some (.int .u8 nd.kind)) (h1 : w.cell? ⟨b, o + 1, none⟩ = some (.int .u8 nd.code)) :
    Calls Fahg.prog 88 #[.pointer (some ⟨b, o, none⟩)] w fun e w' => e = .returned (.bool (inl nd)) ∧ w' = w := by
  have H : Hid (inl nd = (nd.kind == 2 && nd.code == 7)) := rfl
  go_enter Fahg.func88, Fahg.ntmps88
  go_wp2_with fail
  all_goals go_ret
  all_goals go_light
  all_goals refine ⟨ret_bool ?_, rfl⟩
  all_goals rw [H.out]
  all_goals simp_all
set_option maxHeartbeats 400000 in
theorem own_struct (data ptrs code count : Int) (d0 : 0 ≤ data) (d1 : data ≤ 8) (p0 : 0 ≤ ptrs) (p1 : ptrs ≤ 8) (w : World) :
    Calls Fahg.prog 122 #[.agg #[.int .u8 1, .int .u16 0, .int .u8 data, .int .u8 ptrs, .int .u8 code, .int .u16 count]] w fun e w' => e = .returned (.int .i64 (data + ptrs)) ∧ ∃ c nq, w' = (w.alloc (.cells c 34)).drewN nq := by
  go_enter Fahg.func122, Fahg.ntmps122
  go_wp2_with fail
  go_quiet (fail)
  go_wp2_with fail
  all_goals try omega
  go_ret
  exact ⟨ret_int (by first | rfl | omega), _, _, rfl⟩
set_option maxHeartbeats 400000 in
theorem own_ptrs (data ptrs count : Int) (d0 : 0 ≤ data) (d1 : data ≤ 8) (p0 : 0 ≤ ptrs) (p1 : ptrs ≤ 8) (n0 : 0 ≤ count) (n1 : count ≤ 128) (w : World) :
    Calls Fahg.prog 122 #[.agg #[.int .u8 2, .int .u16 0, .int .u8 data, .int .u8 ptrs, .int .u8 6, .int .u16 count]] w fun e w' => e = .returned (.int .i64 count) ∧ ∃ c nq, w' = (w.alloc (.cells c 34)).drewN nq := by
  go_enter Fahg.func122, Fahg.ntmps122
  go_wp2_with fail
  go_quiet (fail)
  go_wp2_with fail
  all_goals try omega
  go_ret
  exact ⟨ret_int (by first | rfl | omega), _, _, rfl⟩
set_option maxHeartbeats 400000 in
theorem own_structs (data ptrs count m : Int) (hm : Hid (m = count * (data + ptrs))) (m0 : 0 ≤ m) (m1 : m ≤ 2048) (d0 : 0 ≤ data) (d1 : data ≤ 8) (p0 : 0 ≤ ptrs) (p1 : ptrs ≤ 8) (n0 : 0 ≤ count) (n1 : count ≤ 128) (w : World) :
    Calls Fahg.prog 122 #[.agg #[.int .u8 2, .int .u16 0, .int .u8 data, .int .u8 ptrs, .int .u8 7, .int .u16 count]] w fun e w' => e = .returned (.int .i64 (min (1 + m) 257)) ∧ ∃ c nq, w' = (w.alloc (.cells c 34)).drewN nq := by
  have hc : wrap64 (count * (data + ptrs)) = m := by rw [← hm.out]; unfold wrap64; omega
  go_enter Fahg.func122, Fahg.ntmps122
  go_wp2_with fail
  go_quiet (fail)
  go_wp2_with fail
  all_goals try omega
  all_goals go_ret
  all_goals exact ⟨ret_int (by omega), _, _, rfl⟩
theorem ix0 (w : World) : Sem.run Fahg.prog (Instr.index 266 (.agg #[.int .i64 8, .int .i64 16, .int .i64 32, .int .i64 64]) (.int .u8 0)) w = .ok (.int .i64 8) w := by kernel_rfl
theorem ix1 (w : World) : Sem.run Fahg.prog (Instr.index 266 (.agg #[.int .i64 8, .int .i64 16, .int .i64 32, .int .i64 64]) (.int .u8 1)) w = .ok (.int .i64 16) w := by kernel_rfl
theorem ix2 (w : World) : Sem.run Fahg.prog (Instr.index 266 (.agg #[.int .i64 8, .int .i64 16, .int .i64 32, .int .i64 64]) (.int .u8 2)) w = .ok (.int .i64 32) w := by kernel_rfl
theorem ix3 (w : World) : Sem.run Fahg.prog (Instr.index 266 (.agg #[.int .i64 8, .int .i64 16, .int .i64 32, .int .i64 64]) (.int .u8 3)) w = .ok (.int .i64 64) w := by kernel_rfl
set_option maxHeartbeats 400000 in
theorem own_list (data ptrs code count : Int) (d0 : 0 ≤ data) (d1 : data ≤ 8) (p0 : 0 ≤ ptrs) (p1 : ptrs ≤ 8) (c0 : 2 ≤ code) (c1 : code ≤ 5) (n0 : 0 ≤ count) (n1 : count ≤ 128) (w : World) :
    Calls Fahg.prog 122 #[.agg #[.int .u8 2, .int .u16 0, .int .u8 data, .int .u8 ptrs, .int .u8 code, .int .u16 count]] w fun e w' => e = .returned (.int .i64 ((count * elW code + 7) / 8)) ∧ ∃ c nq, w' = (w.alloc (.cells c 34)).drewN nq := by
  have i0 := ix0
  have i1 := ix1
  have i2 := ix2
  have i3 := ix3
  have m0 : (count * 8).tmod 64 = (count * 8) % 64 := Int.tmod_eq_emod_of_nonneg (by omega)
  have m1 : (count * 16).tmod 64 = (count * 16) % 64 := Int.tmod_eq_emod_of_nonneg (by omega)
  have m2 : (count * 32).tmod 64 = (count * 32) % 64 := Int.tmod_eq_emod_of_nonneg (by omega)
  have m3 : (count * 64).tmod 64 = (count * 64) % 64 := Int.tmod_eq_emod_of_nonneg (by omega)
  have : code = 2 ∨ code = 3 ∨ code = 4 ∨ code = 5 := by omega
  rcases this with rfl | rfl | rfl | rfl
  all_goals
    go_enter Fahg.func122, Fahg.ntmps122
    go_wp2_with fail
    go_quiet (fail)
    go_wp2_with fail
    go_quiet (fail)
    go_wp2_with fail
    all_goals try omega
    all_goals go_ret
    all_goals refine ⟨ret_int ?_, _, _, rfl⟩
    all_goals rename_i hb
    all_goals try simp at hb
    all_goals simp [elW]
    all_goals omega
end Go.Proofs.Ygcfah
