/- law.EmptyNil: what it calls, at the empty inputs. -/
import Derived.Test.YgcfahBits
import Derived.Deep.AppendSrc
import Derived.Deep.RegionHeld3
import Derived.Laws.Cover3
namespace Go.Proofs.Ygcfah
open Go.RowKit
set_option linter.unusedVariables false
set_option linter.unusedSimpArgs false
theorem i5a : (Fahg.prog.info? 5).bind (·.zero) = some (.int .u8 0) := by kernel_rfl
theorem i5b : (Fahg.prog.info? 5).map (·.size) = some 1 := by kernel_rfl
theorem i5c : (Fahg.prog.info? 5).map (·.bytes) = some 1 := by kernel_rfl
theorem info5 : ∃ i, Fahg.prog.info? 5 = some i ∧ i.zero = some (.int .u8 0) ∧ i.size = 1 ∧ i.bytes = 1 := by
  have a := i5a
  have b := i5b
  have c := i5c
  cases hi : Fahg.prog.info? 5 with
  | none => rw [hi] at b; simp at b
  | some i =>
    rw [hi] at a b c
    exact ⟨i, rfl, by simpa using a, by simpa using b, by simpa using c⟩
theorem made0 : madeCells (Value.int .u8 0).cells ((0 : Int).toNat * 1) = #[] := by kernel_rfl
theorem made16 : madeCells (Value.int .u8 0).cells ((16 : Int).toNat * 1) = #[.int .u8 0, .int .u8 0, .int .u8 0, .int .u8 0, .int .u8 0, .int .u8 0, .int .u8 0, .int .u8 0, .int .u8 0, .int .u8 0, .int .u8 0, .int .u8 0, .int .u8 0, .int .u8 0, .int .u8 0, .int .u8 0] := by kernel_rfl
theorem make0 (w : World) : Sem.run Fahg.prog (Instr.makeSlice 22 (.int .i64 0) (.int .i64 0)) w = .ok (.slice (some ⟨w.heap.size, 0, none⟩) 0 0) (w.alloc (.cells #[] 5)) := by
  obtain ⟨i, hi, hz, hsz, hby⟩ := info5
  have h := run_makeSlice (P := Fahg.prog) w 22 5 i (.int .u8 0) Fahg.underlying22 hi hz .i64 .i64 0 0 (by decide) (by decide) (by rw [hsz]; decide) (by rw [hby]; decide) (by decide)
  rw [hsz, made0] at h
  exact h
theorem make16 (w : World) : Sem.run Fahg.prog (Instr.makeSlice 22 (.int .i64 0) (.int .i64 16)) w = .ok (.slice (some ⟨w.heap.size, 0, none⟩) 0 16) (w.alloc (.cells #[.int .u8 0, .int .u8 0, .int .u8 0, .int .u8 0, .int .u8 0, .int .u8 0, .int .u8 0, .int .u8 0, .int .u8 0, .int .u8 0, .int .u8 0, .int .u8 0, .int .u8 0, .int .u8 0, .int .u8 0, .int .u8 0] 5)) := by
  obtain ⟨i, hi, hz, hsz, hby⟩ := info5
  have h := run_makeSlice (P := Fahg.prog) w 22 5 i (.int .u8 0) Fahg.underlying22 hi hz .i64 .i64 0 16 (by decide) (by decide) (by rw [hsz]; decide) (by rw [hby]; decide) (by decide)
  rw [hsz, made16] at h
  exact h
set_option maxRecDepth 100000 in
set_option maxHeartbeats 1000000 in
theorem pack_nil (w : World) : Calls Fahg.prog 22 #[.slice none 0 0] w fun e w' => e = .returned (.slice none 0 0) ∧ w' = w := by
  go_enter Fahg.func22, Fahg.ntmps22
  go_wp2_with fail
  go_ret
  exact ⟨rfl, rfl⟩
set_option maxRecDepth 100000 in
set_option maxHeartbeats 1000000 in
theorem unpack_nil (a0 : Option Addr) (cap : Nat) (w : World) : Calls Fahg.prog 18 #[.slice a0 0 cap] w fun e w' => e = .returned (.tuple #[.slice none 0 0, .bool true]) ∧ Below w.heap.size w w' := by
  go_enter Fahg.func18, Fahg.ntmps18
  go_wp2_with fail
  go_loop [2] (fun v => v = .slice none 0 0) (fun _ => 0)
  case atStart => rfl
  case round =>
    subst hrel
    go_wp2_with fail
    go_ret2
    exact ⟨rfl, below_alloc (Below.refl _ _) (Nat.le_refl _) _⟩
set_option maxRecDepth 100000 in
set_option maxHeartbeats 1000000 in
theorem layout_nil (w : World) : Calls Fahg.prog 21 #[.slice none 0 0] w fun e w' => e = .returned (.tuple #[.slice none 0 0, .int .u8 0, .int .u8 0, .bool true]) ∧ Below w.heap.size w w' := by
  go_enter Fahg.func21, Fahg.ntmps21
  go_wp2_with fail
  go_loop [2, 3, 4, 23] (fun v a b i => v = .slice none 0 0 ∧ a = .int .u8 0 ∧ b = .int .u8 0 ∧ i = .int .i64 0) (fun _ _ _ _ => 0)
  case atStart => exact ⟨rfl, rfl, rfl, rfl⟩
  case round =>
    obtain ⟨rfl, rfl, rfl, rfl⟩ := hrel
    go_wp2_with fail
    refine bodyPost_ret (v := .tuple #[.slice none 0 0, .int .u8 0, .int .u8 0, .bool true]) (by simp [results, Fahg.results21, go_sem]) rfl ⟨rfl, ?_⟩
    exact below_alloc (Below.refl _ _) (Nat.le_refl _) _
set_option maxRecDepth 100000 in
set_option maxHeartbeats 1000000 in
theorem sum_empty (a0 : Option Addr) (cap : Nat) (w : World) : Calls Fahg.prog 69 #[.slice a0 0 cap] w fun e w' => e = .returned (.int .u32 2166136261) ∧ w' = w := by
  go_enter Fahg.func69, Fahg.ntmps69
  go_wp2
  go_loop [0, 9] (fun v i => v = .int .u32 2166136261 ∧ i = .int .i64 0) (fun _ _ => 0)
  case atStart => exact ⟨rfl, rfl⟩
  case round =>
    obtain ⟨rfl, rfl⟩ := hrel
    go_wp2
    go_ret
    exact ⟨rfl, rfl⟩
set_option maxRecDepth 100000 in
set_option maxHeartbeats 1000000 in
theorem bytes_a (w : World) : Calls Fahg.prog 71 #[.int .u64 5122709335] w fun e w' => e = .returned (.agg #[.int .u8 87, .int .u8 87, .int .u8 86, .int .u8 49, .int .u8 1, .int .u8 0, .int .u8 0, .int .u8 0]) ∧ w' = w.alloc (.cells #[.int .u8 87, .int .u8 87, .int .u8 86, .int .u8 49, .int .u8 1, .int .u8 0, .int .u8 0, .int .u8 0] 141) := by
  go_enter Fahg.func71, Fahg.ntmps71
  go_wp2
  exact bodyPost_ret (v := .agg #[.int .u8 87, .int .u8 87, .int .u8 86, .int .u8 49, .int .u8 1, .int .u8 0, .int .u8 0, .int .u8 0]) (by simp [results, Fahg.results71, go_sem]) rfl ⟨rfl, rfl⟩
set_option maxRecDepth 100000 in
set_option maxHeartbeats 1000000 in
theorem bytes_b (w : World) : Calls Fahg.prog 71 #[.int .u64 281480099419991] w fun e w' => e = .returned (.agg #[.int .u8 87, .int .u8 87, .int .u8 86, .int .u8 49, .int .u8 1, .int .u8 0, .int .u8 1, .int .u8 0]) ∧ w' = w.alloc (.cells #[.int .u8 87, .int .u8 87, .int .u8 86, .int .u8 49, .int .u8 1, .int .u8 0, .int .u8 1, .int .u8 0] 141) := by
  go_enter Fahg.func71, Fahg.ntmps71
  go_wp2
  exact bodyPost_ret (v := .agg #[.int .u8 87, .int .u8 87, .int .u8 86, .int .u8 49, .int .u8 1, .int .u8 0, .int .u8 1, .int .u8 0]) (by simp [results, Fahg.results71, go_sem]) rfl ⟨rfl, rfl⟩
set_option maxRecDepth 100000 in
set_option maxHeartbeats 1000000 in
theorem bytes_s (w : World) : Calls Fahg.prog 71 #[.int .u64 9303484399674720256] w fun e w' => e = .returned (.agg #[.int .u8 0, .int .u8 0, .int .u8 0, .int .u8 0, .int .u8 197, .int .u8 157, .int .u8 28, .int .u8 129]) ∧ w' = w.alloc (.cells #[.int .u8 0, .int .u8 0, .int .u8 0, .int .u8 0, .int .u8 197, .int .u8 157, .int .u8 28, .int .u8 129] 141) := by
  go_enter Fahg.func71, Fahg.ntmps71
  go_wp2
  exact bodyPost_ret (v := .agg #[.int .u8 0, .int .u8 0, .int .u8 0, .int .u8 0, .int .u8 197, .int .u8 157, .int .u8 28, .int .u8 129]) (by simp [results, Fahg.results71, go_sem]) rfl ⟨rfl, rfl⟩
theorem o1 : bits .or .u64 5122709335 0 = 5122709335 := by kernel_rfl
theorem o2 : bits .or .u64 5122709335 281474976710656 = 281480099419991 := by kernel_rfl
theorem o3 : bits .or .u64 0 9303484399674720256 = 9303484399674720256 := by kernel_rfl
set_option maxRecDepth 100000 in
set_option maxHeartbeats 4000000 in
theorem seal_f (w : World) : Calls Fahg.prog 20 #[.slice none 0 0, .bool false] w fun e w' => ∃ g, e = .returned (.slice (some ⟨g, 0, none⟩) 16 16) ∧ Below w.heap.size w w' ∧ g < w'.heap.size ∧ ∀ o, w'.cell? ⟨g, o, none⟩ = #[.int .u8 87, .int .u8 87, .int .u8 86, .int .u8 49, .int .u8 1, .int .u8 0, .int .u8 0, .int .u8 0, .int .u8 0, .int .u8 0, .int .u8 0, .int .u8 0, .int .u8 197, .int .u8 157, .int .u8 28, .int .u8 129][o]? := by
  have m0 := make0
  have m16 := make16
  have q1 := o1
  have q3 := o3
  go_enter Fahg.func20, Fahg.ntmps20
  go_wp2_with fail
  go_loop [5, 25] (fun v i => v = .slice (some ⟨w.heap.size, 0, none⟩) 0 0 ∧ i = .int .i64 0) (fun _ _ => 0)
  case atStart => exact ⟨rfl, rfl⟩
  case round =>
    obtain ⟨rfl, rfl⟩ := hrel
    go_wp2_with fail
    refine (bytes_a _).mono ?_; rintro e w1 ⟨rfl, rfl⟩
    go_wp2_with fail
    refine (sum_empty _ _ _).mono ?_; rintro e w1 ⟨rfl, rfl⟩
    go_wp2_with fail
    refine (bytes_s _).mono ?_; rintro e w1 ⟨rfl, rfl⟩
    go_wp2_with fail
    go_ret
    refine ⟨w.heap.size + 1 + 1 + 1 + 1 + 1, rfl, ?_, by simp, fun o => World.cell?_alloc_at _ _ _ _ (by simp)⟩
    repeat' (first | exact Below.refl _ _ | refine below_alloc ?_ (Nat.le_refl _) _)

set_option maxRecDepth 100000 in
set_option maxHeartbeats 4000000 in
theorem seal_t (w : World) : Calls Fahg.prog 20 #[.slice none 0 0, .bool true] w fun e w' => ∃ g, e = .returned (.slice (some ⟨g, 0, none⟩) 16 16) ∧ Below w.heap.size w w' ∧ g < w'.heap.size ∧ ∀ o, w'.cell? ⟨g, o, none⟩ = #[.int .u8 87, .int .u8 87, .int .u8 86, .int .u8 49, .int .u8 1, .int .u8 0, .int .u8 1, .int .u8 0, .int .u8 0, .int .u8 0, .int .u8 0, .int .u8 0, .int .u8 197, .int .u8 157, .int .u8 28, .int .u8 129][o]? := by
  have m0 := make0
  have m16 := make16
  have q1 := o2
  have q3 := o3
  go_enter Fahg.func20, Fahg.ntmps20
  go_wp2_with fail
  refine (pack_nil _).mono ?_; rintro e w1 ⟨rfl, rfl⟩
  go_wp2_with fail
  refine (bytes_b _).mono ?_; rintro e w1 ⟨rfl, rfl⟩
  go_wp2_with fail
  refine (sum_empty _ _ _).mono ?_; rintro e w1 ⟨rfl, rfl⟩
  go_wp2_with fail
  refine (bytes_s _).mono ?_; rintro e w1 ⟨rfl, rfl⟩
  go_wp2_with fail
  go_ret
  refine ⟨_, rfl, ?_, by simp, fun o => World.cell?_alloc_at _ _ _ _ (by simp)⟩
  repeat' (first | exact Below.refl _ _ | refine below_alloc ?_ (Nat.le_refl _) _)

set_option maxRecDepth 100000 in
set_option maxHeartbeats 4000000 in
theorem word_a (w : World) : Calls Fahg.prog 111 #[.agg #[.int .u8 87, .int .u8 87, .int .u8 86, .int .u8 49, .int .u8 1, .int .u8 0, .int .u8 0, .int .u8 0]] w fun e w' => e = .returned (.int .u64 5122709335) ∧ ∃ c, w' = w.alloc (.cells c 141) := by
  go_enter Fahg.func111, Fahg.ntmps111
  go_wp2
  go_ret
  exact ⟨ret_int (by kernel_rfl), _, rfl⟩
set_option maxRecDepth 100000 in
set_option maxHeartbeats 4000000 in
theorem word_b (w : World) : Calls Fahg.prog 111 #[.agg #[.int .u8 87, .int .u8 87, .int .u8 86, .int .u8 49, .int .u8 1, .int .u8 0, .int .u8 1, .int .u8 0]] w fun e w' => e = .returned (.int .u64 281480099419991) ∧ ∃ c, w' = w.alloc (.cells c 141) := by
  go_enter Fahg.func111, Fahg.ntmps111
  go_wp2
  go_ret
  exact ⟨ret_int (by kernel_rfl), _, rfl⟩
set_option maxRecDepth 100000 in
set_option maxHeartbeats 4000000 in
theorem word_s (w : World) : Calls Fahg.prog 111 #[.agg #[.int .u8 0, .int .u8 0, .int .u8 0, .int .u8 0, .int .u8 197, .int .u8 157, .int .u8 28, .int .u8 129]] w fun e w' => e = .returned (.int .u64 9303484399674720256) ∧ ∃ c, w' = w.alloc (.cells c 141) := by
  go_enter Fahg.func111, Fahg.ntmps111
  go_wp2
  go_ret
  exact ⟨ret_int (by kernel_rfl), _, rfl⟩
set_option maxRecDepth 100000 in
set_option maxHeartbeats 4000000 in
theorem header_f (g : Nat) (w : World) (hg : g < w.heap.size) (hc : ∀ o, w.cell? ⟨g, o, none⟩ = #[.int .u8 87, .int .u8 87, .int .u8 86, .int .u8 49, .int .u8 1, .int .u8 0, .int .u8 0, .int .u8 0, .int .u8 0, .int .u8 0, .int .u8 0, .int .u8 0, .int .u8 197, .int .u8 157, .int .u8 28, .int .u8 129][o]?) :
    Calls Fahg.prog 46 #[.slice (some ⟨g, 0, none⟩) 16 16] w fun e w' => e = .returned (.tuple #[.agg #[.int .u32 827742039, .int .u16 1, .int .u16 0, .int .u32 0, .int .u32 2166136261], .bool true]) ∧ Below w.heap.size w w' := by
  have hgs : ∀ o, g < (w.alloc o).heap.size := fun o => by simp; omega
  have hgs2 : ∀ o o', g < ((w.alloc o).alloc o').heap.size := fun o o' => by simp; omega
  have hg1 : g < w.heap.size + 1 := by omega
  have hg2 : g < w.heap.size + 1 + 1 := by omega
  have tok1 : True := trivial
  have ha0 : ∀ w, Sem.run Fahg.prog (Instr.arrayAt 141 (.slice (some ⟨g, 0, none⟩) 8 16)) w = .ok (.pointer (some ⟨g, 0, none⟩)) w := fun w => run_arrayAt w 141 5 8 _ 8 16 Fahg.underlying141 (by decide)
  have ha8 : ∀ w, Sem.run Fahg.prog (Instr.arrayAt 141 (.slice (some ⟨g, 8, none⟩) 8 8)) w = .ok (.pointer (some ⟨g, 8, none⟩)) w := fun w => run_arrayAt w 141 5 8 _ 8 8 Fahg.underlying141 (by decide)
  go_enter Fahg.func46, Fahg.ntmps46
  go_wp2_with fail
  go_region_held3 (fun w' => w'.cell? ⟨g, 0, none⟩ = some (.int .u8 87) ∧ w'.cell? ⟨g, 1, none⟩ = some (.int .u8 87) ∧ w'.cell? ⟨g, 2, none⟩ = some (.int .u8 86) ∧ w'.cell? ⟨g, 3, none⟩ = some (.int .u8 49) ∧ w'.cell? ⟨g, 4, none⟩ = some (.int .u8 1) ∧ w'.cell? ⟨g, 5, none⟩ = some (.int .u8 0) ∧ w'.cell? ⟨g, 6, none⟩ = some (.int .u8 0) ∧ w'.cell? ⟨g, 7, none⟩ = some (.int .u8 0) ∧ w'.cell? ⟨g, 8, none⟩ = some (.int .u8 0) ∧ w'.cell? ⟨g, 9, none⟩ = some (.int .u8 0) ∧ w'.cell? ⟨g, 10, none⟩ = some (.int .u8 0) ∧ w'.cell? ⟨g, 11, none⟩ = some (.int .u8 0) ∧ w'.cell? ⟨g, 12, none⟩ = some (.int .u8 197) ∧ w'.cell? ⟨g, 13, none⟩ = some (.int .u8 157) ∧ w'.cell? ⟨g, 14, none⟩ = some (.int .u8 28) ∧ w'.cell? ⟨g, 15, none⟩ = some (.int .u8 129)) ((repeat' apply And.intro) <;> first | assumption | (simp [go_sem, hc, hg, hg1, hg2]; done))
    (first | (go_at_call 111; have _t := tok1; clear _t tok1; refine (word_a _).mono ?_; rintro e w' ⟨rfl, c1, rfl⟩) | (go_at_call 111; refine (word_s _).mono ?_; rintro e w' ⟨rfl, c1, rfl⟩))
  all_goals go_wp2_with fail
  all_goals refine bodyPost_ret (v := .tuple #[.agg #[.int .u32 827742039, .int .u16 1, .int .u16 0, .int .u32 0, .int .u32 2166136261], .bool true]) (by simp [results, Fahg.results46, go_sem, IntKind.wrap_u16]) rfl ⟨rfl, ?_⟩
  all_goals repeat' (first | exact Below.refl _ _ | refine Below.drew ?_ | refine below_alloc ?_ (Nat.le_refl _) _)

set_option maxRecDepth 100000 in
set_option maxHeartbeats 4000000 in
theorem header_t (g : Nat) (w : World) (hg : g < w.heap.size) (hc : ∀ o, w.cell? ⟨g, o, none⟩ = #[.int .u8 87, .int .u8 87, .int .u8 86, .int .u8 49, .int .u8 1, .int .u8 0, .int .u8 1, .int .u8 0, .int .u8 0, .int .u8 0, .int .u8 0, .int .u8 0, .int .u8 197, .int .u8 157, .int .u8 28, .int .u8 129][o]?) :
    Calls Fahg.prog 46 #[.slice (some ⟨g, 0, none⟩) 16 16] w fun e w' => e = .returned (.tuple #[.agg #[.int .u32 827742039, .int .u16 1, .int .u16 1, .int .u32 0, .int .u32 2166136261], .bool true]) ∧ Below w.heap.size w w' := by
  have hgs : ∀ o, g < (w.alloc o).heap.size := fun o => by simp; omega
  have hgs2 : ∀ o o', g < ((w.alloc o).alloc o').heap.size := fun o o' => by simp; omega
  have hg1 : g < w.heap.size + 1 := by omega
  have hg2 : g < w.heap.size + 1 + 1 := by omega
  have tok1 : True := trivial
  have ha0 : ∀ w, Sem.run Fahg.prog (Instr.arrayAt 141 (.slice (some ⟨g, 0, none⟩) 8 16)) w = .ok (.pointer (some ⟨g, 0, none⟩)) w := fun w => run_arrayAt w 141 5 8 _ 8 16 Fahg.underlying141 (by decide)
  have ha8 : ∀ w, Sem.run Fahg.prog (Instr.arrayAt 141 (.slice (some ⟨g, 8, none⟩) 8 8)) w = .ok (.pointer (some ⟨g, 8, none⟩)) w := fun w => run_arrayAt w 141 5 8 _ 8 8 Fahg.underlying141 (by decide)
  go_enter Fahg.func46, Fahg.ntmps46
  go_wp2_with fail
  go_region_held3 (fun w' => w'.cell? ⟨g, 0, none⟩ = some (.int .u8 87) ∧ w'.cell? ⟨g, 1, none⟩ = some (.int .u8 87) ∧ w'.cell? ⟨g, 2, none⟩ = some (.int .u8 86) ∧ w'.cell? ⟨g, 3, none⟩ = some (.int .u8 49) ∧ w'.cell? ⟨g, 4, none⟩ = some (.int .u8 1) ∧ w'.cell? ⟨g, 5, none⟩ = some (.int .u8 0) ∧ w'.cell? ⟨g, 6, none⟩ = some (.int .u8 1) ∧ w'.cell? ⟨g, 7, none⟩ = some (.int .u8 0) ∧ w'.cell? ⟨g, 8, none⟩ = some (.int .u8 0) ∧ w'.cell? ⟨g, 9, none⟩ = some (.int .u8 0) ∧ w'.cell? ⟨g, 10, none⟩ = some (.int .u8 0) ∧ w'.cell? ⟨g, 11, none⟩ = some (.int .u8 0) ∧ w'.cell? ⟨g, 12, none⟩ = some (.int .u8 197) ∧ w'.cell? ⟨g, 13, none⟩ = some (.int .u8 157) ∧ w'.cell? ⟨g, 14, none⟩ = some (.int .u8 28) ∧ w'.cell? ⟨g, 15, none⟩ = some (.int .u8 129)) ((repeat' apply And.intro) <;> first | assumption | (simp [go_sem, hc, hg, hg1, hg2]; done))
    (first | (go_at_call 111; have _t := tok1; clear _t tok1; refine (word_b _).mono ?_; rintro e w' ⟨rfl, c1, rfl⟩) | (go_at_call 111; refine (word_s _).mono ?_; rintro e w' ⟨rfl, c1, rfl⟩))
  all_goals go_wp2_with fail
  all_goals refine bodyPost_ret (v := .tuple #[.agg #[.int .u32 827742039, .int .u16 1, .int .u16 1, .int .u32 0, .int .u32 2166136261], .bool true]) (by simp [results, Fahg.results46, go_sem, IntKind.wrap_u16]) rfl ⟨rfl, ?_⟩
  all_goals repeat' (first | exact Below.refl _ _ | refine Below.drew ?_ | refine below_alloc ?_ (Nat.le_refl _) _)

set_option maxRecDepth 100000 in
set_option maxHeartbeats 4000000 in
theorem words_f (a0 : Option Addr) (cap : Nat) (w : World) : Calls Fahg.prog 70 #[.slice a0 0 cap, .bool false, .int .i64 0] w fun e w' => e = .returned (.tuple #[.slice none 0 0, .bool true]) ∧ Below w.heap.size w w' := by
  go_enter Fahg.func70, Fahg.ntmps70
  go_wp2_with fail
  go_ret2
  exact ⟨rfl, Below.refl _ _⟩
set_option maxRecDepth 100000 in
set_option maxHeartbeats 4000000 in
theorem words_t (a0 : Option Addr) (cap : Nat) (w : World) : Calls Fahg.prog 70 #[.slice a0 0 cap, .bool true, .int .i64 0] w fun e w' => e = .returned (.tuple #[.slice none 0 0, .bool true]) ∧ Below w.heap.size w w' := by
  go_enter Fahg.func70, Fahg.ntmps70
  go_wp2_with fail
  refine (unpack_nil _ _ _).mono ?_; rintro e w1 ⟨rfl, hb⟩
  go_wp2_with fail
  go_ret2
  exact ⟨rfl, hb⟩
end Go.Proofs.Ygcfah
