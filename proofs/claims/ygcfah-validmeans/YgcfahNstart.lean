/- valid.Start. -/
import Derived.Test.YgcfahNfol
import Derived.Test.YgcfahWk
import Derived.Test.YgcfahMst
import Derived.Deep.WholeRow
namespace Go.Proofs.Ygcfah
open Go.RowKit
set_option linter.unusedVariables false
set_option linter.unusedSimpArgs false

theorem z177_size : Fahg.zeroCells177.size = 517 := by kernel_rfl
theorem z177_one : Fahg.zeroCells177.all (·.oneCell') = true := by kernel_rfl
theorem z177_at : (List.range 256).all (fun i => isU16 Fahg.zeroCells177[4 + i * 2]?) = true := by kernel_rfl
theorem z177_dp : (List.range 256).all (fun i => isU8 Fahg.zeroCells177[4 + i * 2 + 1]?) = true := by kernel_rfl
theorem z177_set : (List.range 4).all (fun i => isU64 Fahg.zeroCells177[i]?) = true := by kernel_rfl
theorem z177_n : isU16 Fahg.zeroCells177[516]? = true := by kernel_rfl
theorem z177_info : (Fahg.prog.info? 177).map (·.size) = some 517 := by kernel_rfl

set_option maxRecDepth 100000 in
set_option maxHeartbeats 400000 in
/-- push of word 0 alone, to the letter. -/
theorem npush_one (g : Nat) (w : World) (h1 : w.cell? ⟨g, 516, none⟩ = some (.int .u16 0)) (h2 : ∃ x, w.cell? ⟨g, 4, none⟩ = some x) (h3 : ∃ x, w.cell? ⟨g, 5, none⟩ = some x) (f1 : w.frozen? ⟨g, 516, none⟩ = false) (f2 : w.frozen? ⟨g, 4, none⟩ = false) (f3 : w.frozen? ⟨g, 5, none⟩ = false) :
    Calls Fahg.prog 145 #[.pointer (some ⟨g, 0, none⟩), .int .u16 0, .int .u16 1, .int .u8 0] w fun e w' => e = .returned (.tuple #[]) ∧ w' = (((w.setCell ⟨g, 4, none⟩ (.int .u16 0)).setCell ⟨g, 5, none⟩ (.int .u8 0)).setCell ⟨g, 516, none⟩ (.int .u16 1)).drew := by
  obtain ⟨x4, h2⟩ := h2
  obtain ⟨x5, h3⟩ := h3
  go_enter Fahg.func145, Fahg.ntmps145
  go_wp2_with fail
  go_loopg [8] 1 (fun k I wr => (k = 1 ∧ I = .int .u16 0 ∧ wr = w) ∨ (k = 0 ∧ I = .int .u16 1 ∧ wr = (((w.setCell ⟨g, 4, none⟩ (.int .u16 0)).setCell ⟨g, 5, none⟩ (.int .u8 0)).setCell ⟨g, 516, none⟩ (.int .u16 1)).drew))
  case atStart => exact .inl ⟨rfl, rfl, rfl⟩
  case round =>
    rcases hrel with ⟨rfl, rfl, rfl⟩ | ⟨rfl, rfl, rfl⟩
    · go_wp2_with fail
      go_region
      go_wp2_with fail
      go_roundg 0
      case rel => exact .inr ⟨rfl, rfl, rfl⟩
      case measure => omega
    · go_wp2_with fail
      exact bodyPost_end (v := .tuple #[]) (by simp [results, Fahg.results145]) rfl ⟨rfl, rfl⟩

theorem heap_setCell_at {w : World} {g : Nat} {c : Array Value} {t : TypeId} {f : Nat × Nat} (h : w.heap[g]? = some (.cells c t f)) (o : Nat) (v : Value) : (w.setCell ⟨g, o, none⟩ v).heap[g]? = some (.cells (c.setIfInBounds o v) t f) := by
  simp [World.setCell, Array.getElem?_modify, h]
/-- The walk at its beginning. -/
noncomputable def startC : Array Value := (((Fahg.zeroCells177.setIfInBounds 0 (.int .u64 1)).setIfInBounds 4 (.int .u16 0)).setIfInBounds 5 (.int .u8 0)).setIfInBounds 516 (.int .u16 1)
theorem startC_size : startC.size = 517 := by simp [startC, z177_size]
theorem startC_one : startC.all (·.oneCell') = true := by
  rw [Array.all_eq_true_iff_forall_mem]
  intro x hx
  unfold startC at hx
  rcases Array.mem_or_eq_of_mem_setIfInBounds hx with hx | rfl
  · rcases Array.mem_or_eq_of_mem_setIfInBounds hx with hx | rfl
    · rcases Array.mem_or_eq_of_mem_setIfInBounds hx with hx | rfl
      · rcases Array.mem_or_eq_of_mem_setIfInBounds hx with hx | rfl
        · exact (Array.all_eq_true_iff_forall_mem.1 z177_one) x hx
        · rfl
      · rfl
    · rfl
  · rfl
set_option maxRecDepth 100000 in
set_option maxHeartbeats 400000 in
theorem start_in (a0 : Option Addr) (len cap : Nat) (w : World) (h1 : 1 ≤ len) (h2 : len ≤ 256) :
    Calls Fahg.prog 91 #[.slice a0 len cap] w fun e w' => e = .returned (.tuple #[.agg startC, .bool true]) ∧ Below w.heap.size w w' := by
  have h1 : decide ((len : Int) < 1) = false := by simp; omega
  have h2 : decide ((256 : Int) < len) = false := by simp; omega
  go_enter Fahg.func91, Fahg.ntmps91
  go_wp2_with fail
  have hsz := z177_size
  have c4 := isU16_eq ((List.all_eq_true.1 z177_at) 0 (List.mem_range.2 (by omega)))
  have c5 := isU8_eq ((List.all_eq_true.1 z177_dp) 0 (List.mem_range.2 (by omega)))
  have c516 := isU16_eq z177_n
  simp only [Nat.zero_mul, Nat.add_zero] at c4 c5
  have hs0 : (w.alloc (Obj.cells Fahg.zeroCells177 177)).heap.size = w.heap.size + 1 := by simp
  have k : ∀ o, ((w.alloc (Obj.cells Fahg.zeroCells177 177)).alloc (Obj.cells (Fahg.zeroCells177.setIfInBounds 0 (Value.int IntKind.u64 1)) 177)).cell? ⟨w.heap.size + 1, o, none⟩ = (Fahg.zeroCells177.setIfInBounds 0 (Value.int IntKind.u64 1))[o]? := fun o => World.cell?_alloc_at _ _ _ _ hs0.symm
  have k516 := (k 516).trans ((Array.getElem?_setIfInBounds_ne (by omega)).trans c516)
  have k4 := (k 4).trans ((Array.getElem?_setIfInBounds_ne (by omega)).trans c4)
  have k5 := (k 5).trans ((Array.getElem?_setIfInBounds_ne (by omega)).trans c5)
  refine (npush_one (w.heap.size + 1) _ k516 ⟨_, k4⟩ ⟨_, k5⟩ (by simp [go_sem]) (by simp [go_sem]) (by simp [go_sem])).mono ?_
  rintro e w1 ⟨rfl, hw1⟩
  have q1 : w1.heap[w.heap.size + 1]? = some (.cells startC 177 (0, 0)) := by
    rw [hw1]
    have b0 : ((w.alloc (Obj.cells Fahg.zeroCells177 177)).alloc (Obj.cells (Fahg.zeroCells177.setIfInBounds 0 (Value.int IntKind.u64 1)) 177)).heap[w.heap.size + 1]? = some (.cells (Fahg.zeroCells177.setIfInBounds 0 (Value.int IntKind.u64 1)) 177 (0, 0)) := by
      have := heap_alloc_last (w.alloc (Obj.cells Fahg.zeroCells177 177)) (Obj.cells (Fahg.zeroCells177.setIfInBounds 0 (Value.int IntKind.u64 1)) 177)
      rw [hs0] at this; exact this
    exact heap_setCell_at (heap_setCell_at (heap_setCell_at b0 _ _) _ _) _ _
  have q0 : w1.heap[w.heap.size]? = some (.cells Fahg.zeroCells177 177 (0, 0)) := by
    rw [hw1]
    have b0 : ((w.alloc (Obj.cells Fahg.zeroCells177 177)).alloc (Obj.cells (Fahg.zeroCells177.setIfInBounds 0 (Value.int IntKind.u64 1)) 177)).heap[w.heap.size]? = some (.cells Fahg.zeroCells177 177 (0, 0)) := (heap_alloc_old _ _ (by simp)).trans (heap_alloc_last _ _)
    exact (heap_set_other _ (by simp)).trans ((heap_set_other _ (by simp)).trans ((heap_set_other _ (by simp)).trans b0))
  have HB : Hid (Below w.heap.size w w1) := by
    rw [hw1]
    exact Below.drew (Below.setCell (Below.setCell (Below.setCell (below_alloc (below_alloc (Below.refl _ _) (Nat.le_refl _) _) (Nat.le_refl _) _) (by simp) _) (by simp) _) (by simp) _)
  have hi1 : (Fahg.prog.info? 177).map (·.size) = some startC.size := by rw [startC_size]; exact z177_info
  have hone := startC_one
  have hszz : Fahg.zeroCells177.size = startC.size := by rw [startC_size, z177_size]
  generalize Fahg.zeroCells177 = Z at *
  have Q1 : Hid _ := q1
  have Q0 : Hid _ := q0
  have HI : Hid _ := hi1
  have HO : Hid _ := hone
  have HZ : Hid _ := hszz
  clear hw1 q1 q0 hi1 hone hszz c4 c5 c516 hs0 k hsz k516 k4 k5
  go_wp2_with (first | refine wpList_load_row rfl 177 _ rfl _ rfl 177 startC (0, 0) _ Q1.out Fahg.underlying177 rfl HI.out ?_ | refine wpList_store_row rfl 177 _ _ rfl _ startC rfl rfl 177 Z Q0.out HI.out HZ.out HO.out ?_)
  have q2 : (w1.setRow w.heap.size startC).heap[w.heap.size]? = some (.cells startC 177 (0, 0)) := by
    simp [World.setRow, Array.getElem?_modify, Q0.out]
  have hload := run_loadVar_row (P := Fahg.prog) (w1.setRow w.heap.size startC) w.heap.size 177 177 startC (0, 0) _ q2 Fahg.underlying177 rfl HI.out
  refine bodyPost_ret (v := .tuple #[.agg startC, .bool true]) (by simp [results, Fahg.results91, asAddr, hload]) rfl ⟨rfl, ?_⟩
  refine ⟨HB.out.os, HB.out.tape, HB.out.output, by simpa [World.setRow] using HB.out.size, fun k hk => ?_⟩
  have : (w1.setRow w.heap.size startC).heap[k]? = w1.heap[k]? := by
    simp [World.setRow, Array.getElem?_modify, show ¬ w.heap.size = k by omega]
  rw [this]
  exact HB.out.block k hk
end Go.Proofs.Ygcfah
