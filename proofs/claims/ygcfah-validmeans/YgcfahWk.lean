/- The object of a wide walk, as it is made. -/
import Derived.Test.YgcfahShape
import Derived.Deep.WholeRow
namespace Go.Proofs.Ygcfah
open Go.RowKit
set_option linter.unusedVariables false
set_option linter.unusedSimpArgs false

def isU16 : Option Value → Bool
  | some (.int .u16 x) => x == 0
  | _ => false
def isU8 : Option Value → Bool
  | some (.int .u8 x) => x == 0
  | _ => false
def isU64 : Option Value → Bool
  | some (.int .u64 x) => x == 0
  | _ => false
theorem isU16_eq {o : Option Value} (h : isU16 o = true) : o = some (.int .u16 0) := by
  unfold isU16 at h; split at h
  · rename_i x; rw [show x = 0 by simpa using h]
  · cases h
theorem isU8_eq {o : Option Value} (h : isU8 o = true) : o = some (.int .u8 0) := by
  unfold isU8 at h; split at h
  · rename_i x; rw [show x = 0 by simpa using h]
  · cases h
theorem isU64_eq {o : Option Value} (h : isU64 o = true) : o = some (.int .u64 0) := by
  unfold isU64 at h; split at h
  · rename_i x; rw [show x = 0 by simpa using h]
  · cases h
theorem zc_size : Fahg.zeroCells202.size = 519 := by kernel_rfl
theorem zc_one : Fahg.zeroCells202.all (·.oneCell') = true := by kernel_rfl
theorem zc_at : (List.range 256).all (fun i => isU16 Fahg.zeroCells202[5 + i * 2]?) = true := by kernel_rfl
theorem zc_dp : (List.range 256).all (fun i => isU8 Fahg.zeroCells202[5 + i * 2 + 1]?) = true := by kernel_rfl
theorem zc_set : (List.range 4).all (fun i => isU64 Fahg.zeroCells202[1 + i]?) = true := by kernel_rfl
theorem zc_n : isU16 Fahg.zeroCells202[517]? = true := by kernel_rfl
theorem zc_info : (Fahg.prog.info? 202).map (·.size) = some 519 := by kernel_rfl

noncomputable def wkCells (v : Value) (bud : Int) : Array Value := (Fahg.zeroCells202.setIfInBounds 0 v).setIfInBounds 518 (.int .u32 bud)
theorem wk_size (v : Value) (bud : Int) : (wkCells v bud).size = 519 := by simp [wkCells, zc_size]
theorem wk_get (v : Value) (bud : Int) (i : Nat) (h0 : i ≠ 0) (h1 : i ≠ 518) : (wkCells v bud)[i]? = Fahg.zeroCells202[i]? := by
  unfold wkCells
  rw [Array.getElem?_setIfInBounds_ne (by omega), Array.getElem?_setIfInBounds_ne (by omega)]
theorem set2_one (Z : Array Value) (v u : Value) (hZ : Z.all (·.oneCell') = true) (hv : v.oneCell' = true) (hu : u.oneCell' = true) : ((Z.setIfInBounds 0 v).setIfInBounds 518 u).all (·.oneCell') = true := by
  rw [Array.all_eq_true_iff_forall_mem] at hZ ⊢
  intro x hx
  rcases Array.mem_or_eq_of_mem_setIfInBounds hx with hx | rfl
  · rcases Array.mem_or_eq_of_mem_setIfInBounds hx with hx | rfl
    · exact hZ x hx
    · exact hv
  · exact hu
theorem set2_list (Z : Array Value) (v u : Value) : ((Z.toList.set 0 v).set 518 u) = ((Z.setIfInBounds 0 v).setIfInBounds 518 u).toList := by simp
theorem wk_store (a0 : Option Addr) (len cap : Nat) (bud : Int) (w : World) :
    Sem.run Fahg.prog (storeCells ⟨w.heap.size, 0, none⟩ ((Fahg.zeroCells202.toList.set 0 (.slice a0 len cap)).set 518 (.int .u32 bud))) (w.alloc (.cells Fahg.zeroCells202 202)) = .ok () (w.alloc (.cells (wkCells (.slice a0 len cap) bud) 202)) := by
  rw [set2_list]
  exact run_storeCells_new w 202 Fahg.zeroCells202 (wkCells (.slice a0 len cap) bud) (zc_info.trans (congrArg some (wk_size _ _).symm)) (zc_size.trans (wk_size _ _).symm) (set2_one _ _ _ zc_one rfl rfl)

/-- The object of a walk: its arena, its set, its stack, what is left. -/
structure Wlk (w : World) (g : Nat) (sl : Value) (S : Nat → Bool) (st : Nat → Nat × Nat) (n : Nat) (L : Int) : Prop where
  a : w.cell? ⟨g, 0, none⟩ = some sl
  s : ∃ s, Set4 w g 1 s ∧ Rep s S
  k : Stk w g st n
  l : Lft w g L
theorem wk_cell (v : Value) (bud : Int) (w : World) (o : Nat) : (w.alloc (.cells (wkCells v bud) 202)).cell? ⟨w.heap.size, o, none⟩ = (wkCells v bud)[o]? := World.cell?_alloc_at _ _ _ _ rfl
theorem wk_fresh (v : Value) (bud : Int) (w : World) : Wlk (w.alloc (.cells (wkCells v bud) 202)) w.heap.size v (fun _ => false) (fun _ => (0, 0)) 0 bud := by
  have hf : ∀ o, (w.alloc (.cells (wkCells v bud) 202)).frozen? ⟨w.heap.size, o, none⟩ = false := fun o => by simp [go_sem]
  have za := zc_at
  have zd := zc_dp
  have zs := zc_set
  rw [List.all_eq_true] at za zd zs
  refine ⟨?_, ⟨fun _ => 0, ⟨fun q hq => ?_, fun q _ => hf _⟩, ⟨fun q hq => by decide, fun i hi => by simp⟩⟩, ⟨fun i hi => ?_, fun i hi => ?_, fun j _ _ => hf _, ?_⟩, ⟨?_, hf _⟩⟩
  · rw [wk_cell]
    unfold wkCells
    rw [Array.getElem?_setIfInBounds_ne (by omega), Array.getElem?_setIfInBounds_self_of_lt (Nat.lt_of_lt_of_eq (by omega) zc_size.symm)]
  · rw [wk_cell, wk_get _ _ _ (by omega) (by omega)]
    exact isU64_eq (zs q (List.mem_range.2 hq))
  · rw [wk_cell, wk_get _ _ _ (by omega) (by omega)]
    exact isU16_eq (za i (List.mem_range.2 hi))
  · rw [wk_cell, wk_get _ _ _ (by omega) (by omega)]
    exact isU8_eq (zd i (List.mem_range.2 hi))
  · rw [wk_cell, wk_get _ _ _ (by omega) (by omega)]
    exact isU16_eq zc_n
  · rw [wk_cell]
    unfold wkCells
    rw [Array.getElem?_setIfInBounds_self_of_lt (by rw [Array.size_setIfInBounds]; exact Nat.lt_of_lt_of_eq (by omega) zc_size.symm)]
end Go.Proofs.Ygcfah
