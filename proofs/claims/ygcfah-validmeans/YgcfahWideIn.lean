/- wide.Inside and the law's own wideInside compute one plain function. -/
import Derived.Test.YgcfahWideR
import Derived.Deep.RegionHeld3
namespace Go.Proofs.Ygcfah
open Go.RowKit
set_option linter.unusedVariables false
set_option linter.unusedSimpArgs false
attribute [local go_sem] setCell_drewN alloc_drewN

/-- The first word of an object, a tag counted. -/
def wFirst (kind at_ code : Int) : Int := if kind = 2 ∧ code = 7 then at_ - 1 else at_
/-- p's object lies inside an arena of 'size' words. -/
def wIn (kind at_ data ptrs code count size : Int) : Bool :=
  decide (size ≤ 256 ∧ (kind = 1 ∨ kind = 2) ∧ wFirst kind at_ code + wWords kind data ptrs code count ≤ size ∧ (wWords kind data ptrs code count = 0 ∨ 1 ≤ wFirst kind at_ code))
theorem bool_of {a : Bool} {p : Prop} [Decidable p] (h : a = true ↔ p) : a = decide p := by
  rw [Bool.eq_iff_iff, h]; simp

set_option maxHeartbeats 3200000 in
theorem inside_any (a0 : Option Addr) (len cap : Nat) (kind at_ data ptrs code count : Int) (k0 : 0 ≤ kind) (k1 : kind ≤ 255) (t0 : 0 ≤ at_) (t1 : at_ ≤ 65535) (d0 : 0 ≤ data) (d1 : data ≤ 255) (p0 : 0 ≤ ptrs) (p1 : ptrs ≤ 255) (c0 : 0 ≤ code) (c1 : code ≤ 255) (n0 : 0 ≤ count) (n1 : count ≤ 4294967295) (w : World) :
    Calls Fahg.prog 39 #[.slice a0 len cap, .agg #[.int .u8 kind, .int .u16 at_, .int .u8 data, .int .u8 ptrs, .int .u8 code, .int .u32 count]] w fun e w' => e = .returned (.bool (wIn kind at_ data ptrs code count (len : Int))) ∧ Below w.heap.size w w' := by
  have bw := wWords_bd kind data ptrs code count d0 p0 n0
  have hW := fun w => words_any kind at_ data ptrs code count k0 k1 d0 d1 p0 p1 c0 c1 n0 n1 w
  have hD : wIn kind at_ data ptrs code count (len : Int) = decide ((len : Int) ≤ 256 ∧ (kind = 1 ∨ kind = 2) ∧ wFirst kind at_ code + wWords kind data ptrs code count ≤ (len : Int) ∧ (wWords kind data ptrs code count = 0 ∨ 1 ≤ wFirst kind at_ code)) := rfl
  generalize wWords kind data ptrs code count = m at *
  have HW : Hid _ := hW
  clear hW
  have gm : (m == 0) = true ∨ (m == 0) = false := by cases (m == 0) <;> simp
  have gk : ((kind == 2) = true ∧ (code == 7) = true ∧ (kind == 1) = false ∧ (kind != 2) = false ∧ (kind != 1) = true ∧ wFirst kind at_ code = at_ - 1) ∨
      ((kind == 2) = true ∧ (code == 7) = false ∧ (kind == 1) = false ∧ (kind != 2) = false ∧ (kind != 1) = true ∧ wFirst kind at_ code = at_) ∨
      ((kind == 2) = false ∧ (kind == 1) = true ∧ (kind != 2) = true ∧ (kind != 1) = false ∧ wFirst kind at_ code = at_) ∨
      ((kind == 2) = false ∧ (kind == 1) = false ∧ (kind != 2) = true ∧ (kind != 1) = true ∧ wFirst kind at_ code = at_) := by
    simp only [beq_iff_eq, beq_eq_false_iff_ne, bne_iff_ne, bne_eq_false_iff_eq, wFirst]
    split <;> omega
  rcases gk with ⟨g2, g7, g1, g2n, g1n, gf⟩ | ⟨g2, g7, g1, g2n, g1n, gf⟩ | ⟨g2, g1, g2n, g1n, gf⟩ | ⟨g2, g1, g2n, g1n, gf⟩ <;> rcases gm with gm | gm
  all_goals rw [gf] at hD
  all_goals have HD : Hid _ := hD
  all_goals clear hD gf
  all_goals go_enter Fahg.func39, Fahg.ntmps39
  all_goals go_wp2_with fail
  all_goals (refine (HW.out _).mono ?_; rintro e w1 ⟨rfl, c, nq, rfl⟩)
  all_goals go_wp2_with fail
  all_goals go_ret
  all_goals go_light
  all_goals refine ⟨ret_bool ?_, ?_⟩
  all_goals first
    | ((repeat' (first | exact Below.refl _ _ | refine below_drewN' ?_ _ | refine Below.drew ?_ | refine below_alloc ?_ (Nat.le_refl _) _)); done)
    | (rw [HD.out]; refine bool_of ?_; simp only [beq_iff_eq, beq_eq_false_iff_ne, bne_iff_ne, bne_eq_false_iff_eq] at *; simp only [decide_eq_true_eq, true_iff, false_iff, reduceCtorEq]; omega)

set_option maxHeartbeats 3200000 in
theorem wideInside_any (size : Int) (kind at_ data ptrs code count : Int) (k0 : 0 ≤ kind) (k1 : kind ≤ 255) (t0 : 0 ≤ at_) (t1 : at_ ≤ 65535) (d0 : 0 ≤ data) (d1 : data ≤ 255) (p0 : 0 ≤ ptrs) (p1 : ptrs ≤ 255) (c0 : 0 ≤ code) (c1 : code ≤ 255) (n0 : 0 ≤ count) (n1 : count ≤ 4294967295) (w : World) (s0 : 0 ≤ size) (s1 : size ≤ 1000000) :
    Calls Fahg.prog 38 #[.int .i64 size, .agg #[.int .u8 kind, .int .u16 at_, .int .u8 data, .int .u8 ptrs, .int .u8 code, .int .u32 count]] w fun e w' => e = .returned (.bool (wIn kind at_ data ptrs code count size)) ∧ Below w.heap.size w w' := by
  have bw := wWords_bd kind data ptrs code count d0 p0 n0
  have hW := fun w => wideWords_any kind at_ data ptrs code count k0 k1 d0 d1 p0 p1 c0 c1 n0 n1 w
  have hD : wIn kind at_ data ptrs code count size = decide (size ≤ 256 ∧ (kind = 1 ∨ kind = 2) ∧ wFirst kind at_ code + wWords kind data ptrs code count ≤ size ∧ (wWords kind data ptrs code count = 0 ∨ 1 ≤ wFirst kind at_ code)) := rfl
  generalize wWords kind data ptrs code count = m at *
  have HW : Hid _ := hW
  clear hW
  have gm : (m == 0) = true ∨ (m == 0) = false := by cases (m == 0) <;> simp
  have gk : ((kind == 2) = true ∧ (code == 7) = true ∧ (kind == 1) = false ∧ (kind != 2) = false ∧ (kind != 1) = true ∧ wFirst kind at_ code = at_ - 1) ∨
      ((kind == 2) = true ∧ (code == 7) = false ∧ (kind == 1) = false ∧ (kind != 2) = false ∧ (kind != 1) = true ∧ wFirst kind at_ code = at_) ∨
      ((kind == 2) = false ∧ (kind == 1) = true ∧ (kind != 2) = true ∧ (kind != 1) = false ∧ wFirst kind at_ code = at_) ∨
      ((kind == 2) = false ∧ (kind == 1) = false ∧ (kind != 2) = true ∧ (kind != 1) = true ∧ wFirst kind at_ code = at_) := by
    simp only [beq_iff_eq, beq_eq_false_iff_ne, bne_iff_ne, bne_eq_false_iff_eq, wFirst]
    split <;> omega
  rcases gk with ⟨g2, g7, g1, g2n, g1n, gf⟩ | ⟨g2, g7, g1, g2n, g1n, gf⟩ | ⟨g2, g1, g2n, g1n, gf⟩ | ⟨g2, g1, g2n, g1n, gf⟩ <;> rcases gm with gm | gm
  all_goals rw [gf] at hD
  all_goals have HD : Hid _ := hD
  all_goals clear hD gf
  all_goals go_enter Fahg.func38, Fahg.ntmps38
  all_goals go_wp2_with fail
  all_goals try (go_region_held3 (fun w' => w'.cell? ⟨w.heap.size, 0, none⟩ = some (.int .u8 kind) ∧ w'.cell? ⟨w.heap.size, 1, none⟩ = some (.int .u16 at_) ∧ w'.cell? ⟨w.heap.size, 2, none⟩ = some (.int .u8 data) ∧ w'.cell? ⟨w.heap.size, 3, none⟩ = some (.int .u8 ptrs) ∧ w'.cell? ⟨w.heap.size, 4, none⟩ = some (.int .u8 code) ∧ w'.cell? ⟨w.heap.size, 5, none⟩ = some (.int .u32 count) ∧ w.heap.size < w'.heap.size) ((repeat' apply And.intro) <;> first | ((simp only [World.cell?_drewN, World.heap_drewN]; repeat (rw [World.cell?_alloc_past _ _ _ (by first | omega | (simp; omega))])); (first | assumption | simp [go_sem])) | (simp; done) | (simp; omega))
      (first | (go_at_call 35; refine (HW.out _).mono ?_; rintro e w1 ⟨rfl, c, nq, rfl⟩)); go_wp2_with fail)
  all_goals go_ret
  all_goals go_light
  all_goals refine ⟨ret_bool ?_, ?_⟩
  all_goals first
    | ((repeat' (first | exact Below.refl _ _ | refine below_drewN' ?_ _ | refine Below.drew ?_ | refine below_alloc ?_ (Nat.le_refl _) _)); done)
    | (rw [HD.out]; refine bool_of ?_; simp only [beq_iff_eq, beq_eq_false_iff_ne, bne_iff_ne, bne_eq_false_iff_eq] at *; simp only [decide_eq_true_eq, true_iff, false_iff, reduceCtorEq]; omega)

end Go.Proofs.Ygcfah
