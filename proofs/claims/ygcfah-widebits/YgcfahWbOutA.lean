/- law.WideBits where the index lies outside. -/
import Derived.Test.YgcfahWbBase
import Derived.Deep.RegionHeld3
import Derived.RowKit3
namespace Go.Proofs.Ygcfah
open Go.RowKit
set_option linter.unusedVariables false
attribute [local go_sem] setCell_drewN alloc_drewN

set_option maxHeartbeats 1600000 in
theorem wideBits_outA_zero (a0 : Option Addr) (len cap : Nat) (at_ : Int) (h0 : 0 ≤ at_) (h1 : at_ ≤ 65535) (hcap : len ≤ cap) (hl : len ≤ 256) (hno : (len : Int) ≤ at_) (w : World)
    (q1 q2 q3 q4 q5 q6 : Int) (hq : WP.ok ⟨q1, q2, q3, q4, q5, q6⟩) (hk : (q1 == 0) = true) :
    Calls Fahg.prog 10 #[.slice (a0) len cap, .int .u16 at_, .agg #[.int .u8 q1, .int .u16 q2, .int .u8 q3, .int .u8 q4, .int .u8 q5, .int .u32 q6]] w fun e w' => e = .returned (.bool true) ∧ Below w.heap.size w w' := by
  have hk2 : (q1 == 2) = false := by simp at hk ⊢; omega
  have hk3 : (q1 != 0) = false := by simp at hk ⊢; omega
  have hC := fun w => cost_zero q1 q2 q3 q4 q5 q6 hk w
  have hW := fun w => words_any q1 q2 q3 q4 q5 q6 hq.k0 hq.k1 hq.d0 hq.d1 hq.p0 hq.p1 hq.c0 hq.c1 hq.n0 hq.n1 w
  have hW' := fun w => wideWords_any q1 q2 q3 q4 q5 q6 hq.k0 hq.k1 hq.d0 hq.d1 hq.p0 hq.p1 hq.c0 hq.c1 hq.n0 hq.n1 w
  have bw := wWords_bd q1 q3 q4 q5 q6 hq.d0 hq.p0 hq.n0
  have bn0 : 0 ≤ q6 := hq.n0
  have bn1 : q6 ≤ 4294967295 := hq.n1
  have hm : wWords q1 q3 q4 q5 q6 = 0 := by simp at hk; simp [wWords, hk]
  rw [hm] at hW hW' bw
  clear hm bw
  have hR1 := fun w => resolve_out a0 len cap at_ h0 h1 (Or.inr hno) w
  simp only [WP.nul, WP.val] at hR1
  have HR1 : Hid _ := hR1
  clear hR1
  have HC : Hid _ := hC
  have HW : Hid _ := hW
  have HW' : Hid _ := hW'
  clear hq hC hW hW'
  go_enter Fahg.func10, Fahg.ntmps10
  go_wp2_with fail
  (refine (HR1.out _).mono ?_; rintro e w1 ⟨rfl, hb1⟩)
  have hB1 := (below_alloc (Below.refl _ _) (Nat.le_refl _) _).trans (hb1.mono (by simp))
  have hz1 : w.heap.size < w1.heap.size := by have := hb1.size; simp at this; omega
  have c1 : ∀ o, w1.cell? ⟨w.heap.size, o, none⟩ = _ := fun o => (hb1.cell (p := ⟨w.heap.size, o, none⟩) (by simp)).trans (World.cell?_alloc_at _ _ _ _ rfl)
  clear hb1
  have HB1 : Hid _ := hB1
  clear hB1
  go_wp2_with fail
  (refine (HW'.out _).mono ?_; rintro e w3 ⟨rfl, hw3⟩)
  have hb3 := below_of_new hw3
  clear hw3
  have hz3 : w1.heap.size + 1 < w3.heap.size := by have := hb3.size; simp at this; omega
  have cq0 : w3.cell? ⟨w.heap.size, 0, none⟩ = some (.int .u8 q1) := (hb3.cell (p := ⟨w.heap.size, 0, none⟩) (by simp; omega)).trans ((World.cell?_alloc_past _ _ _ (by simp; omega)).trans ((World.cell?_alloc_past _ _ _ (by omega)).trans ((c1 0).trans (by simp))))
  have cq1 : w3.cell? ⟨w.heap.size, 1, none⟩ = some (.int .u16 q2) := (hb3.cell (p := ⟨w.heap.size, 1, none⟩) (by simp; omega)).trans ((World.cell?_alloc_past _ _ _ (by simp; omega)).trans ((World.cell?_alloc_past _ _ _ (by omega)).trans ((c1 1).trans (by simp))))
  have cq2 : w3.cell? ⟨w.heap.size, 2, none⟩ = some (.int .u8 q3) := (hb3.cell (p := ⟨w.heap.size, 2, none⟩) (by simp; omega)).trans ((World.cell?_alloc_past _ _ _ (by simp; omega)).trans ((World.cell?_alloc_past _ _ _ (by omega)).trans ((c1 2).trans (by simp))))
  have cq3 : w3.cell? ⟨w.heap.size, 3, none⟩ = some (.int .u8 q4) := (hb3.cell (p := ⟨w.heap.size, 3, none⟩) (by simp; omega)).trans ((World.cell?_alloc_past _ _ _ (by simp; omega)).trans ((World.cell?_alloc_past _ _ _ (by omega)).trans ((c1 3).trans (by simp))))
  have cq4 : w3.cell? ⟨w.heap.size, 4, none⟩ = some (.int .u8 q5) := (hb3.cell (p := ⟨w.heap.size, 4, none⟩) (by simp; omega)).trans ((World.cell?_alloc_past _ _ _ (by simp; omega)).trans ((World.cell?_alloc_past _ _ _ (by omega)).trans ((c1 4).trans (by simp))))
  have cq5 : w3.cell? ⟨w.heap.size, 5, none⟩ = some (.int .u32 q6) := (hb3.cell (p := ⟨w.heap.size, 5, none⟩) (by simp; omega)).trans ((World.cell?_alloc_past _ _ _ (by simp; omega)).trans ((World.cell?_alloc_past _ _ _ (by omega)).trans ((c1 5).trans (by simp))))
  have cp0 : w3.cell? ⟨w1.heap.size, 0, none⟩ = some (.int .u8 0) := (hb3.cell (p := ⟨w1.heap.size, 0, none⟩) (by simp; omega)).trans ((cell_two_old w1 _ _ 78 78 0).trans (by simp))
  have cp1 : w3.cell? ⟨w1.heap.size, 1, none⟩ = some (.int .u16 0) := (hb3.cell (p := ⟨w1.heap.size, 1, none⟩) (by simp; omega)).trans ((cell_two_old w1 _ _ 78 78 1).trans (by simp))
  have cp2 : w3.cell? ⟨w1.heap.size, 2, none⟩ = some (.int .u8 0) := (hb3.cell (p := ⟨w1.heap.size, 2, none⟩) (by simp; omega)).trans ((cell_two_old w1 _ _ 78 78 2).trans (by simp))
  have cp3 : w3.cell? ⟨w1.heap.size, 3, none⟩ = some (.int .u8 0) := (hb3.cell (p := ⟨w1.heap.size, 3, none⟩) (by simp; omega)).trans ((cell_two_old w1 _ _ 78 78 3).trans (by simp))
  have cp4 : w3.cell? ⟨w1.heap.size, 4, none⟩ = some (.int .u8 0) := (hb3.cell (p := ⟨w1.heap.size, 4, none⟩) (by simp; omega)).trans ((cell_two_old w1 _ _ 78 78 4).trans (by simp))
  have cp5 : w3.cell? ⟨w1.heap.size, 5, none⟩ = some (.int .u32 0) := (hb3.cell (p := ⟨w1.heap.size, 5, none⟩) (by simp; omega)).trans ((cell_two_old w1 _ _ 78 78 5).trans (by simp))
  have cw0 : w3.cell? ⟨w1.heap.size + 1, 0, none⟩ = some (.int .u8 0) := (hb3.cell (p := ⟨w1.heap.size + 1, 0, none⟩) (by simp)).trans ((World.cell?_alloc_at _ _ _ _ (by simp)).trans (by simp))
  have cw1 : w3.cell? ⟨w1.heap.size + 1, 1, none⟩ = some (.int .u16 0) := (hb3.cell (p := ⟨w1.heap.size + 1, 1, none⟩) (by simp)).trans ((World.cell?_alloc_at _ _ _ _ (by simp)).trans (by simp))
  have cw2 : w3.cell? ⟨w1.heap.size + 1, 2, none⟩ = some (.int .u8 0) := (hb3.cell (p := ⟨w1.heap.size + 1, 2, none⟩) (by simp)).trans ((World.cell?_alloc_at _ _ _ _ (by simp)).trans (by simp))
  have cw3 : w3.cell? ⟨w1.heap.size + 1, 3, none⟩ = some (.int .u8 0) := (hb3.cell (p := ⟨w1.heap.size + 1, 3, none⟩) (by simp)).trans ((World.cell?_alloc_at _ _ _ _ (by simp)).trans (by simp))
  have cw4 : w3.cell? ⟨w1.heap.size + 1, 4, none⟩ = some (.int .u8 0) := (hb3.cell (p := ⟨w1.heap.size + 1, 4, none⟩) (by simp)).trans ((World.cell?_alloc_at _ _ _ _ (by simp)).trans (by simp))
  have cw5 : w3.cell? ⟨w1.heap.size + 1, 5, none⟩ = some (.int .u32 0) := (hb3.cell (p := ⟨w1.heap.size + 1, 5, none⟩) (by simp)).trans ((World.cell?_alloc_at _ _ _ _ (by simp)).trans (by simp))
  have HB3 : Hid (Below w.heap.size w w3) := HB1.out.trans (((below_alloc (below_alloc (Below.refl w1.heap.size w1) (Nat.le_refl _) _) (Nat.le_refl _) _).trans (hb3.mono (by simp; omega))).mono (by omega))
  clear hb3 c1 HB1
  generalize w1.heap.size = N at *
  go_wp2_with fail
  go_region_held3 (fun w' => w'.cell? ⟨w.heap.size, 0, none⟩ = some (.int .u8 q1) ∧ w'.cell? ⟨w.heap.size, 1, none⟩ = some (.int .u16 q2) ∧ w'.cell? ⟨w.heap.size, 2, none⟩ = some (.int .u8 q3) ∧ w'.cell? ⟨w.heap.size, 3, none⟩ = some (.int .u8 q4) ∧ w'.cell? ⟨w.heap.size, 4, none⟩ = some (.int .u8 q5) ∧ w'.cell? ⟨w.heap.size, 5, none⟩ = some (.int .u32 q6) ∧ w'.cell? ⟨N, 0, none⟩ = some (.int .u8 0) ∧ w'.cell? ⟨N, 1, none⟩ = some (.int .u16 0) ∧ w'.cell? ⟨N, 2, none⟩ = some (.int .u8 0) ∧ w'.cell? ⟨N, 3, none⟩ = some (.int .u8 0) ∧ w'.cell? ⟨N, 4, none⟩ = some (.int .u8 0) ∧ w'.cell? ⟨N, 5, none⟩ = some (.int .u32 0) ∧ w'.cell? ⟨N + 1, 0, none⟩ = some (.int .u8 0) ∧ w'.cell? ⟨N + 1, 1, none⟩ = some (.int .u16 0) ∧ w'.cell? ⟨N + 1, 2, none⟩ = some (.int .u8 0) ∧ w'.cell? ⟨N + 1, 3, none⟩ = some (.int .u8 0) ∧ w'.cell? ⟨N + 1, 4, none⟩ = some (.int .u8 0) ∧ w'.cell? ⟨N + 1, 5, none⟩ = some (.int .u32 0) ∧ N + 1 < w'.heap.size) ((repeat' apply And.intro) <;> first | ((simp only [World.cell?_drewN, World.heap_drewN]; repeat (rw [World.cell?_alloc_past _ _ _ (by first | omega | (simp; omega))])); assumption) | (simp; omega))
      (first
        | (go_at_call 36; refine (HW.out _).mono ?_; rintro e w' ⟨rfl, c4, n4, rfl⟩)
        | (go_at_call 35; refine (HW'.out _).mono ?_; rintro e w' ⟨rfl, c5, n5, rfl⟩)
        | (go_at_call 37; refine (HC.out _).mono ?_; rintro e w' ⟨rfl, c6, rfl⟩))
  go_wp2_with fail
  go_ret
  exact ⟨rfl, by repeat' (first | exact HB3.out | refine below_drewN' ?_ _ | refine Below.drew ?_ | refine below_alloc ?_ (Nat.le_refl _) _)⟩

set_option maxHeartbeats 20000000 in
theorem wideBits_outA_pos (a0 : Option Addr) (len cap : Nat) (at_ : Int) (h0 : 0 ≤ at_) (h1 : at_ ≤ 65535) (hcap : len ≤ cap) (hl : len ≤ 256) (hno : (len : Int) ≤ at_) (w : World)
    (q1 q2 q3 q4 q5 q6 : Int) (hq : WP.ok ⟨q1, q2, q3, q4, q5, q6⟩) (hk : (q1 == 0) = false) :
    Calls Fahg.prog 10 #[.slice (a0) len cap, .int .u16 at_, .agg #[.int .u8 q1, .int .u16 q2, .int .u8 q3, .int .u8 q4, .int .u8 q5, .int .u32 q6]] w fun e w' => e = .returned (.bool true) ∧ Below w.heap.size w w' := by
  have hk3 : (q1 != 0) = true := by simp at hk ⊢; omega
  have hC := fun w => cost_pos q1 q2 q3 q4 q5 q6 hk hq.k0 hq.k1 hq.d0 hq.d1 hq.p0 hq.p1 hq.c0 hq.c1 hq.n0 hq.n1 w
  have hways0 := fun m c => cost_ways q1 q2 q3 q4 q5 q6 hq hk m c
  have hW := fun w => words_any q1 q2 q3 q4 q5 q6 hq.k0 hq.k1 hq.d0 hq.d1 hq.p0 hq.p1 hq.c0 hq.c1 hq.n0 hq.n1 w
  have hW' := fun w => wideWords_any q1 q2 q3 q4 q5 q6 hq.k0 hq.k1 hq.d0 hq.d1 hq.p0 hq.p1 hq.c0 hq.c1 hq.n0 hq.n1 w
  have bw := wWords_bd q1 q3 q4 q5 q6 hq.d0 hq.p0 hq.n0
  have bn0 : 0 ≤ q6 := hq.n0
  have bn1 : q6 ≤ 4294967295 := hq.n1
  generalize hm : wWords q1 q3 q4 q5 q6 = m at *
  generalize hc : wCost ⟨q1, q2, q3, q4, q5, q6⟩ = c at *
  have hways := hways0 m c rfl rfl
  clear hm hc hways0
  have hwm : IntKind.u64.wrap m = m := by rw [wrap_u64]; omega
  have hR1 := fun w => resolve_out a0 len cap at_ h0 h1 (Or.inr hno) w
  simp only [WP.nul, WP.val] at hR1
  have HR1 : Hid _ := hR1
  clear hR1
  have HC : Hid _ := hC
  have HW : Hid _ := hW
  have HW' : Hid _ := hW'
  clear hq hC hW hW'
  rcases hways with ⟨⟨g1, g2⟩ | ⟨g1, g2, g3, g4, g5⟩, ⟨k1, k2, k3⟩ | ⟨k1, k2, k3⟩ | ⟨k1, k2, k3⟩⟩ | ⟨g1 | ⟨g1, g2, g3⟩ | ⟨g1, g2, g3, g4⟩ | ⟨g1, g2, g3, g4, g5⟩, ⟨k2, k3⟩ | ⟨k2, k3⟩⟩
  all_goals have hwc : IntKind.u64.wrap c = c := by rw [wrap_u64]; omega
  all_goals subst k3
  all_goals go_enter Fahg.func10, Fahg.ntmps10
  all_goals go_wp2_with fail
  all_goals (refine (HR1.out _).mono ?_; rintro e w1 ⟨rfl, hb1⟩)
  all_goals have hB1 := (below_alloc (Below.refl _ _) (Nat.le_refl _) _).trans (hb1.mono (by simp))
  all_goals have hz1 : w.heap.size < w1.heap.size := by have := hb1.size; simp at this; omega
  all_goals have c1 : ∀ o, w1.cell? ⟨w.heap.size, o, none⟩ = _ := fun o => (hb1.cell (p := ⟨w.heap.size, o, none⟩) (by simp)).trans (World.cell?_alloc_at _ _ _ _ rfl)
  all_goals clear hb1
  all_goals have HB1 : Hid _ := hB1
  all_goals clear hB1
  all_goals go_wp2_with fail
  all_goals (refine (HW'.out _).mono ?_; rintro e w3 ⟨rfl, hw3⟩)
  all_goals have hb3 := below_of_new hw3
  all_goals clear hw3
  all_goals have hz3 : w1.heap.size + 1 < w3.heap.size := by have := hb3.size; simp at this; omega
  all_goals have cq0 : w3.cell? ⟨w.heap.size, 0, none⟩ = some (.int .u8 q1) := (hb3.cell (p := ⟨w.heap.size, 0, none⟩) (by simp; omega)).trans ((World.cell?_alloc_past _ _ _ (by simp; omega)).trans ((World.cell?_alloc_past _ _ _ (by omega)).trans ((c1 0).trans (by simp))))
  all_goals have cq1 : w3.cell? ⟨w.heap.size, 1, none⟩ = some (.int .u16 q2) := (hb3.cell (p := ⟨w.heap.size, 1, none⟩) (by simp; omega)).trans ((World.cell?_alloc_past _ _ _ (by simp; omega)).trans ((World.cell?_alloc_past _ _ _ (by omega)).trans ((c1 1).trans (by simp))))
  all_goals have cq2 : w3.cell? ⟨w.heap.size, 2, none⟩ = some (.int .u8 q3) := (hb3.cell (p := ⟨w.heap.size, 2, none⟩) (by simp; omega)).trans ((World.cell?_alloc_past _ _ _ (by simp; omega)).trans ((World.cell?_alloc_past _ _ _ (by omega)).trans ((c1 2).trans (by simp))))
  all_goals have cq3 : w3.cell? ⟨w.heap.size, 3, none⟩ = some (.int .u8 q4) := (hb3.cell (p := ⟨w.heap.size, 3, none⟩) (by simp; omega)).trans ((World.cell?_alloc_past _ _ _ (by simp; omega)).trans ((World.cell?_alloc_past _ _ _ (by omega)).trans ((c1 3).trans (by simp))))
  all_goals have cq4 : w3.cell? ⟨w.heap.size, 4, none⟩ = some (.int .u8 q5) := (hb3.cell (p := ⟨w.heap.size, 4, none⟩) (by simp; omega)).trans ((World.cell?_alloc_past _ _ _ (by simp; omega)).trans ((World.cell?_alloc_past _ _ _ (by omega)).trans ((c1 4).trans (by simp))))
  all_goals have cq5 : w3.cell? ⟨w.heap.size, 5, none⟩ = some (.int .u32 q6) := (hb3.cell (p := ⟨w.heap.size, 5, none⟩) (by simp; omega)).trans ((World.cell?_alloc_past _ _ _ (by simp; omega)).trans ((World.cell?_alloc_past _ _ _ (by omega)).trans ((c1 5).trans (by simp))))
  all_goals have cp0 : w3.cell? ⟨w1.heap.size, 0, none⟩ = some (.int .u8 0) := (hb3.cell (p := ⟨w1.heap.size, 0, none⟩) (by simp; omega)).trans ((cell_two_old w1 _ _ 78 78 0).trans (by simp))
  all_goals have cp1 : w3.cell? ⟨w1.heap.size, 1, none⟩ = some (.int .u16 0) := (hb3.cell (p := ⟨w1.heap.size, 1, none⟩) (by simp; omega)).trans ((cell_two_old w1 _ _ 78 78 1).trans (by simp))
  all_goals have cp2 : w3.cell? ⟨w1.heap.size, 2, none⟩ = some (.int .u8 0) := (hb3.cell (p := ⟨w1.heap.size, 2, none⟩) (by simp; omega)).trans ((cell_two_old w1 _ _ 78 78 2).trans (by simp))
  all_goals have cp3 : w3.cell? ⟨w1.heap.size, 3, none⟩ = some (.int .u8 0) := (hb3.cell (p := ⟨w1.heap.size, 3, none⟩) (by simp; omega)).trans ((cell_two_old w1 _ _ 78 78 3).trans (by simp))
  all_goals have cp4 : w3.cell? ⟨w1.heap.size, 4, none⟩ = some (.int .u8 0) := (hb3.cell (p := ⟨w1.heap.size, 4, none⟩) (by simp; omega)).trans ((cell_two_old w1 _ _ 78 78 4).trans (by simp))
  all_goals have cp5 : w3.cell? ⟨w1.heap.size, 5, none⟩ = some (.int .u32 0) := (hb3.cell (p := ⟨w1.heap.size, 5, none⟩) (by simp; omega)).trans ((cell_two_old w1 _ _ 78 78 5).trans (by simp))
  all_goals have cw0 : w3.cell? ⟨w1.heap.size + 1, 0, none⟩ = some (.int .u8 0) := (hb3.cell (p := ⟨w1.heap.size + 1, 0, none⟩) (by simp)).trans ((World.cell?_alloc_at _ _ _ _ (by simp)).trans (by simp))
  all_goals have cw1 : w3.cell? ⟨w1.heap.size + 1, 1, none⟩ = some (.int .u16 0) := (hb3.cell (p := ⟨w1.heap.size + 1, 1, none⟩) (by simp)).trans ((World.cell?_alloc_at _ _ _ _ (by simp)).trans (by simp))
  all_goals have cw2 : w3.cell? ⟨w1.heap.size + 1, 2, none⟩ = some (.int .u8 0) := (hb3.cell (p := ⟨w1.heap.size + 1, 2, none⟩) (by simp)).trans ((World.cell?_alloc_at _ _ _ _ (by simp)).trans (by simp))
  all_goals have cw3 : w3.cell? ⟨w1.heap.size + 1, 3, none⟩ = some (.int .u8 0) := (hb3.cell (p := ⟨w1.heap.size + 1, 3, none⟩) (by simp)).trans ((World.cell?_alloc_at _ _ _ _ (by simp)).trans (by simp))
  all_goals have cw4 : w3.cell? ⟨w1.heap.size + 1, 4, none⟩ = some (.int .u8 0) := (hb3.cell (p := ⟨w1.heap.size + 1, 4, none⟩) (by simp)).trans ((World.cell?_alloc_at _ _ _ _ (by simp)).trans (by simp))
  all_goals have cw5 : w3.cell? ⟨w1.heap.size + 1, 5, none⟩ = some (.int .u32 0) := (hb3.cell (p := ⟨w1.heap.size + 1, 5, none⟩) (by simp)).trans ((World.cell?_alloc_at _ _ _ _ (by simp)).trans (by simp))
  all_goals have HB3 : Hid (Below w.heap.size w w3) := HB1.out.trans (((below_alloc (below_alloc (Below.refl w1.heap.size w1) (Nat.le_refl _) _) (Nat.le_refl _) _).trans (hb3.mono (by simp; omega))).mono (by omega))
  all_goals clear hb3 c1 HB1
  all_goals generalize w1.heap.size = N at *
  all_goals go_wp2_with fail
  all_goals go_region_held3 (fun w' => w'.cell? ⟨w.heap.size, 0, none⟩ = some (.int .u8 q1) ∧ w'.cell? ⟨w.heap.size, 1, none⟩ = some (.int .u16 q2) ∧ w'.cell? ⟨w.heap.size, 2, none⟩ = some (.int .u8 q3) ∧ w'.cell? ⟨w.heap.size, 3, none⟩ = some (.int .u8 q4) ∧ w'.cell? ⟨w.heap.size, 4, none⟩ = some (.int .u8 q5) ∧ w'.cell? ⟨w.heap.size, 5, none⟩ = some (.int .u32 q6) ∧ w'.cell? ⟨N, 0, none⟩ = some (.int .u8 0) ∧ w'.cell? ⟨N, 1, none⟩ = some (.int .u16 0) ∧ w'.cell? ⟨N, 2, none⟩ = some (.int .u8 0) ∧ w'.cell? ⟨N, 3, none⟩ = some (.int .u8 0) ∧ w'.cell? ⟨N, 4, none⟩ = some (.int .u8 0) ∧ w'.cell? ⟨N, 5, none⟩ = some (.int .u32 0) ∧ w'.cell? ⟨N + 1, 0, none⟩ = some (.int .u8 0) ∧ w'.cell? ⟨N + 1, 1, none⟩ = some (.int .u16 0) ∧ w'.cell? ⟨N + 1, 2, none⟩ = some (.int .u8 0) ∧ w'.cell? ⟨N + 1, 3, none⟩ = some (.int .u8 0) ∧ w'.cell? ⟨N + 1, 4, none⟩ = some (.int .u8 0) ∧ w'.cell? ⟨N + 1, 5, none⟩ = some (.int .u32 0) ∧ N + 1 < w'.heap.size) ((repeat' apply And.intro) <;> first | ((simp only [World.cell?_drewN, World.heap_drewN]; repeat (rw [World.cell?_alloc_past _ _ _ (by first | omega | (simp; omega))])); assumption) | (simp; omega))
      (first
        | (go_at_call 36; refine (HW.out _).mono ?_; rintro e w' ⟨rfl, c4, n4, rfl⟩)
        | (go_at_call 35; refine (HW'.out _).mono ?_; rintro e w' ⟨rfl, c5, n5, rfl⟩)
        | (go_at_call 37; refine (HC.out _).mono ?_; rintro e w' ⟨rfl, c6, c7, n6, rfl⟩))
  all_goals go_wp2_with fail
  all_goals go_ret
  all_goals exact ⟨rfl, by repeat' (first | exact HB3.out | refine below_drewN' ?_ _ | refine Below.drew ?_ | refine below_alloc ?_ (Nat.le_refl _) _)⟩
end Go.Proofs.Ygcfah
