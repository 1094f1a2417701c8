/- law.WideBits where the index lies inside. -/
import Derived.Test.YgcfahWbBase
import Derived.Deep.RegionHeld3
import Derived.RowKit3
namespace Go.Proofs.Ygcfah
open Go.RowKit
set_option linter.unusedVariables false
attribute [local go_sem] setCell_drewN alloc_drewN

set_option maxHeartbeats 1600000 in
theorem wideBits_in_zero (b off len cap : Nat) (at_ : Int) (z : Int → Int) (h0 : 0 ≤ at_) (h1 : at_ < len) (hl : len ≤ 256) (hcap : len ≤ cap) (w : World) (hz : Row w b off len z)
    (q1 q2 q3 q4 q5 q6 : Int) (hq : WP.ok ⟨q1, q2, q3, q4, q5, q6⟩) (hk : (q1 == 0) = true) :
    Calls Fahg.prog 10 #[.slice (some ⟨b, off, none⟩) len cap, .int .u16 at_, .agg #[.int .u8 q1, .int .u16 q2, .int .u8 q3, .int .u8 q4, .int .u8 q5, .int .u32 q6]] w fun e w' => e = .returned (.bool true) ∧ Below w.heap.size w w' := by
  have hb : b < w.heap.size := World.block_lt_of_cell? w ⟨b, off + at_.toNat, none⟩ (hz at_ h0 h1).1
  have hk2 : (q1 == 2) = false := by simp at hk ⊢; omega
  have hk3 : (q1 != 0) = false := by simp at hk ⊢; omega
  have hC := fun w => cost_zero q1 q2 q3 q4 q5 q6 hk w
  have hW := fun w => words_any q1 q2 q3 q4 q5 q6 hq.k0 hq.k1 hq.d0 hq.d1 hq.p0 hq.p1 hq.c0 hq.c1 hq.n0 hq.n1 w
  have hW' := fun w => wideWords_any q1 q2 q3 q4 q5 q6 hq.k0 hq.k1 hq.d0 hq.d1 hq.p0 hq.p1 hq.c0 hq.c1 hq.n0 hq.n1 w
  have bw := wWords_bd q1 q3 q4 q5 q6 hq.d0 hq.p0 hq.n0
  have bn0 : 0 ≤ q6 := hq.n0
  have bn1 : q6 ≤ 4294967295 := hq.n1
  have hm : wWords q1 q3 q4 q5 q6 = 0 := by simp at hk; simp [wWords, hk]
  rw [hm] at hW hW' bw
  clear hm bw
  have hR1 := fun w => resolve_in b off len cap at_ z h0 h1 hl w
  have hR2 := fun w => wideResolve_in b off len cap at_ z h0 h1 hl w
  generalize rsv z len at_ = R at hR1 hR2
  obtain ⟨⟨r1, r2, r3, r4, r5, r6⟩, rb⟩ := R
  simp only [WP.val] at hR1 hR2
  have HR1 : Hid _ := hR1
  have HR2 : Hid _ := hR2
  have HZ : Hid (Row w b off len z) := hz
  clear hz hR1 hR2
  have HC : Hid _ := hC
  have HW : Hid _ := hW
  have HW' : Hid _ := hW'
  clear hq hC hW hW'
  go_enter Fahg.func10, Fahg.ntmps10
  go_wp2_with fail
  (refine (HR1.out _ (HZ.out.below (below_alloc (Below.refl _ _) (Nat.le_refl _) _) hb)).mono ?_; rintro e w1 ⟨rfl, hb1⟩)
  have hB1 := (below_alloc (Below.refl _ _) (Nat.le_refl _) _).trans (hb1.mono (by simp))
  have hz1 : w.heap.size < w1.heap.size := by have := hb1.size; simp at this; omega
  have c1 : ∀ o, w1.cell? ⟨w.heap.size, o, none⟩ = _ := fun o => (hb1.cell (p := ⟨w.heap.size, o, none⟩) (by simp)).trans (World.cell?_alloc_at _ _ _ _ rfl)
  clear hb1
  have HB1 : Hid _ := hB1
  clear hB1
  go_wp2_with fail
  refine (HR2.out _ (HZ.out.below (HB1.out.trans ((below_alloc (below_alloc (Below.refl w1.heap.size w1) (Nat.le_refl _) _) (Nat.le_refl _) _).mono (by omega))) hb)).mono ?_
  rintro e w2 ⟨rfl, hb2⟩
  have hz2 : w1.heap.size + 1 < w2.heap.size := by have := hb2.size; simp at this; omega
  have c2q : ∀ o, w2.cell? ⟨w.heap.size, o, none⟩ = _ := fun o => (hb2.cell (p := ⟨w.heap.size, o, none⟩) (by simp; omega)).trans ((World.cell?_alloc_past _ _ _ (by simp; omega)).trans ((World.cell?_alloc_past _ _ _ (by omega)).trans (c1 o)))
  have c2p : ∀ o, w2.cell? ⟨w1.heap.size, o, none⟩ = _ := fun o => (hb2.cell (p := ⟨w1.heap.size, o, none⟩) (by simp; omega)).trans (cell_two_old w1 _ _ 78 78 o)
  have c2w : ∀ o, w2.cell? ⟨w1.heap.size + 1, o, none⟩ = _ := fun o => (hb2.cell (p := ⟨w1.heap.size + 1, o, none⟩) (by simp)).trans (World.cell?_alloc_at _ _ _ _ (by simp))
  have f2w : ∀ o, w2.frozen? ⟨w1.heap.size + 1, o, none⟩ = false := fun o => (hb2.frozen (p := ⟨w1.heap.size + 1, o, none⟩) (by simp)).trans (by simp [go_sem])
  have HB2 : Hid (Below w.heap.size w w2) := HB1.out.trans (((below_alloc (below_alloc (Below.refl w1.heap.size w1) (Nat.le_refl _) _) (Nat.le_refl _) _).trans (hb2.mono (by simp; omega))).mono (by omega))
  clear hb2 c1 HB1
  generalize w1.heap.size = N at *
  go_wp2_with fail
  (refine (HW'.out _).mono ?_; rintro e w3 ⟨rfl, hw3⟩)
  have hb3 := below_of_new hw3
  clear hw3
  have hz3 : N + 1 < w3.heap.size := by have := hb3.size; simp at this; omega
  have cq0 : w3.cell? ⟨w.heap.size, 0, none⟩ = some (.int .u8 q1) := (hb3.cell (p := ⟨w.heap.size, 0, none⟩) (by simp; omega)).trans (by simp [go_sem, c2q])
  have cq1 : w3.cell? ⟨w.heap.size, 1, none⟩ = some (.int .u16 q2) := (hb3.cell (p := ⟨w.heap.size, 1, none⟩) (by simp; omega)).trans (by simp [go_sem, c2q])
  have cq2 : w3.cell? ⟨w.heap.size, 2, none⟩ = some (.int .u8 q3) := (hb3.cell (p := ⟨w.heap.size, 2, none⟩) (by simp; omega)).trans (by simp [go_sem, c2q])
  have cq3 : w3.cell? ⟨w.heap.size, 3, none⟩ = some (.int .u8 q4) := (hb3.cell (p := ⟨w.heap.size, 3, none⟩) (by simp; omega)).trans (by simp [go_sem, c2q])
  have cq4 : w3.cell? ⟨w.heap.size, 4, none⟩ = some (.int .u8 q5) := (hb3.cell (p := ⟨w.heap.size, 4, none⟩) (by simp; omega)).trans (by simp [go_sem, c2q])
  have cq5 : w3.cell? ⟨w.heap.size, 5, none⟩ = some (.int .u32 q6) := (hb3.cell (p := ⟨w.heap.size, 5, none⟩) (by simp; omega)).trans (by simp [go_sem, c2q])
  have cp0 : w3.cell? ⟨N, 0, none⟩ = some (.int .u8 r1) := (hb3.cell (p := ⟨N, 0, none⟩) (by simp; omega)).trans (by simp [go_sem, c2p])
  have cp1 : w3.cell? ⟨N, 1, none⟩ = some (.int .u16 r2) := (hb3.cell (p := ⟨N, 1, none⟩) (by simp; omega)).trans (by simp [go_sem, c2p])
  have cp2 : w3.cell? ⟨N, 2, none⟩ = some (.int .u8 r3) := (hb3.cell (p := ⟨N, 2, none⟩) (by simp; omega)).trans (by simp [go_sem, c2p])
  have cp3 : w3.cell? ⟨N, 3, none⟩ = some (.int .u8 r4) := (hb3.cell (p := ⟨N, 3, none⟩) (by simp; omega)).trans (by simp [go_sem, c2p])
  have cp4 : w3.cell? ⟨N, 4, none⟩ = some (.int .u8 r5) := (hb3.cell (p := ⟨N, 4, none⟩) (by simp; omega)).trans (by simp [go_sem, c2p])
  have cp5 : w3.cell? ⟨N, 5, none⟩ = some (.int .u32 r6) := (hb3.cell (p := ⟨N, 5, none⟩) (by simp; omega)).trans (by simp [go_sem, c2p])
  have cw0 : w3.cell? ⟨N + 1, 0, none⟩ = some (.int .u8 r1) := (hb3.cell (p := ⟨N + 1, 0, none⟩) (by simp; omega)).trans (by simp [go_sem, c2w])
  have cw1 : w3.cell? ⟨N + 1, 1, none⟩ = some (.int .u16 r2) := (hb3.cell (p := ⟨N + 1, 1, none⟩) (by simp; omega)).trans (by simp [go_sem, c2w])
  have cw2 : w3.cell? ⟨N + 1, 2, none⟩ = some (.int .u8 r3) := (hb3.cell (p := ⟨N + 1, 2, none⟩) (by simp; omega)).trans (by simp [go_sem, c2w])
  have cw3 : w3.cell? ⟨N + 1, 3, none⟩ = some (.int .u8 r4) := (hb3.cell (p := ⟨N + 1, 3, none⟩) (by simp; omega)).trans (by simp [go_sem, c2w])
  have cw4 : w3.cell? ⟨N + 1, 4, none⟩ = some (.int .u8 r5) := (hb3.cell (p := ⟨N + 1, 4, none⟩) (by simp; omega)).trans (by simp [go_sem, c2w])
  have cw5 : w3.cell? ⟨N + 1, 5, none⟩ = some (.int .u32 r6) := (hb3.cell (p := ⟨N + 1, 5, none⟩) (by simp; omega)).trans (by simp [go_sem, c2w])
  have HB3 : Hid (Below w.heap.size w w3) := (by refine Below.trans ?_ (hb3.mono (by simp; omega)); repeat' (first | refine Below.setCell ?_ (by simp; omega) _ | exact HB2.out))
  clear hb3 c2q c2p c2w f2w HB2
  go_wp2_with fail
  go_region_held3 (fun w' => w'.cell? ⟨w.heap.size, 0, none⟩ = some (.int .u8 q1) ∧ w'.cell? ⟨w.heap.size, 1, none⟩ = some (.int .u16 q2) ∧ w'.cell? ⟨w.heap.size, 2, none⟩ = some (.int .u8 q3) ∧ w'.cell? ⟨w.heap.size, 3, none⟩ = some (.int .u8 q4) ∧ w'.cell? ⟨w.heap.size, 4, none⟩ = some (.int .u8 q5) ∧ w'.cell? ⟨w.heap.size, 5, none⟩ = some (.int .u32 q6) ∧ w'.cell? ⟨N, 0, none⟩ = some (.int .u8 r1) ∧ w'.cell? ⟨N, 1, none⟩ = some (.int .u16 r2) ∧ w'.cell? ⟨N, 2, none⟩ = some (.int .u8 r3) ∧ w'.cell? ⟨N, 3, none⟩ = some (.int .u8 r4) ∧ w'.cell? ⟨N, 4, none⟩ = some (.int .u8 r5) ∧ w'.cell? ⟨N, 5, none⟩ = some (.int .u32 r6) ∧ w'.cell? ⟨N + 1, 0, none⟩ = some (.int .u8 r1) ∧ w'.cell? ⟨N + 1, 1, none⟩ = some (.int .u16 r2) ∧ w'.cell? ⟨N + 1, 2, none⟩ = some (.int .u8 r3) ∧ w'.cell? ⟨N + 1, 3, none⟩ = some (.int .u8 r4) ∧ w'.cell? ⟨N + 1, 4, none⟩ = some (.int .u8 r5) ∧ w'.cell? ⟨N + 1, 5, none⟩ = some (.int .u32 r6) ∧ N + 1 < w'.heap.size) ((repeat' apply And.intro) <;> first | ((simp only [World.cell?_drewN, World.heap_drewN]; repeat (rw [World.cell?_alloc_past _ _ _ (by first | omega | (simp; omega))])); assumption) | (simp; omega))
      (first
        | (go_at_call 36; refine (HW.out _).mono ?_; rintro e w' ⟨rfl, c4, n4, rfl⟩)
        | (go_at_call 35; refine (HW'.out _).mono ?_; rintro e w' ⟨rfl, c5, n5, rfl⟩)
        | (go_at_call 37; refine (HC.out _).mono ?_; rintro e w' ⟨rfl, c6, rfl⟩))
  go_wp2_with fail
  go_ret
  exact ⟨rfl, by repeat' (first | exact HB3.out | refine below_drewN' ?_ _ | refine Below.drew ?_ | refine below_alloc ?_ (Nat.le_refl _) _)⟩

set_option maxHeartbeats 20000000 in
theorem wideBits_in_pos (b off len cap : Nat) (at_ : Int) (z : Int → Int) (h0 : 0 ≤ at_) (h1 : at_ < len) (hl : len ≤ 256) (hcap : len ≤ cap) (w : World) (hz : Row w b off len z)
    (q1 q2 q3 q4 q5 q6 : Int) (hq : WP.ok ⟨q1, q2, q3, q4, q5, q6⟩) (hk : (q1 == 0) = false) :
    Calls Fahg.prog 10 #[.slice (some ⟨b, off, none⟩) len cap, .int .u16 at_, .agg #[.int .u8 q1, .int .u16 q2, .int .u8 q3, .int .u8 q4, .int .u8 q5, .int .u32 q6]] w fun e w' => e = .returned (.bool true) ∧ Below w.heap.size w w' := by
  have hb : b < w.heap.size := World.block_lt_of_cell? w ⟨b, off + at_.toNat, none⟩ (hz at_ h0 h1).1
  have hk3 : (q1 != 0) = true := by simp at hk ⊢; omega
  have hC := fun w => cost_pos q1 q2 q3 q4 q5 q6 hk hq.k0 hq.k1 hq.d0 hq.d1 hq.p0 hq.p1 hq.c0 hq.c1 hq.n0 hq.n1 w
  have hways0 := fun m c => cost_ways q1 q2 q3 q4 q5 q6 hq hk m c
  have hW := fun w => words_any q1 q2 q3 q4 q5 q6 hq.k0 hq.k1 hq.d0 hq.d1 hq.p0 hq.p1 hq.c0 hq.c1 hq.n0 hq.n1 w
  have hW' := fun w => wideWords_any q1 q2 q3 q4 q5 q6 hq.k0 hq.k1 hq.d0 hq.d1 hq.p0 hq.p1 hq.c0 hq.c1 hq.n0 hq.n1 w
  have bw := wWords_bd q1 q3 q4 q5 q6 hq.d0 hq.p0 hq.n0
  have bn0 : 0 ≤ q6 := hq.n0
  have bn1 : q6 ≤ 4294967295 := hq.n1
  generalize hm : wWords q1 q3 q4 q5 q6 = m at *
  generalize hc : wCost ⟨q1, q2, q3, q4, q5, q6⟩ = c at *
  have hways := hways0 m c rfl rfl
  clear hm hc hways0
  have hwm : IntKind.u64.wrap m = m := by rw [wrap_u64]; omega
  have hR1 := fun w => resolve_in b off len cap at_ z h0 h1 hl w
  have hR2 := fun w => wideResolve_in b off len cap at_ z h0 h1 hl w
  generalize rsv z len at_ = R at hR1 hR2
  obtain ⟨⟨r1, r2, r3, r4, r5, r6⟩, rb⟩ := R
  simp only [WP.val] at hR1 hR2
  have HR1 : Hid _ := hR1
  have HR2 : Hid _ := hR2
  have HZ : Hid (Row w b off len z) := hz
  clear hz hR1 hR2
  have HC : Hid _ := hC
  have HW : Hid _ := hW
  have HW' : Hid _ := hW'
  clear hq hC hW hW'
  rcases hways with ⟨⟨g1, g2⟩ | ⟨g1, g2, g3, g4, g5⟩, ⟨k1, k2, k3⟩ | ⟨k1, k2, k3⟩ | ⟨k1, k2, k3⟩⟩ | ⟨g1 | ⟨g1, g2, g3⟩ | ⟨g1, g2, g3, g4⟩ | ⟨g1, g2, g3, g4, g5⟩, ⟨k2, k3⟩ | ⟨k2, k3⟩⟩
  all_goals have hwc : IntKind.u64.wrap c = c := by rw [wrap_u64]; omega
  all_goals subst k3
  all_goals go_enter Fahg.func10, Fahg.ntmps10
  all_goals go_wp2_with fail
  all_goals (refine (HR1.out _ (HZ.out.below (below_alloc (Below.refl _ _) (Nat.le_refl _) _) hb)).mono ?_; rintro e w1 ⟨rfl, hb1⟩)
  all_goals have hB1 := (below_alloc (Below.refl _ _) (Nat.le_refl _) _).trans (hb1.mono (by simp))
  all_goals have hz1 : w.heap.size < w1.heap.size := by have := hb1.size; simp at this; omega
  all_goals have c1 : ∀ o, w1.cell? ⟨w.heap.size, o, none⟩ = _ := fun o => (hb1.cell (p := ⟨w.heap.size, o, none⟩) (by simp)).trans (World.cell?_alloc_at _ _ _ _ rfl)
  all_goals clear hb1
  all_goals have HB1 : Hid _ := hB1
  all_goals clear hB1
  all_goals go_wp2_with fail
  all_goals refine (HR2.out _ (HZ.out.below (HB1.out.trans ((below_alloc (below_alloc (Below.refl w1.heap.size w1) (Nat.le_refl _) _) (Nat.le_refl _) _).mono (by omega))) hb)).mono ?_
  all_goals rintro e w2 ⟨rfl, hb2⟩
  all_goals have hz2 : w1.heap.size + 1 < w2.heap.size := by have := hb2.size; simp at this; omega
  all_goals have c2q : ∀ o, w2.cell? ⟨w.heap.size, o, none⟩ = _ := fun o => (hb2.cell (p := ⟨w.heap.size, o, none⟩) (by simp; omega)).trans ((World.cell?_alloc_past _ _ _ (by simp; omega)).trans ((World.cell?_alloc_past _ _ _ (by omega)).trans (c1 o)))
  all_goals have c2p : ∀ o, w2.cell? ⟨w1.heap.size, o, none⟩ = _ := fun o => (hb2.cell (p := ⟨w1.heap.size, o, none⟩) (by simp; omega)).trans (cell_two_old w1 _ _ 78 78 o)
  all_goals have c2w : ∀ o, w2.cell? ⟨w1.heap.size + 1, o, none⟩ = _ := fun o => (hb2.cell (p := ⟨w1.heap.size + 1, o, none⟩) (by simp)).trans (World.cell?_alloc_at _ _ _ _ (by simp))
  all_goals have f2w : ∀ o, w2.frozen? ⟨w1.heap.size + 1, o, none⟩ = false := fun o => (hb2.frozen (p := ⟨w1.heap.size + 1, o, none⟩) (by simp)).trans (by simp [go_sem])
  all_goals have HB2 : Hid (Below w.heap.size w w2) := HB1.out.trans (((below_alloc (below_alloc (Below.refl w1.heap.size w1) (Nat.le_refl _) _) (Nat.le_refl _) _).trans (hb2.mono (by simp; omega))).mono (by omega))
  all_goals clear hb2 c1 HB1
  all_goals generalize w1.heap.size = N at *
  all_goals go_wp2_with fail
  all_goals (refine (HW'.out _).mono ?_; rintro e w3 ⟨rfl, hw3⟩)
  all_goals have hb3 := below_of_new hw3
  all_goals clear hw3
  all_goals have hz3 : N + 1 < w3.heap.size := by have := hb3.size; simp at this; omega
  all_goals have cq0 : w3.cell? ⟨w.heap.size, 0, none⟩ = some (.int .u8 q1) := (hb3.cell (p := ⟨w.heap.size, 0, none⟩) (by simp; omega)).trans (by simp [go_sem, c2q])
  all_goals have cq1 : w3.cell? ⟨w.heap.size, 1, none⟩ = some (.int .u16 q2) := (hb3.cell (p := ⟨w.heap.size, 1, none⟩) (by simp; omega)).trans (by simp [go_sem, c2q])
  all_goals have cq2 : w3.cell? ⟨w.heap.size, 2, none⟩ = some (.int .u8 q3) := (hb3.cell (p := ⟨w.heap.size, 2, none⟩) (by simp; omega)).trans (by simp [go_sem, c2q])
  all_goals have cq3 : w3.cell? ⟨w.heap.size, 3, none⟩ = some (.int .u8 q4) := (hb3.cell (p := ⟨w.heap.size, 3, none⟩) (by simp; omega)).trans (by simp [go_sem, c2q])
  all_goals have cq4 : w3.cell? ⟨w.heap.size, 4, none⟩ = some (.int .u8 q5) := (hb3.cell (p := ⟨w.heap.size, 4, none⟩) (by simp; omega)).trans (by simp [go_sem, c2q])
  all_goals have cq5 : w3.cell? ⟨w.heap.size, 5, none⟩ = some (.int .u32 q6) := (hb3.cell (p := ⟨w.heap.size, 5, none⟩) (by simp; omega)).trans (by simp [go_sem, c2q])
  all_goals have cp0 : w3.cell? ⟨N, 0, none⟩ = some (.int .u8 r1) := (hb3.cell (p := ⟨N, 0, none⟩) (by simp; omega)).trans (by simp [go_sem, c2p])
  all_goals have cp1 : w3.cell? ⟨N, 1, none⟩ = some (.int .u16 r2) := (hb3.cell (p := ⟨N, 1, none⟩) (by simp; omega)).trans (by simp [go_sem, c2p])
  all_goals have cp2 : w3.cell? ⟨N, 2, none⟩ = some (.int .u8 r3) := (hb3.cell (p := ⟨N, 2, none⟩) (by simp; omega)).trans (by simp [go_sem, c2p])
  all_goals have cp3 : w3.cell? ⟨N, 3, none⟩ = some (.int .u8 r4) := (hb3.cell (p := ⟨N, 3, none⟩) (by simp; omega)).trans (by simp [go_sem, c2p])
  all_goals have cp4 : w3.cell? ⟨N, 4, none⟩ = some (.int .u8 r5) := (hb3.cell (p := ⟨N, 4, none⟩) (by simp; omega)).trans (by simp [go_sem, c2p])
  all_goals have cp5 : w3.cell? ⟨N, 5, none⟩ = some (.int .u32 r6) := (hb3.cell (p := ⟨N, 5, none⟩) (by simp; omega)).trans (by simp [go_sem, c2p])
  all_goals have cw0 : w3.cell? ⟨N + 1, 0, none⟩ = some (.int .u8 r1) := (hb3.cell (p := ⟨N + 1, 0, none⟩) (by simp; omega)).trans (by simp [go_sem, c2w])
  all_goals have cw1 : w3.cell? ⟨N + 1, 1, none⟩ = some (.int .u16 r2) := (hb3.cell (p := ⟨N + 1, 1, none⟩) (by simp; omega)).trans (by simp [go_sem, c2w])
  all_goals have cw2 : w3.cell? ⟨N + 1, 2, none⟩ = some (.int .u8 r3) := (hb3.cell (p := ⟨N + 1, 2, none⟩) (by simp; omega)).trans (by simp [go_sem, c2w])
  all_goals have cw3 : w3.cell? ⟨N + 1, 3, none⟩ = some (.int .u8 r4) := (hb3.cell (p := ⟨N + 1, 3, none⟩) (by simp; omega)).trans (by simp [go_sem, c2w])
  all_goals have cw4 : w3.cell? ⟨N + 1, 4, none⟩ = some (.int .u8 r5) := (hb3.cell (p := ⟨N + 1, 4, none⟩) (by simp; omega)).trans (by simp [go_sem, c2w])
  all_goals have cw5 : w3.cell? ⟨N + 1, 5, none⟩ = some (.int .u32 r6) := (hb3.cell (p := ⟨N + 1, 5, none⟩) (by simp; omega)).trans (by simp [go_sem, c2w])
  all_goals have HB3 : Hid (Below w.heap.size w w3) := (by refine Below.trans ?_ (hb3.mono (by simp; omega)); repeat' (first | refine Below.setCell ?_ (by simp; omega) _ | exact HB2.out))
  all_goals clear hb3 c2q c2p c2w f2w HB2
  all_goals go_wp2_with fail
  all_goals go_region_held3 (fun w' => w'.cell? ⟨w.heap.size, 0, none⟩ = some (.int .u8 q1) ∧ w'.cell? ⟨w.heap.size, 1, none⟩ = some (.int .u16 q2) ∧ w'.cell? ⟨w.heap.size, 2, none⟩ = some (.int .u8 q3) ∧ w'.cell? ⟨w.heap.size, 3, none⟩ = some (.int .u8 q4) ∧ w'.cell? ⟨w.heap.size, 4, none⟩ = some (.int .u8 q5) ∧ w'.cell? ⟨w.heap.size, 5, none⟩ = some (.int .u32 q6) ∧ w'.cell? ⟨N, 0, none⟩ = some (.int .u8 r1) ∧ w'.cell? ⟨N, 1, none⟩ = some (.int .u16 r2) ∧ w'.cell? ⟨N, 2, none⟩ = some (.int .u8 r3) ∧ w'.cell? ⟨N, 3, none⟩ = some (.int .u8 r4) ∧ w'.cell? ⟨N, 4, none⟩ = some (.int .u8 r5) ∧ w'.cell? ⟨N, 5, none⟩ = some (.int .u32 r6) ∧ w'.cell? ⟨N + 1, 0, none⟩ = some (.int .u8 r1) ∧ w'.cell? ⟨N + 1, 1, none⟩ = some (.int .u16 r2) ∧ w'.cell? ⟨N + 1, 2, none⟩ = some (.int .u8 r3) ∧ w'.cell? ⟨N + 1, 3, none⟩ = some (.int .u8 r4) ∧ w'.cell? ⟨N + 1, 4, none⟩ = some (.int .u8 r5) ∧ w'.cell? ⟨N + 1, 5, none⟩ = some (.int .u32 r6) ∧ N + 1 < w'.heap.size) ((repeat' apply And.intro) <;> first | ((simp only [World.cell?_drewN, World.heap_drewN]; repeat (rw [World.cell?_alloc_past _ _ _ (by first | omega | (simp; omega))])); assumption) | (simp; omega))
      (first
        | (go_at_call 36; refine (HW.out _).mono ?_; rintro e w' ⟨rfl, c4, n4, rfl⟩)
        | (go_at_call 35; refine (HW'.out _).mono ?_; rintro e w' ⟨rfl, c5, n5, rfl⟩)
        | (go_at_call 37; refine (HC.out _).mono ?_; rintro e w' ⟨rfl, c6, c7, n6, rfl⟩))
  all_goals go_wp2_with fail
  all_goals go_ret
  all_goals exact ⟨rfl, by repeat' (first | exact HB3.out | refine below_drewN' ?_ _ | refine Below.drew ?_ | refine below_alloc ?_ (Nat.le_refl _) _)⟩
end Go.Proofs.Ygcfah
