/- wide.walk.pay and wide.walk.claim. -/
import Derived.Test.YgcfahPush
namespace Go.Proofs.Ygcfah
open Go.RowKit
set_option linter.unusedVariables false
set_option linter.unusedSimpArgs false

/-- What is left of the budget, in memory. -/
structure Lft (w : World) (g : Nat) (L : Int) : Prop where
  c : w.cell? ⟨g, 518, none⟩ = some (.int .u32 L)
  f : w.frozen? ⟨g, 518, none⟩ = false

set_option maxRecDepth 100000 in
set_option maxHeartbeats 1000000 in
theorem pay_no (g : Nat) (L : Int) (p1 p2 p3 p4 p5 p6 : Int) (hp : WP.ok ⟨p1, p2, p3, p4, p5, p6⟩) (w : World) (hl : Lft w g L) (hL : L < wCost ⟨p1, p2, p3, p4, p5, p6⟩) :
    Calls Fahg.prog 106 #[.pointer (some ⟨g, 0, none⟩), WP.val ⟨p1, p2, p3, p4, p5, p6⟩] w fun e w' => e = .returned (.bool false) ∧ Below w.heap.size w w' := by
  have hg : g < w.heap.size := World.block_lt_of_cell? w ⟨g, 518, none⟩ hl.c
  have hC := fun w => cost_any p1 p2 p3 p4 p5 p6 hp.k0 hp.k1 hp.d0 hp.d1 hp.p0 hp.p1 hp.c0 hp.c1 hp.n0 hp.n1 w
  have bc := wCost_bd ⟨p1, p2, p3, p4, p5, p6⟩ hp
  generalize wCost ⟨p1, p2, p3, p4, p5, p6⟩ = c at *
  simp only [WP.val] at hC ⊢
  have HC : Hid _ := hC
  have c1 := hl.c
  clear hC hp
  go_enter Fahg.func106, Fahg.ntmps106
  go_wp2_with fail
  refine (HC.out _).mono ?_; rintro e w1 ⟨rfl, hb⟩
  have c2 : w1.cell? ⟨g, 518, none⟩ = some (.int .u32 L) := (hb.cell (p := ⟨g, 518, none⟩) (by simp; try omega)).trans (by simp [go_sem, hg, c1])
  go_wp2_with fail
  go_ret
  exact ⟨rfl, (below_alloc (Below.refl _ _) (Nat.le_refl _) _).trans (hb.mono (by simp))⟩

set_option maxRecDepth 100000 in
set_option maxHeartbeats 1000000 in
theorem pay_yes (g : Nat) (L : Int) (p1 p2 p3 p4 p5 p6 : Int) (hp : WP.ok ⟨p1, p2, p3, p4, p5, p6⟩) (w : World) (hl : Lft w g L) (hL : wCost ⟨p1, p2, p3, p4, p5, p6⟩ ≤ L) (hL2 : L ≤ 4294967295) :
    Calls Fahg.prog 106 #[.pointer (some ⟨g, 0, none⟩), WP.val ⟨p1, p2, p3, p4, p5, p6⟩] w fun e w' => e = .returned (.bool true) ∧ Within g 518 519 w w' ∧ Lft w' g (L - wCost ⟨p1, p2, p3, p4, p5, p6⟩) := by
  have hg : g < w.heap.size := World.block_lt_of_cell? w ⟨g, 518, none⟩ hl.c
  have hC := fun w => cost_any p1 p2 p3 p4 p5 p6 hp.k0 hp.k1 hp.d0 hp.d1 hp.p0 hp.p1 hp.c0 hp.c1 hp.n0 hp.n1 w
  have bc := wCost_bd ⟨p1, p2, p3, p4, p5, p6⟩ hp
  generalize wCost ⟨p1, p2, p3, p4, p5, p6⟩ = c at *
  simp only [WP.val] at hC ⊢
  have HC : Hid _ := hC
  have c1 := hl.c
  have f1 := hl.f
  have hwc : IntKind.u32.wrap (L - c) = L - c := by rw [IntKind.wrap_u32]; omega
  have hn : ¬ L < c := by omega
  clear hC hp hl
  go_enter Fahg.func106, Fahg.ntmps106
  go_wp2_with fail
  refine (HC.out _).mono ?_; rintro e w1 ⟨rfl, hb⟩
  have c2 : w1.cell? ⟨g, 518, none⟩ = some (.int .u32 L) := (hb.cell (p := ⟨g, 518, none⟩) (by simp; try omega)).trans (by simp [go_sem, hg, c1])
  have f2 : w1.frozen? ⟨g, 518, none⟩ = false := (hb.frozen (p := ⟨g, 518, none⟩) (by simp; try omega)).trans (by simp [go_sem, hg, f1])
  have HB : Hid (Below w.heap.size w w1) := (below_alloc (Below.refl _ _) (Nat.le_refl _) _).trans (hb.mono (by simp))
  clear hb c1 f1
  go_wp2_with fail
  go_ret
  refine ⟨rfl, (Within.of_below HB.out hg).set (by omega) (by omega) _, ?_, ?_⟩
  · exact World.cell?_setCell_same' _ _ _ (by rw [c2]; rfl)
  · simp [go_sem, f2]

theorem Set4.below {w w' : World} {g o : Nat} {s : Nat → Nat} (h : Set4 w g o s) (hb : Below w.heap.size w w') : Set4 w' g o s := by
  have hg : g < w.heap.size := World.block_lt_of_cell? w ⟨g, o + 0, none⟩ (h.c 0 (by omega))
  exact ⟨fun q hq => (hb.cell (p := ⟨g, o + q, none⟩) hg).trans (h.c q hq), fun q hq => (hb.frozen (p := ⟨g, o + q, none⟩) hg).trans (h.f q hq)⟩
theorem claim_all (g o : Nat) (s : Nat → Nat) (S : Nat → Bool) (a n : Nat) (han : n = 0 ∨ a + n ≤ 256) (w : World) (hs : Set4 w g o s) (hR : Rep s S) :
    Calls Fahg.prog 117 #[.pointer (some ⟨g, o, none⟩), .int .u16 a, .int .u16 n] w fun e w' => e = .returned (.bool (free S a n)) ∧ Within g o (o + 4) w w' ∧ ∃ s', Set4 w' g o s' ∧ Rep s' (join S a n) := by
  by_cases h : n = 0
  · subst h
    refine (claim_zero g o a w).mono ?_
    rintro e w' ⟨rfl, rfl⟩
    exact ⟨rfl, Within.refl _ _ _ _, s, hs, by rw [join_zero]; exact hR⟩
  · exact claim_some g o s S a n (by omega) (by omega) w hs hR

set_option maxRecDepth 100000 in
set_option maxHeartbeats 1000000 in
theorem wclaim_any (g : Nat) (s : Nat → Nat) (S : Nat → Bool) (p1 p2 p3 p4 p5 p6 : Int) (hp : WP.ok ⟨p1, p2, p3, p4, p5, p6⟩) (lo n : Nat) (w : World) (hs : Set4 w g 1 s) (hR : Rep s S)
    (hlo : (lo : Int) = if p5 = 7 then p2 - 1 else p2) (hn : (n : Int) = wWords p1 p3 p4 p5 p6) (hln : n = 0 ∨ lo + n ≤ 256) :
    Calls Fahg.prog 107 #[.pointer (some ⟨g, 0, none⟩), WP.val ⟨p1, p2, p3, p4, p5, p6⟩] w fun e w' => e = .returned (.bool (free S lo n)) ∧ Within g 1 5 w w' ∧ ∃ s', Set4 w' g 1 s' ∧ Rep s' (join S lo n) := by
  have hg : g < w.heap.size := World.block_lt_of_cell? w ⟨g, 1 + 0, none⟩ (hs.c 0 (by omega))
  have hC := fun w => words_any p1 p2 p3 p4 p5 p6 hp.k0 hp.k1 hp.d0 hp.d1 hp.p0 hp.p1 hp.c0 hp.c1 hp.n0 hp.n1 w
  rw [← hn] at hC
  simp only [WP.val]
  have HC : Hid _ := hC
  have HP : Hid _ := hp
  have HS : Hid _ := hs
  have HK : Hid (∀ wA, Set4 wA g 1 s → Calls Fahg.prog 117 #[.pointer (some ⟨g, 1, none⟩), .int .u16 lo, .int .u16 n] wA fun e w' => e = .returned (.bool (free S lo n)) ∧ Within g 1 5 wA w' ∧ ∃ s', Set4 w' g 1 s' ∧ Rep s' (join S lo n)) := fun wA h => claim_all g 1 s S lo n hln wA h hR
  clear hC hp hs hn hR hln
  by_cases h7 : (p5 == 7) = true
  · rw [if_pos (by simpa using h7)] at hlo
    have hwl : IntKind.u16.wrap (p2 - 1) = lo := by have := HP.out.a1; simp at this; rw [IntKind.wrap_u16]; omega
    have HLO : Hid _ := hlo
    clear hlo
    go_enter Fahg.func107, Fahg.ntmps107
    go_wp2_with fail
    go_region_with (first | (go_at_call 36; refine (HC.out _).mono ?_; rintro e wI ⟨rfl, c, nq, rfl⟩) | (go_at_call 117; refine (HK.out _ (Set4.below HS.out ?_)).mono ?_; (repeat' (first | exact Below.refl _ _ | refine below_drewN' ?_ _ | refine Below.drew ?_ | refine below_alloc ?_ (Nat.le_refl _) _)); rintro e wJ ⟨rfl, hW, s', hs', hR'⟩))
    all_goals go_wp2_with fail
    all_goals go_ret
    all_goals refine ⟨rfl, ?_, s', hs', hR'⟩
    all_goals refine Within.trans (Within.of_below ?_ hg) hW
    all_goals (repeat' (first | exact Below.refl _ _ | refine below_drewN' ?_ _ | refine Below.drew ?_ | refine below_alloc ?_ (Nat.le_refl _) _))
  · rw [if_neg (by simpa using h7)] at hlo
    subst hlo
    have h7' : (p5 == 7) = false := by simpa using h7
    clear h7
    go_enter Fahg.func107, Fahg.ntmps107
    go_wp2_with fail
    go_region_with (first | (go_at_call 36; refine (HC.out _).mono ?_; rintro e wI ⟨rfl, c, nq, rfl⟩) | (go_at_call 117; refine (HK.out _ (Set4.below HS.out ?_)).mono ?_; (repeat' (first | exact Below.refl _ _ | refine below_drewN' ?_ _ | refine Below.drew ?_ | refine below_alloc ?_ (Nat.le_refl _) _)); rintro e wJ ⟨rfl, hW, s', hs', hR'⟩))
    all_goals go_wp2_with fail
    all_goals go_ret
    all_goals refine ⟨rfl, ?_, s', hs', hR'⟩
    all_goals refine Within.trans (Within.of_below ?_ hg) hW
    all_goals (repeat' (first | exact Below.refl _ _ | refine below_drewN' ?_ _ | refine Below.drew ?_ | refine below_alloc ?_ (Nat.le_refl _) _))
end Go.Proofs.Ygcfah
