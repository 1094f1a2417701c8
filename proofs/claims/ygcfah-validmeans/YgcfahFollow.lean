/- wide.Reader.follow. -/
import Derived.Test.YgcfahOff
import Derived.Test.YgcfahWbBase
import Derived.Deep.RegionWith
namespace Go.Proofs.Ygcfah
open Go.RowKit
set_option linter.unusedVariables false
set_option linter.unusedSimpArgs false
attribute [local go_sem] setCell_drewN alloc_drewN

theorem below_set6 {B : Nat} {a w : World} (h : Below B a w) {X : Nat} (hX : B ≤ X) (v0 v1 v2 v3 v4 v5 : Value) :
    Below B a ((((((w.setCell ⟨X, 0, none⟩ v0).setCell ⟨X, 1, none⟩ v1).setCell ⟨X, 2, none⟩ v2).setCell ⟨X, 3, none⟩ v3).setCell ⟨X, 4, none⟩ v4).setCell ⟨X, 5, none⟩ v5) :=
  (((((h.setCell hX _).setCell hX _).setCell hX _).setCell hX _).setCell hX _).setCell hX _
theorem off_set6 {Y : Nat} {a w : World} (h : Off Y a w) {X : Nat} (hX : a.heap.size ≤ X) (v0 v1 v2 v3 v4 v5 : Value) :
    Off Y a ((((((w.setCell ⟨X, 0, none⟩ v0).setCell ⟨X, 1, none⟩ v1).setCell ⟨X, 2, none⟩ v2).setCell ⟨X, 3, none⟩ v3).setCell ⟨X, 4, none⟩ v4).setCell ⟨X, 5, none⟩ v5) :=
  (((((h.setNew hX _).setNew hX _).setNew hX _).setNew hX _).setNew hX _).setNew hX _
theorem wCost_bd (p : WP) (hp : p.ok) : 0 ≤ wCost p ∧ wCost p ≤ 1073742081 := by
  have bw := wWords_bd p.kind p.data p.ptrs p.code p.count hp.d0 hp.p0 hp.n0
  have := hp.n0
  unfold wCost WP.words
  (repeat' split) <;> omega

/-- What a Reader is, in memory. -/
structure IsRdr (w : World) (RB : Nat) (sl : Value) (L : Int) : Prop where
  a : w.cell? ⟨RB, 0, none⟩ = some sl
  l : w.cell? ⟨RB, 1, none⟩ = some (.int .u32 L)
  f : w.frozen? ⟨RB, 1, none⟩ = false
theorem IsRdr.lt {w : World} {RB : Nat} {sl : Value} {L : Int} (h : IsRdr w RB sl L) : RB < w.heap.size := World.block_lt_of_cell? w ⟨RB, 0, none⟩ h.a
theorem IsRdr.below {w w' : World} {RB : Nat} {sl : Value} {L : Int} (h : IsRdr w RB sl L) (hb : Below w.heap.size w w') : IsRdr w' RB sl L :=
  ⟨(hb.cell (p := ⟨RB, 0, none⟩) h.lt).trans h.a, (hb.cell (p := ⟨RB, 1, none⟩) h.lt).trans h.l, (hb.frozen (p := ⟨RB, 1, none⟩) h.lt).trans h.f⟩

set_option maxHeartbeats 800000 in
/-- Nothing resolves: nothing is paid. -/
theorem follow_no (RB : Nat) (sl : Value) (a0 : Option Addr) (len cap : Nat) (L at_ : Int) (w : World) (hr : IsRdr w RB (.slice a0 len cap) L)
    (hR : ∀ w1, Below w.heap.size w w1 → Calls Fahg.prog 33 #[.slice a0 len cap, .int .u16 at_] w1 fun e w' => e = .returned (.tuple #[WP.nul.val, .bool false]) ∧ Below w1.heap.size w1 w') :
    Calls Fahg.prog 104 #[.pointer (some ⟨RB, 0, none⟩), .int .u16 at_] w fun e w' => e = .returned (.tuple #[WP.nul.val, .bool false]) ∧ Below w.heap.size w w' := by
  have hb := hr.lt
  have ra := hr.a
  simp only [WP.nul, WP.val] at hR ⊢
  have HR : Hid _ := hR
  clear hR hr
  go_enter Fahg.func104, Fahg.ntmps104
  go_wp2_with fail
  refine (HR.out _ (below_alloc (Below.refl _ _) (Nat.le_refl _) _)).mono ?_; rintro e w1 ⟨rfl, hb1⟩
  have hz1 : w.heap.size < w1.heap.size := by have := hb1.size; simp at this; omega
  have q : ∀ o, w1.cell? ⟨w.heap.size, o, none⟩ = _ := fun o => (hb1.cell (p := ⟨w.heap.size, o, none⟩) (by simp)).trans (World.cell?_alloc_at _ _ _ _ rfl)
  have f : ∀ o, w1.frozen? ⟨w.heap.size, o, none⟩ = false := fun o => (hb1.frozen (p := ⟨w.heap.size, o, none⟩) (by simp)).trans (by simp [go_sem])
  have HB : Hid (Below w.heap.size w w1) := (below_alloc (Below.refl _ _) (Nat.le_refl _) _).trans (hb1.mono (by simp))
  clear hb1
  go_wp2_with fail
  go_quiet (fail)
  go_wp2_with fail
  refine bodyPost_ret (v := .tuple #[.agg #[.int .u8 0, .int .u16 0, .int .u8 0, .int .u8 0, .int .u8 0, .int .u32 0], .bool false]) (by simp [results, Fahg.results104, go_sem, q, hz1]) rfl ⟨rfl, ?_⟩
  exact below_drewN' (below_alloc (below_set6 HB.out (Nat.le_refl _) _ _ _ _ _ _) (Nat.le_refl _) _) _

set_option maxHeartbeats 3200000 in
theorem follow_yes (RB : Nat) (a0 : Option Addr) (len cap : Nat) (L at_ : Int) (w : World) (hr : IsRdr w RB (.slice a0 len cap) L) (hL : 1073742081 ≤ L) (hL2 : L ≤ 4294967295) (p1 p2 p3 p4 p5 p6 : Int) (hp : WP.ok ⟨p1, p2, p3, p4, p5, p6⟩)
    (hR : ∀ w1, Below w.heap.size w w1 → Calls Fahg.prog 33 #[.slice a0 len cap, .int .u16 at_] w1 fun e w' => e = .returned (.tuple #[WP.val ⟨p1, p2, p3, p4, p5, p6⟩, .bool true]) ∧ Below w1.heap.size w1 w') :
    Calls Fahg.prog 104 #[.pointer (some ⟨RB, 0, none⟩), .int .u16 at_] w fun e w' => e = .returned (.tuple #[WP.val ⟨p1, p2, p3, p4, p5, p6⟩, .bool true]) ∧ Off RB w w' ∧ IsRdr w' RB (.slice a0 len cap) (L - wCost ⟨p1, p2, p3, p4, p5, p6⟩) := by
  have hb := hr.lt
  have ra := hr.a
  have rl := hr.l
  have rf := hr.f
  have hC := fun w => cost_any p1 p2 p3 p4 p5 p6 hp.k0 hp.k1 hp.d0 hp.d1 hp.p0 hp.p1 hp.c0 hp.c1 hp.n0 hp.n1 w
  have bc := wCost_bd ⟨p1, p2, p3, p4, p5, p6⟩ hp
  generalize wCost ⟨p1, p2, p3, p4, p5, p6⟩ = c at *
  have hwc : IntKind.u32.wrap (L - c) = L - c := by rw [IntKind.wrap_u32]; omega
  simp only [WP.val] at hR ⊢
  have HR : Hid _ := hR
  have HC : Hid _ := hC
  clear hR hr hC hp
  go_enter Fahg.func104, Fahg.ntmps104
  go_wp2_with fail
  refine (HR.out _ (below_alloc (Below.refl _ _) (Nat.le_refl _) _)).mono ?_; rintro e w1 ⟨rfl, hb1⟩
  have hz1 : w.heap.size < w1.heap.size := by have := hb1.size; simp at this; omega
  have q : ∀ o, w1.cell? ⟨w.heap.size, o, none⟩ = _ := fun o => (hb1.cell (p := ⟨w.heap.size, o, none⟩) (by simp)).trans (World.cell?_alloc_at _ _ _ _ rfl)
  have f : ∀ o, w1.frozen? ⟨w.heap.size, o, none⟩ = false := fun o => (hb1.frozen (p := ⟨w.heap.size, o, none⟩) (by simp)).trans (by simp [go_sem])
  have HB : Hid (Below w.heap.size w w1) := (below_alloc (Below.refl _ _) (Nat.le_refl _) _).trans (hb1.mono (by simp))
  clear hb1
  have ra1 : w1.cell? ⟨RB, 0, none⟩ = some (.slice a0 len cap) := (HB.out.cell (p := ⟨RB, 0, none⟩) hb).trans ra
  have rl1 : w1.cell? ⟨RB, 1, none⟩ = some (.int .u32 L) := (HB.out.cell (p := ⟨RB, 1, none⟩) hb).trans rl
  have rf1 : w1.frozen? ⟨RB, 1, none⟩ = false := (HB.out.frozen (p := ⟨RB, 1, none⟩) hb).trans rf
  have hb2 : RB < w1.heap.size := by omega
  clear ra rl rf
  go_wp2_with fail
  go_region_held3 (fun w' => w'.cell? ⟨w1.heap.size, 0, none⟩ = some (.int .u8 p1) ∧ w'.cell? ⟨w1.heap.size, 1, none⟩ = some (.int .u16 p2) ∧ w'.cell? ⟨w1.heap.size, 2, none⟩ = some (.int .u8 p3) ∧ w'.cell? ⟨w1.heap.size, 3, none⟩ = some (.int .u8 p4) ∧ w'.cell? ⟨w1.heap.size, 4, none⟩ = some (.int .u8 p5) ∧ w'.cell? ⟨w1.heap.size, 5, none⟩ = some (.int .u32 p6) ∧ w'.cell? ⟨RB, 0, none⟩ = some (.slice a0 len cap) ∧ w'.cell? ⟨RB, 1, none⟩ = some (.int .u32 L) ∧ w1.heap.size < w'.heap.size) ((repeat' apply And.intro) <;> first | assumption | (simp [go_sem, ra1, rl1, hb2]; done) | (simp; done) | (simp; omega) | ((rw [hbI.cell (by simp)]; first | assumption | (simp [go_sem]; done))) | ((rw [hbI.cell (by simp; omega)]; first | assumption | (simp [go_sem, ra1, rl1, hb2]; done))) | (have := hbI.size; simp at this; omega))
    (first | (go_at_call 37; refine (HC.out _).mono ?_; rintro e wI ⟨rfl, hbI⟩))
  rename_i hHeld
  obtain ⟨s0, s1, s2, s3, s4, s5, s6, s7, s8⟩ := hHeld
  have q2 : ∀ o, wI.cell? ⟨w.heap.size, o, none⟩ = _ := fun o => (hbI.cell (p := ⟨w.heap.size, o, none⟩) (by simp; omega)).trans (by simp [go_sem, hz1]; exact q o)
  have f2 : ∀ o, wI.frozen? ⟨w.heap.size, o, none⟩ = false := fun o => (hbI.frozen (p := ⟨w.heap.size, o, none⟩) (by simp; omega)).trans (by simp [go_sem, hz1, f])
  have rf2 : wI.frozen? ⟨RB, 1, none⟩ = false := (hbI.frozen (p := ⟨RB, 1, none⟩) (by simp; omega)).trans (by simp [go_sem, hb2, rf1])
  have HB2 : Hid (Below w.heap.size w wI) := HB.out.trans (Below.trans ((Below.refl _ _).alloc (by omega) _).drew (hbI.mono (by simp; omega)))
  clear hbI HB q f ra1 rl1 rf1
  go_wp2_with fail
  go_region_with (first | (go_at_call 37; refine (HC.out _).mono ?_; rintro e wJ ⟨rfl, hbJ⟩; have j1 : wJ.cell? ⟨RB, 1, none⟩ = some (.int .u32 L) := (hbJ.cell (p := ⟨RB, 1, none⟩) (by simp; omega)).trans (by simp [s7]); have j2 : wJ.frozen? ⟨RB, 1, none⟩ = false := (hbJ.frozen (p := ⟨RB, 1, none⟩) (by simp; omega)).trans (by simp [rf2]); have j3 : w1.heap.size < wJ.heap.size := (by have := hbJ.size; simp at this; omega)))
  all_goals have HJ : Hid (Below wI.heap.size wI wJ) := (by first | exact hbJ | exact (Below.drew (Below.refl _ _)).trans hbJ)
  all_goals clear hbJ
  all_goals have e0 : wJ.cell? ⟨w1.heap.size, 0, none⟩ = some (.int .u8 p1) := ((bcell HJ.out).1 w1.heap.size 0 s8).trans s0
  all_goals have e1 : wJ.cell? ⟨w1.heap.size, 1, none⟩ = some (.int .u16 p2) := ((bcell HJ.out).1 w1.heap.size 1 s8).trans s1
  all_goals have e2 : wJ.cell? ⟨w1.heap.size, 2, none⟩ = some (.int .u8 p3) := ((bcell HJ.out).1 w1.heap.size 2 s8).trans s2
  all_goals have e3 : wJ.cell? ⟨w1.heap.size, 3, none⟩ = some (.int .u8 p4) := ((bcell HJ.out).1 w1.heap.size 3 s8).trans s3
  all_goals have e4 : wJ.cell? ⟨w1.heap.size, 4, none⟩ = some (.int .u8 p5) := ((bcell HJ.out).1 w1.heap.size 4 s8).trans s4
  all_goals have e5 : wJ.cell? ⟨w1.heap.size, 5, none⟩ = some (.int .u32 p6) := ((bcell HJ.out).1 w1.heap.size 5 s8).trans s5
  all_goals have j0 : wJ.cell? ⟨RB, 0, none⟩ = some (.slice a0 len cap) := ((bcell HJ.out).1 RB 0 (by omega)).trans s6
  all_goals have q3 : ∀ o, wJ.cell? ⟨w.heap.size, o, none⟩ = _ := fun o => ((bcell HJ.out).1 w.heap.size o (by omega)).trans (q2 o)
  all_goals have f3 : ∀ o, wJ.frozen? ⟨w.heap.size, o, none⟩ = false := fun o => ((bcell HJ.out).2 w.heap.size o (by omega)).trans (f2 o)
  all_goals have HB3 : Hid (Below w.heap.size w wJ) := HB2.out.trans (HJ.out.mono (by omega))
  all_goals clear s0 s1 s2 s3 s4 s5 s6 s7 q2 f2 rf2 HB2 HJ
  all_goals have hne1 : ¬ RB = w1.heap.size := by omega
  all_goals have hne2 : ¬ w1.heap.size = RB := by omega
  all_goals have hne3 : ¬ RB = w.heap.size := by omega
  all_goals have hne4 : ¬ w.heap.size = RB := by omega
  all_goals go_wp2_with fail
  all_goals refine bodyPost_ret (v := .tuple #[.agg #[.int .u8 p1, .int .u16 p2, .int .u8 p3, .int .u8 p4, .int .u8 p5, .int .u32 p6], .bool true]) (by simp [results, Fahg.results104, go_sem, q3, hne4]) rfl ⟨rfl, ?_, ?_⟩
  all_goals have HO := Off.setCell (X := RB) (Off.of_below HB3.out) (p := ⟨RB, 1, none⟩) rfl (.int .u32 (L - c))
  all_goals try exact off_set6 HO (Nat.le_refl _) _ _ _ _ _ _
  all_goals try exact (off_set6 HO (Nat.le_refl _) _ _ _ _ _ _).drew
  all_goals refine ⟨?_, ?_, ?_⟩
  all_goals simp [go_sem, hne3, hne4, j0, j1, j2]
end Go.Proofs.Ygcfah
