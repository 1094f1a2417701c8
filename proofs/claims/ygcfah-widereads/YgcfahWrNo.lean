/- law.WideReads where p does not lie inside. -/
import Derived.Test.YgcfahApp
namespace Go.Proofs.Ygcfah
open Go.ChangeShapes Go.WideShapes Go.ChangeAt Go.RowKit
set_option linter.unusedVariables false
set_option linter.unusedSimpArgs false
attribute [local go_sem] setCell_drewN alloc_drewN

theorem no_cases {p a b : Bool} {P : Prop} : a = true ∨ a = false := by cases a <;> simp

set_option maxRecDepth 100000 in
set_option maxHeartbeats 6400000 in
theorem reads_no (a0 : Option Addr) (len cap L : Nat) (z : Int → Int) (q1 q2 q3 q4 q5 q6 i j : Int) (hq : WP.ok ⟨q1, q2, q3, q4, q5, q6⟩) (i0 : 0 ≤ i) (i1 : i ≤ 255) (j0 : 0 ≤ j) (j1 : j ≤ 4294967295) (w : World)
    (hcap : len ≤ cap) (hnil : a0 = none → cap = 0) (hs : Lies w a0 L z) (hL : (len ≤ 257 ∧ L = len) ∨ (257 < len ∧ L = 257)) (hin : wIn q1 q2 q3 q4 q5 q6 L = false) :
    Calls Fahg.prog 11 #[.slice a0 len cap, .agg #[.int .u8 q1, .int .u16 q2, .int .u8 q3, .int .u8 q4, .int .u8 q5, .int .u32 q6], .int .u8 i, .int .u32 j] w fun e w' => e = .returned (.bool true) ∧ Below w.heap.size w w' := by
  have hL' : L ≤ 257 := by omega
  obtain ⟨a1, cap1, w1, hrun, hb1, hrow⟩ := app_any (w.alloc (.cells #[Value.int .u8 q1, .int .u16 q2, .int .u8 q3, .int .u8 q4, .int .u8 q5, .int .u32 q6] 78)) a0 L cap z (hs.below (below_alloc (Below.refl _ _) (Nat.le_refl _) _)) hnil (by omega)
  have hz1 : w.heap.size < w1.heap.size := by have := hb1.size; simp at this; omega
  have c1 : ∀ o, w1.cell? ⟨w.heap.size, o, none⟩ = #[Value.int .u8 q1, .int .u16 q2, .int .u8 q3, .int .u8 q4, .int .u8 q5, .int .u32 q6][o]? := fun o => (hb1.cell (p := ⟨w.heap.size, o, none⟩) (by simp)).trans (World.cell?_alloc_at _ _ _ _ rfl)
  have S1 : RS w w1.heap.size a1 L cap1 z q1 q2 q3 q4 q5 q6 4294967295 (w1.alloc (.cells #[.slice a1 L cap1, .int .u32 4294967295] 87)) := by
    refine ⟨(below_alloc (Below.refl _ _) (Nat.le_refl _) _).trans ((hb1.mono (by simp)).trans ((Below.refl _ _).alloc (by omega) _)), fun o => ?_, ⟨?_, ?_, ?_⟩, hz1, ?_⟩
    · rw [World.cell?_alloc_past _ _ _ (by omega), c1 o]
    · rw [World.cell?_alloc_at _ _ _ _ rfl]; rfl
    · rw [World.cell?_alloc_at _ _ _ _ rfl]; rfl
    · simp [go_sem]
    · rcases hrow with h | ⟨g, e, h1, h2, hr⟩
      · exact .inl h
      · exact .inr ⟨g, e, by omega, by simp; omega, hr.below ((Below.refl w1.heap.size w1).alloc (Nat.le_refl _) _) h2⟩
  have HRUN : Hid _ := hrun
  have HS1 : Hid _ := S1
  clear hrow hs hrun hb1 S1
  have hWI := fun w => wideInside_any L q1 q2 q3 q4 q5 q6 hq.k0 hq.k1 hq.a0 hq.a1 hq.d0 hq.d1 hq.p0 hq.p1 hq.c0 hq.c1 hq.n0 hq.n1 w (by omega) (by omega)
  have hIN := fun cap1 a1 w => inside_any a1 L cap1 q1 q2 q3 q4 q5 q6 hq.k0 hq.k1 hq.a0 hq.a1 hq.d0 hq.d1 hq.p0 hq.p1 hq.c0 hq.c1 hq.n0 hq.n1 w
  rw [hin] at hWI
  simp only [hin] at hIN
  have HWI : Hid _ := hWI
  have HIN : Hid _ := hIN
  clear hWI hIN
  have HU : Hid _ := fun RB cap1 a1 w hr => u64_no RB a1 L cap1 q1 q2 q3 q4 q5 q6 hq.k0 hq.k1 hq.a0 hq.a1 hq.d0 hq.d1 hq.p0 hq.p1 hq.c0 hq.c1 hq.n0 hq.n1 i i0 i1 w hr (by
    cases h : (q1 != 1)
    · rcases Int.lt_or_le i q3 with h2 | h2
      · exact .inr (.inr ⟨rfl, h2, hin⟩)
      · exact .inr (.inl ⟨rfl, h2⟩)
    · exact .inl rfl)
  have HE : Hid _ := fun RB cap1 a1 w hr => elem_no RB a1 L cap1 q1 q2 q3 q4 q5 q6 hq.k0 hq.k1 hq.a0 hq.a1 hq.d0 hq.d1 hq.p0 hq.p1 hq.c0 hq.c1 hq.n0 hq.n1 j j0 j1 w hr (by
    cases h : (q1 != 2)
    · rcases Int.lt_or_le 5 q5 with h2 | h2
      · exact .inr (.inl ⟨rfl, h2⟩)
      · cases h3 : (q5 == 0)
        · rcases Int.lt_or_le j q6 with h4 | h4
          · exact .inr (.inr (.inr (.inr ⟨rfl, h2, rfl, h4, hin⟩)))
          · exact .inr (.inr (.inr (.inl ⟨rfl, h2, rfl, h4⟩)))
        · exact .inr (.inr (.inl ⟨rfl, h2, rfl⟩))
    · exact .inl rfl)
  have HC : Hid _ := fun RB cap1 a1 w hr => child_no RB a1 L cap1 q1 q2 q3 q4 q5 q6 hq.k0 hq.k1 hq.a0 hq.a1 hq.d0 hq.d1 hq.p0 hq.p1 hq.c0 hq.c1 hq.n0 hq.n1 i i0 i1 w hr (by
    cases h : (q1 != 1)
    · exact .inr ⟨rfl, hin⟩
    · exact .inl rfl)
  have HP : Hid _ := fun RB cap1 a1 w hr => eptr_no RB a1 L cap1 q1 q2 q3 q4 q5 q6 hq.k0 hq.k1 hq.a0 hq.a1 hq.d0 hq.d1 hq.p0 hq.p1 hq.c0 hq.c1 hq.n0 hq.n1 j j0 j1 w hr (by
    cases h : (q1 != 2)
    · rcases Int.lt_or_le j q6 with h4 | h4
      · exact .inr (.inr (.inl ⟨rfl, h4, hin⟩))
      · exact .inr (.inl ⟨rfl, h4⟩)
    · exact .inl rfl)
  clear hin hq
  simp only [WP.nul, WP.val] at HC HP
  rcases hL with ⟨hl, rfl⟩ | ⟨hl, rfl⟩
  all_goals go_enter Fahg.func11, Fahg.ntmps11
  all_goals go_wp2_with (at_builtin; refine wpList_append_run rfl _ _ _ rfl _ _ _ _ rfl rfl HRUN.out ?_)
  all_goals (refine (HWI.out _).mono ?_; rintro e w2 ⟨rfl, hb2⟩)
  all_goals have HS2 : Hid _ := HS1.out.stay hb2
  all_goals have c2 := HS2.out.p
  all_goals clear c1 hb2 HS1 HRUN
  all_goals go_wp2_with fail
  all_goals (refine (HIN.out _ _ _).mono ?_; rintro e w3 ⟨rfl, hb3⟩)
  all_goals have HS3 : Hid _ := HS2.out.stay hb3
  all_goals have c3 := HS3.out.p
  all_goals clear c2 hb3 HS2
  all_goals go_wp2_with fail
  all_goals (refine (HU.out _ _ _ _ HS3.out.rdr.a).mono ?_; rintro e w4 ⟨rfl, hb4⟩)
  all_goals have HS4 : Hid _ := HS3.out.stay hb4
  all_goals have c4 := HS4.out.p
  all_goals clear c3 hb4 HS3
  all_goals go_wp2_with fail
  all_goals (refine (HE.out _ _ _ _ HS4.out.rdr.a).mono ?_; rintro e w5 ⟨rfl, hb5⟩)
  all_goals have HS5 : Hid _ := HS4.out.stay hb5
  all_goals have c5 := HS5.out.p
  all_goals clear c4 hb5 HS4
  all_goals have hz5 : w.heap.size < w5.heap.size := Nat.lt_trans HS5.out.lt HS5.out.rdr.lt
  all_goals go_wp2_with fail
  all_goals have HSn : Hid _ := HS5.out.stay (below_alloc (Below.refl _ _) (Nat.le_refl _) (.cells #[.int .u8 0, .int .u16 0, .int .u8 0, .int .u8 0, .int .u8 0, .int .u32 0] 78))
  all_goals (refine (HC.out _ _ _ _ HSn.out.rdr.a).mono ?_; rintro e w6 ⟨rfl, hb6⟩)
  all_goals have HS6 : Hid _ := HSn.out.stay hb6
  all_goals have c6 := HS6.out.p
  all_goals have n6 : ∀ o, w6.cell? ⟨w5.heap.size, o, none⟩ = _ := fun o => (hb6.cell (p := ⟨w5.heap.size, o, none⟩) (by simp)).trans (World.cell?_alloc_at _ _ _ _ rfl)
  all_goals have hz6 : w5.heap.size < w6.heap.size := by have := hb6.size; simp at this; omega
  all_goals have hy6 : w.heap.size < w6.heap.size := by omega
  all_goals clear c5 hb6 HSn HS5
  all_goals go_wp2_with fail
  all_goals have HSm : Hid _ := HS6.out.stay (below_alloc (Below.refl _ _) (Nat.le_refl _) (.cells #[.int .u8 0, .int .u16 0, .int .u8 0, .int .u8 0, .int .u8 0, .int .u32 0] 78))
  all_goals (refine (HP.out _ _ _ _ HSm.out.rdr.a).mono ?_; rintro e w7 ⟨rfl, hb7⟩)
  all_goals have HS7 : Hid _ := HSm.out.stay hb7
  all_goals have n7 : ∀ o, w7.cell? ⟨w5.heap.size, o, none⟩ = _ := fun o => (hb7.cell (p := ⟨w5.heap.size, o, none⟩) (by simp; omega)).trans ((World.cell?_alloc_past _ _ _ (by omega)).trans (n6 o))
  all_goals have d7 : ∀ o, w7.cell? ⟨w6.heap.size, o, none⟩ = _ := fun o => (hb7.cell (p := ⟨w6.heap.size, o, none⟩) (by simp)).trans (World.cell?_alloc_at _ _ _ _ rfl)
  all_goals have hz7 : w6.heap.size < w7.heap.size := by have := hb7.size; simp at this; omega
  all_goals have hy7 : w5.heap.size < w7.heap.size := by omega
  all_goals clear c6 hb7 HSm HS6 n6
  all_goals go_wp2_with fail
  all_goals go_ret
  all_goals exact ⟨rfl, HS7.out.below.alloc (by omega) _⟩
end Go.Proofs.Ygcfah
