/- law.WideReads where p is a list that lies inside: the plain ways. -/
import Derived.Test.YgcfahApp
namespace Go.Proofs.Ygcfah
open Go.ChangeShapes Go.WideShapes Go.ChangeAt Go.RowKit
set_option linter.unusedVariables false
set_option linter.unusedSimpArgs false
attribute [local go_sem] setCell_drewN alloc_drewN

set_option maxRecDepth 100000 in
set_option maxHeartbeats 12800000 in
theorem reads_l_out_lo (a0 : Option Addr) (len cap L : Nat) (z : Int → Int) (q1 q2 q3 q4 q5 q6 i j : Int) (hq : WP.ok ⟨q1, q2, q3, q4, q5, q6⟩) (i0 : 0 ≤ i) (i1 : i ≤ 255) (j0 : 0 ≤ j) (j1 : j ≤ 4294967295) (w : World)
    (hcap : len ≤ cap) (hnil : a0 = none → cap = 0) (hs : Lies w a0 L z) (hl : L ≤ 256) (hL : L = len) (hin : wIn q1 q2 q3 q4 q5 q6 L = true) (h1 : (q1 == 1) = false) (h1n : (q1 != 1) = true) (h2 : (q1 == 2) = true) (h2n : (q1 != 2) = false) (hc5 : q5 ≤ 5) (hjc : q6 ≤ j)   :
    Calls Fahg.prog 11 #[.slice a0 len cap, .agg #[.int .u8 q1, .int .u16 q2, .int .u8 q3, .int .u8 q4, .int .u8 q5, .int .u32 q6], .int .u8 i, .int .u32 j] w fun e w' => e = .returned (.bool true) ∧ Below w.heap.size w w' := by
  subst hL
  have q2a : 0 ≤ q2 := hq.a0
  have q2b : q2 ≤ 65535 := hq.a1
  have q3a : 0 ≤ q3 := hq.d0
  have q4a : 0 ≤ q4 := hq.p0
  have q5a : 0 ≤ q5 := hq.c0
  have q6a : 0 ≤ q6 := hq.n0
  obtain ⟨a1, cap1, w1, hrun, hb1, hrow⟩ := app_any (w.alloc (.cells #[Value.int .u8 q1, .int .u16 q2, .int .u8 q3, .int .u8 q4, .int .u8 q5, .int .u32 q6] 78)) a0 L cap z (hs.below (below_alloc (Below.refl _ _) (Nat.le_refl _) _)) hnil (by omega)
  have hz1 : w.heap.size < w1.heap.size := by have := hb1.size; simp at this; omega
  have c1 : ∀ o, w1.cell? ⟨w.heap.size, o, none⟩ = #[Value.int .u8 q1, .int .u16 q2, .int .u8 q3, .int .u8 q4, .int .u8 q5, .int .u32 q6][o]? := fun o => (hb1.cell (p := ⟨w.heap.size, o, none⟩) (by simp)).trans (World.cell?_alloc_at _ _ _ _ rfl)
  have S1 : RS w w1.heap.size a1 L cap1 z q1 q2 q3 q4 q5 q6 4294967295 (w1.alloc (.cells #[.slice a1 L cap1, .int .u32 4294967295] 87)) := by
    refine ⟨(below_alloc (Below.refl _ _) (Nat.le_refl _) _).trans ((hb1.mono (by simp)).trans ((Below.refl _ _).alloc (by omega) _)), fun o => ?_, ⟨?_, ?_, ?_⟩, hz1, ?_⟩
    · rw [World.cell?_alloc_past _ _ _ (by omega), c1 o]
    · rw [World.cell?_alloc_at _ _ _ _ rfl]; rfl
    · rw [World.cell?_alloc_at _ _ _ _ rfl]; rfl
    · simp [go_sem]
    · rcases hrow with h | ⟨g, e, h1, h2, hr⟩
      · exact .inl h
      · exact .inr ⟨g, e, by omega, by simp; omega, hr.below ((Below.refl w1.heap.size w1).alloc (Nat.le_refl _) _) h2⟩
  have HRUN : Hid _ := hrun
  have HS1 : Hid _ := S1
  clear hrow hs hrun hb1 S1
  have hWI := fun w => wideInside_any L q1 q2 q3 q4 q5 q6 hq.k0 hq.k1 hq.a0 hq.a1 hq.d0 hq.d1 hq.p0 hq.p1 hq.c0 hq.c1 hq.n0 hq.n1 w (by omega) (by omega)
  have hIN := fun cap1 a1 w => inside_any a1 L cap1 q1 q2 q3 q4 q5 q6 hq.k0 hq.k1 hq.a0 hq.a1 hq.d0 hq.d1 hq.p0 hq.p1 hq.c0 hq.c1 hq.n0 hq.n1 w
  rw [hin] at hWI
  simp only [hin] at hIN
  have HWI : Hid _ := hWI
  have HIN : Hid _ := hIN
  clear hWI hIN
  have HU0 := fun (RB cap1 : Nat) w (hr : IsRdr w RB (.slice a1 L cap1) 4294967295) => u64_no RB a1 L cap1 q1 q2 q3 q4 q5 q6 hq.k0 hq.k1 hq.a0 hq.a1 hq.d0 hq.d1 hq.p0 hq.p1 hq.c0 hq.c1 hq.n0 hq.n1 i i0 i1 w hr.a (.inl h1n)
  have HU : Hid _ := HU0
  clear HU0
  have HE0 := fun (RB cap1 : Nat) w (hr : IsRdr w RB (.slice a1 L cap1) 4294967295) => elem_no RB a1 L cap1 q1 q2 q3 q4 q5 q6 hq.k0 hq.k1 hq.a0 hq.a1 hq.d0 hq.d1 hq.p0 hq.p1 hq.c0 hq.c1 hq.n0 hq.n1 j j0 j1 w hr.a (by
    rcases Int.lt_or_le 5 q5 with h | h
    · exact .inr (.inl ⟨h2n, h⟩)
    · cases h3 : (q5 == 0)
      · exact .inr (.inr (.inr (.inl ⟨h2n, h, rfl, hjc⟩)))
      · exact .inr (.inr (.inl ⟨h2n, h, rfl⟩)))
  have HE : Hid _ := HE0
  clear HE0
  have HC0 := fun (RB cap1 : Nat) w (hr : IsRdr w RB (.slice a1 L cap1) 4294967295) => child_no RB a1 L cap1 q1 q2 q3 q4 q5 q6 hq.k0 hq.k1 hq.a0 hq.a1 hq.d0 hq.d1 hq.p0 hq.p1 hq.c0 hq.c1 hq.n0 hq.n1 i i0 i1 w hr.a (.inl h1n)
  have HC : Hid _ := HC0
  clear HC0
  have HP0 := fun (RB cap1 : Nat) w {Lf : Int} (hr : IsRdr w RB (.slice a1 L cap1) Lf) => eptr_no RB a1 L cap1 q1 q2 q3 q4 q5 q6 hq.k0 hq.k1 hq.a0 hq.a1 hq.d0 hq.d1 hq.p0 hq.p1 hq.c0 hq.c1 hq.n0 hq.n1 j j0 j1 w hr.a (.inr (.inl ⟨h2n, hjc⟩))
  have HP : Hid _ := HP0
  clear HP0
  clear hin hq
  go_enter Fahg.func11, Fahg.ntmps11
  go_wp2_with (at_builtin; refine wpList_append_run rfl _ _ _ rfl _ _ _ _ rfl rfl HRUN.out ?_)
  refine (HWI.out _).mono ?_; rintro e w2 ⟨rfl, hb2⟩
  have HS2 : Hid _ := HS1.out.stay hb2
  have c2 := HS2.out.p
  clear c1 hb2 HS1 HRUN
  go_wp2_with fail
  refine (HIN.out _ _ _).mono ?_; rintro e w3 ⟨rfl, hb3⟩
  have HS3 : Hid _ := HS2.out.stay hb3
  have c3 := HS3.out.p
  clear c2 hb3 HS2
  go_wp2_with fail
  refine (HU.out _ _ _ HS3.out.rdr ).mono ?_; rintro e w4 ⟨rfl, hb4⟩
  have HS4 : Hid _ := HS3.out.stay hb4
  have c4 := HS4.out.p
  clear c3 hb4 HS3
  go_wp2_with fail
  refine (HE.out _ _ _ HS4.out.rdr ).mono ?_; rintro e w5 ⟨rfl, hb5⟩
  have HS5 : Hid _ := HS4.out.stay hb5
  have c5 := HS5.out.p
  clear c4 hb5 HS4
  have hz5 : w.heap.size < w5.heap.size := Nat.lt_trans HS5.out.lt HS5.out.rdr.lt
  have hR5 : w1.heap.size < w5.heap.size := HS5.out.rdr.lt
  go_wp2_with fail
  have HSn : Hid _ := HS5.out.stay (below_alloc (Below.refl _ _) (Nat.le_refl _) (.cells #[.int .u8 0, .int .u16 0, .int .u8 0, .int .u8 0, .int .u8 0, .int .u32 0] 78))
  refine (HC.out _ _ _ HSn.out.rdr ).mono ?_
  rintro e w6 ⟨rfl, hb⟩
  have HS6 : Hid _ := HSn.out.stay hb
  have hsz := hb.size
  simp only [World.size_alloc] at hsz
  have c6 := HS6.out.p
  have n6 : ∀ o, w6.cell? ⟨w5.heap.size, o, none⟩ = _ := fun o => (hb.cell (p := ⟨w5.heap.size, o, none⟩) (by simp)).trans (World.cell?_alloc_at _ _ _ _ rfl)
  have hz6 : w5.heap.size < w6.heap.size := by omega
  have hy6 : w.heap.size < w6.heap.size := by omega
  have hR6 : w1.heap.size < w6.heap.size := by omega
  clear c5 hb HSn HS5 hsz
  simp only [WP.nul, WP.val]
  go_wp2_with fail
  have HSm : Hid _ := HS6.out.stay (below_alloc (Below.refl _ _) (Nat.le_refl _) (.cells #[.int .u8 0, .int .u16 0, .int .u8 0, .int .u8 0, .int .u8 0, .int .u32 0] 78))
  refine (HP.out _ _ _ HSm.out.rdr ).mono ?_
  rintro e w7 ⟨rfl, hb⟩
  have HS7 : Hid _ := HSm.out.stay hb
  have hsz := hb.size
  simp only [World.size_alloc] at hsz
  have n7 : ∀ o, w7.cell? ⟨w5.heap.size, o, none⟩ = _ := fun o => (hb.cell (p := ⟨w5.heap.size, o, none⟩) (by simp; omega)).trans ((World.cell?_alloc_past _ _ _ (by omega)).trans (n6 o))
  have d7 : ∀ o, w7.cell? ⟨w6.heap.size, o, none⟩ = _ := fun o => (hb.cell (p := ⟨w6.heap.size, o, none⟩) (by simp)).trans (World.cell?_alloc_at _ _ _ _ rfl)
  have hz7 : w6.heap.size < w7.heap.size := by omega
  have hy7 : w5.heap.size < w7.heap.size := by omega
  clear c6 hb HSm HS6 n6 hsz
  simp only [WP.nul, WP.val]
  go_wp2_with fail
  go_ret
  exact ⟨rfl, HS7.out.below.alloc (by omega) _⟩

set_option maxRecDepth 100000 in
set_option maxHeartbeats 12800000 in
theorem reads_l_out_hi (a0 : Option Addr) (len cap L : Nat) (z : Int → Int) (q1 q2 q3 q4 q5 q6 i j : Int) (hq : WP.ok ⟨q1, q2, q3, q4, q5, q6⟩) (i0 : 0 ≤ i) (i1 : i ≤ 255) (j0 : 0 ≤ j) (j1 : j ≤ 4294967295) (w : World)
    (hcap : len ≤ cap) (hnil : a0 = none → cap = 0) (hs : Lies w a0 L z) (hl : L ≤ 256) (hL : L = len) (hin : wIn q1 q2 q3 q4 q5 q6 L = true) (h1 : (q1 == 1) = false) (h1n : (q1 != 1) = true) (h2 : (q1 == 2) = true) (h2n : (q1 != 2) = false) (hc5 : 6 ≤ q5) (hjc : q6 ≤ j)   :
    Calls Fahg.prog 11 #[.slice a0 len cap, .agg #[.int .u8 q1, .int .u16 q2, .int .u8 q3, .int .u8 q4, .int .u8 q5, .int .u32 q6], .int .u8 i, .int .u32 j] w fun e w' => e = .returned (.bool true) ∧ Below w.heap.size w w' := by
  subst hL
  have q2a : 0 ≤ q2 := hq.a0
  have q2b : q2 ≤ 65535 := hq.a1
  have q3a : 0 ≤ q3 := hq.d0
  have q4a : 0 ≤ q4 := hq.p0
  have q5a : 0 ≤ q5 := hq.c0
  have q6a : 0 ≤ q6 := hq.n0
  obtain ⟨a1, cap1, w1, hrun, hb1, hrow⟩ := app_any (w.alloc (.cells #[Value.int .u8 q1, .int .u16 q2, .int .u8 q3, .int .u8 q4, .int .u8 q5, .int .u32 q6] 78)) a0 L cap z (hs.below (below_alloc (Below.refl _ _) (Nat.le_refl _) _)) hnil (by omega)
  have hz1 : w.heap.size < w1.heap.size := by have := hb1.size; simp at this; omega
  have c1 : ∀ o, w1.cell? ⟨w.heap.size, o, none⟩ = #[Value.int .u8 q1, .int .u16 q2, .int .u8 q3, .int .u8 q4, .int .u8 q5, .int .u32 q6][o]? := fun o => (hb1.cell (p := ⟨w.heap.size, o, none⟩) (by simp)).trans (World.cell?_alloc_at _ _ _ _ rfl)
  have S1 : RS w w1.heap.size a1 L cap1 z q1 q2 q3 q4 q5 q6 4294967295 (w1.alloc (.cells #[.slice a1 L cap1, .int .u32 4294967295] 87)) := by
    refine ⟨(below_alloc (Below.refl _ _) (Nat.le_refl _) _).trans ((hb1.mono (by simp)).trans ((Below.refl _ _).alloc (by omega) _)), fun o => ?_, ⟨?_, ?_, ?_⟩, hz1, ?_⟩
    · rw [World.cell?_alloc_past _ _ _ (by omega), c1 o]
    · rw [World.cell?_alloc_at _ _ _ _ rfl]; rfl
    · rw [World.cell?_alloc_at _ _ _ _ rfl]; rfl
    · simp [go_sem]
    · rcases hrow with h | ⟨g, e, h1, h2, hr⟩
      · exact .inl h
      · exact .inr ⟨g, e, by omega, by simp; omega, hr.below ((Below.refl w1.heap.size w1).alloc (Nat.le_refl _) _) h2⟩
  have HRUN : Hid _ := hrun
  have HS1 : Hid _ := S1
  clear hrow hs hrun hb1 S1
  have hWI := fun w => wideInside_any L q1 q2 q3 q4 q5 q6 hq.k0 hq.k1 hq.a0 hq.a1 hq.d0 hq.d1 hq.p0 hq.p1 hq.c0 hq.c1 hq.n0 hq.n1 w (by omega) (by omega)
  have hIN := fun cap1 a1 w => inside_any a1 L cap1 q1 q2 q3 q4 q5 q6 hq.k0 hq.k1 hq.a0 hq.a1 hq.d0 hq.d1 hq.p0 hq.p1 hq.c0 hq.c1 hq.n0 hq.n1 w
  rw [hin] at hWI
  simp only [hin] at hIN
  have HWI : Hid _ := hWI
  have HIN : Hid _ := hIN
  clear hWI hIN
  have HU0 := fun (RB cap1 : Nat) w (hr : IsRdr w RB (.slice a1 L cap1) 4294967295) => u64_no RB a1 L cap1 q1 q2 q3 q4 q5 q6 hq.k0 hq.k1 hq.a0 hq.a1 hq.d0 hq.d1 hq.p0 hq.p1 hq.c0 hq.c1 hq.n0 hq.n1 i i0 i1 w hr.a (.inl h1n)
  have HU : Hid _ := HU0
  clear HU0
  have HE0 := fun (RB cap1 : Nat) w (hr : IsRdr w RB (.slice a1 L cap1) 4294967295) => elem_no RB a1 L cap1 q1 q2 q3 q4 q5 q6 hq.k0 hq.k1 hq.a0 hq.a1 hq.d0 hq.d1 hq.p0 hq.p1 hq.c0 hq.c1 hq.n0 hq.n1 j j0 j1 w hr.a (by
    rcases Int.lt_or_le 5 q5 with h | h
    · exact .inr (.inl ⟨h2n, h⟩)
    · cases h3 : (q5 == 0)
      · exact .inr (.inr (.inr (.inl ⟨h2n, h, rfl, hjc⟩)))
      · exact .inr (.inr (.inl ⟨h2n, h, rfl⟩)))
  have HE : Hid _ := HE0
  clear HE0
  have HC0 := fun (RB cap1 : Nat) w (hr : IsRdr w RB (.slice a1 L cap1) 4294967295) => child_no RB a1 L cap1 q1 q2 q3 q4 q5 q6 hq.k0 hq.k1 hq.a0 hq.a1 hq.d0 hq.d1 hq.p0 hq.p1 hq.c0 hq.c1 hq.n0 hq.n1 i i0 i1 w hr.a (.inl h1n)
  have HC : Hid _ := HC0
  clear HC0
  have HP0 := fun (RB cap1 : Nat) w {Lf : Int} (hr : IsRdr w RB (.slice a1 L cap1) Lf) => eptr_no RB a1 L cap1 q1 q2 q3 q4 q5 q6 hq.k0 hq.k1 hq.a0 hq.a1 hq.d0 hq.d1 hq.p0 hq.p1 hq.c0 hq.c1 hq.n0 hq.n1 j j0 j1 w hr.a (.inr (.inl ⟨h2n, hjc⟩))
  have HP : Hid _ := HP0
  clear HP0
  clear hin hq
  go_enter Fahg.func11, Fahg.ntmps11
  go_wp2_with (at_builtin; refine wpList_append_run rfl _ _ _ rfl _ _ _ _ rfl rfl HRUN.out ?_)
  refine (HWI.out _).mono ?_; rintro e w2 ⟨rfl, hb2⟩
  have HS2 : Hid _ := HS1.out.stay hb2
  have c2 := HS2.out.p
  clear c1 hb2 HS1 HRUN
  go_wp2_with fail
  refine (HIN.out _ _ _).mono ?_; rintro e w3 ⟨rfl, hb3⟩
  have HS3 : Hid _ := HS2.out.stay hb3
  have c3 := HS3.out.p
  clear c2 hb3 HS2
  go_wp2_with fail
  refine (HU.out _ _ _ HS3.out.rdr ).mono ?_; rintro e w4 ⟨rfl, hb4⟩
  have HS4 : Hid _ := HS3.out.stay hb4
  have c4 := HS4.out.p
  clear c3 hb4 HS3
  go_wp2_with fail
  refine (HE.out _ _ _ HS4.out.rdr ).mono ?_; rintro e w5 ⟨rfl, hb5⟩
  have HS5 : Hid _ := HS4.out.stay hb5
  have c5 := HS5.out.p
  clear c4 hb5 HS4
  have hz5 : w.heap.size < w5.heap.size := Nat.lt_trans HS5.out.lt HS5.out.rdr.lt
  have hR5 : w1.heap.size < w5.heap.size := HS5.out.rdr.lt
  go_wp2_with fail
  have HSn : Hid _ := HS5.out.stay (below_alloc (Below.refl _ _) (Nat.le_refl _) (.cells #[.int .u8 0, .int .u16 0, .int .u8 0, .int .u8 0, .int .u8 0, .int .u32 0] 78))
  refine (HC.out _ _ _ HSn.out.rdr ).mono ?_
  rintro e w6 ⟨rfl, hb⟩
  have HS6 : Hid _ := HSn.out.stay hb
  have hsz := hb.size
  simp only [World.size_alloc] at hsz
  have c6 := HS6.out.p
  have n6 : ∀ o, w6.cell? ⟨w5.heap.size, o, none⟩ = _ := fun o => (hb.cell (p := ⟨w5.heap.size, o, none⟩) (by simp)).trans (World.cell?_alloc_at _ _ _ _ rfl)
  have hz6 : w5.heap.size < w6.heap.size := by omega
  have hy6 : w.heap.size < w6.heap.size := by omega
  have hR6 : w1.heap.size < w6.heap.size := by omega
  clear c5 hb HSn HS5 hsz
  simp only [WP.nul, WP.val]
  go_wp2_with fail
  have HSm : Hid _ := HS6.out.stay (below_alloc (Below.refl _ _) (Nat.le_refl _) (.cells #[.int .u8 0, .int .u16 0, .int .u8 0, .int .u8 0, .int .u8 0, .int .u32 0] 78))
  refine (HP.out _ _ _ HSm.out.rdr ).mono ?_
  rintro e w7 ⟨rfl, hb⟩
  have HS7 : Hid _ := HSm.out.stay hb
  have hsz := hb.size
  simp only [World.size_alloc] at hsz
  have n7 : ∀ o, w7.cell? ⟨w5.heap.size, o, none⟩ = _ := fun o => (hb.cell (p := ⟨w5.heap.size, o, none⟩) (by simp; omega)).trans ((World.cell?_alloc_past _ _ _ (by omega)).trans (n6 o))
  have d7 : ∀ o, w7.cell? ⟨w6.heap.size, o, none⟩ = _ := fun o => (hb.cell (p := ⟨w6.heap.size, o, none⟩) (by simp)).trans (World.cell?_alloc_at _ _ _ _ rfl)
  have hz7 : w6.heap.size < w7.heap.size := by omega
  have hy7 : w5.heap.size < w7.heap.size := by omega
  clear c6 hb HSm HS6 n6 hsz
  simp only [WP.nul, WP.val]
  go_wp2_with fail
  go_ret
  exact ⟨rfl, HS7.out.below.alloc (by omega) _⟩

set_option maxRecDepth 100000 in
set_option maxHeartbeats 12800000 in
theorem reads_l_ptr_rdr_nulF (a0 : Option Addr) (len cap L : Nat) (z : Int → Int) (q1 q2 q3 q4 q5 q6 i j : Int) (hq : WP.ok ⟨q1, q2, q3, q4, q5, q6⟩) (i0 : 0 ≤ i) (i1 : i ≤ 255) (j0 : 0 ≤ j) (j1 : j ≤ 4294967295) (w : World)
    (hcap : len ≤ cap) (hnil : a0 = none → cap = 0) (hs : Lies w a0 L z) (hl : L ≤ 256) (hL : L = len) (hin : wIn q1 q2 q3 q4 q5 q6 L = true) (h1 : (q1 == 1) = false) (h1n : (q1 != 1) = true) (h2 : (q1 == 2) = true) (h2n : (q1 != 2) = false) (hc5 : 6 ≤ q5) (hjc : j < q6) (hc6 : (q5 == 6) = true)  (hr_s : rsv z L (q2 + j) = (WP.nul, false))  :
    Calls Fahg.prog 11 #[.slice a0 len cap, .agg #[.int .u8 q1, .int .u16 q2, .int .u8 q3, .int .u8 q4, .int .u8 q5, .int .u32 q6], .int .u8 i, .int .u32 j] w fun e w' => e = .returned (.bool true) ∧ Below w.heap.size w w' := by
  subst hL
  have q2a : 0 ≤ q2 := hq.a0
  have q2b : q2 ≤ 65535 := hq.a1
  have q3a : 0 ≤ q3 := hq.d0
  have q4a : 0 ≤ q4 := hq.p0
  have q5a : 0 ≤ q5 := hq.c0
  have q6a : 0 ≤ q6 := hq.n0
  have hsx := hin
  have hk2' : q1 = 2 := by simpa using h2
  have hk6' : q5 = 6 := by simpa using hc6
  rw [hk2', hk6'] at hsx
  have hsx := wIn_ptrs q6a hsx
  clear hk2' hk6'
  obtain ⟨a1, cap1, w1, hrun, hb1, hrow⟩ := app_any (w.alloc (.cells #[Value.int .u8 q1, .int .u16 q2, .int .u8 q3, .int .u8 q4, .int .u8 q5, .int .u32 q6] 78)) a0 L cap z (hs.below (below_alloc (Below.refl _ _) (Nat.le_refl _) _)) hnil (by omega)
  have hz1 : w.heap.size < w1.heap.size := by have := hb1.size; simp at this; omega
  have c1 : ∀ o, w1.cell? ⟨w.heap.size, o, none⟩ = #[Value.int .u8 q1, .int .u16 q2, .int .u8 q3, .int .u8 q4, .int .u8 q5, .int .u32 q6][o]? := fun o => (hb1.cell (p := ⟨w.heap.size, o, none⟩) (by simp)).trans (World.cell?_alloc_at _ _ _ _ rfl)
  have S1 : RS w w1.heap.size a1 L cap1 z q1 q2 q3 q4 q5 q6 4294967295 (w1.alloc (.cells #[.slice a1 L cap1, .int .u32 4294967295] 87)) := by
    refine ⟨(below_alloc (Below.refl _ _) (Nat.le_refl _) _).trans ((hb1.mono (by simp)).trans ((Below.refl _ _).alloc (by omega) _)), fun o => ?_, ⟨?_, ?_, ?_⟩, hz1, ?_⟩
    · rw [World.cell?_alloc_past _ _ _ (by omega), c1 o]
    · rw [World.cell?_alloc_at _ _ _ _ rfl]; rfl
    · rw [World.cell?_alloc_at _ _ _ _ rfl]; rfl
    · simp [go_sem]
    · rcases hrow with h | ⟨g, e, h1, h2, hr⟩
      · exact .inl h
      · exact .inr ⟨g, e, by omega, by simp; omega, hr.below ((Below.refl w1.heap.size w1).alloc (Nat.le_refl _) _) h2⟩
  have HRUN : Hid _ := hrun
  have HS1 : Hid _ := S1
  clear hrow hs hrun hb1 S1
  have hWI := fun w => wideInside_any L q1 q2 q3 q4 q5 q6 hq.k0 hq.k1 hq.a0 hq.a1 hq.d0 hq.d1 hq.p0 hq.p1 hq.c0 hq.c1 hq.n0 hq.n1 w (by omega) (by omega)
  have hIN := fun cap1 a1 w => inside_any a1 L cap1 q1 q2 q3 q4 q5 q6 hq.k0 hq.k1 hq.a0 hq.a1 hq.d0 hq.d1 hq.p0 hq.p1 hq.c0 hq.c1 hq.n0 hq.n1 w
  rw [hin] at hWI
  simp only [hin] at hIN
  have HWI : Hid _ := hWI
  have HIN : Hid _ := hIN
  clear hWI hIN
  obtain ⟨g, rfl, hgR, hgl, hgr⟩ : ∃ g, a1 = some ⟨g, 0, none⟩ ∧ g ≠ w1.heap.size ∧ g < (w1.alloc (.cells #[.slice a1 L cap1, .int .u32 4294967295] 87)).heap.size ∧ Row (w1.alloc (.cells #[.slice a1 L cap1, .int .u32 4294967295] 87)) g 0 L z := by
    rcases HS1.out.row with ⟨h, _⟩ | h
    · omega
    · exact h
  clear hgr
  have hrow : ∀ W Lf, RS w w1.heap.size (some ⟨g, 0, none⟩) L cap1 z q1 q2 q3 q4 q5 q6 Lf W → Row W g 0 L z := by
    intro W Lf S
    rcases S.row with ⟨_, h⟩ | ⟨g', e, _, _, hr⟩
    · simp at h
    · simp at e; subst e; exact hr
  have HROW : Hid _ := hrow
  clear hrow
  have HU0 := fun (RB cap1 : Nat) w (hr : IsRdr w RB (.slice (some ⟨g, 0, none⟩) L cap1) 4294967295) (hz : Row w g 0 L z) => u64_no RB (some ⟨g, 0, none⟩) L cap1 q1 q2 q3 q4 q5 q6 hq.k0 hq.k1 hq.a0 hq.a1 hq.d0 hq.d1 hq.p0 hq.p1 hq.c0 hq.c1 hq.n0 hq.n1 i i0 i1 w hr.a (.inl h1n)
  have HU : Hid _ := HU0
  clear HU0
  have HE0 := fun (RB cap1 : Nat) w (hr : IsRdr w RB (.slice (some ⟨g, 0, none⟩) L cap1) 4294967295) (hz : Row w g 0 L z) => elem_no RB (some ⟨g, 0, none⟩) L cap1 q1 q2 q3 q4 q5 q6 hq.k0 hq.k1 hq.a0 hq.a1 hq.d0 hq.d1 hq.p0 hq.p1 hq.c0 hq.c1 hq.n0 hq.n1 j j0 j1 w hr.a (.inr (.inl ⟨h2n, by omega⟩))
  have HE : Hid _ := HE0
  clear HE0
  have HC0 := fun (RB cap1 : Nat) w (hr : IsRdr w RB (.slice (some ⟨g, 0, none⟩) L cap1) 4294967295) (hz : Row w g 0 L z) => child_no RB (some ⟨g, 0, none⟩) L cap1 q1 q2 q3 q4 q5 q6 hq.k0 hq.k1 hq.a0 hq.a1 hq.d0 hq.d1 hq.p0 hq.p1 hq.c0 hq.c1 hq.n0 hq.n1 i i0 i1 w hr.a (.inl h1n)
  have HC : Hid _ := HC0
  clear HC0
  have HP0 := fun (RB cap1 : Nat) w (hr : IsRdr w RB (.slice (some ⟨g, 0, none⟩) L cap1) 4294967295) (hz : Row w g 0 L z) => eptr_ptr RB g 0 L cap1 q1 q2 q3 q4 q5 q6 hq.k0 hq.k1 hq.a0 hq.a1 hq.d0 hq.d1 hq.p0 hq.p1 hq.c0 hq.c1 hq.n0 hq.n1 j 4294967295 j0 j1 z w hr (by decide) (by decide) hz h2n hjc hin hc6
  simp only [hr_s] at HP0
  have HP : Hid _ := HP0
  clear HP0
  clear hin hq
  clear hr_s
  go_enter Fahg.func11, Fahg.ntmps11
  go_wp2_with (at_builtin; refine wpList_append_run rfl _ _ _ rfl _ _ _ _ rfl rfl HRUN.out ?_)
  refine (HWI.out _).mono ?_; rintro e w2 ⟨rfl, hb2⟩
  have HS2 : Hid _ := HS1.out.stay hb2
  have c2 := HS2.out.p
  clear c1 hb2 HS1 HRUN
  go_wp2_with fail
  refine (HIN.out _ _ _).mono ?_; rintro e w3 ⟨rfl, hb3⟩
  have HS3 : Hid _ := HS2.out.stay hb3
  have c3 := HS3.out.p
  clear c2 hb3 HS2
  go_wp2_with fail
  refine (HU.out _ _ _ HS3.out.rdr (HROW.out _ _ HS3.out)).mono ?_; rintro e w4 ⟨rfl, hb4⟩
  have HS4 : Hid _ := HS3.out.stay hb4
  have c4 := HS4.out.p
  clear c3 hb4 HS3
  go_wp2_with fail
  refine (HE.out _ _ _ HS4.out.rdr (HROW.out _ _ HS4.out)).mono ?_; rintro e w5 ⟨rfl, hb5⟩
  have HS5 : Hid _ := HS4.out.stay hb5
  have c5 := HS5.out.p
  clear c4 hb5 HS4
  have hz5 : w.heap.size < w5.heap.size := Nat.lt_trans HS5.out.lt HS5.out.rdr.lt
  have hR5 : w1.heap.size < w5.heap.size := HS5.out.rdr.lt
  go_wp2_with fail
  have HSn : Hid _ := HS5.out.stay (below_alloc (Below.refl _ _) (Nat.le_refl _) (.cells #[.int .u8 0, .int .u16 0, .int .u8 0, .int .u8 0, .int .u8 0, .int .u32 0] 78))
  refine (HC.out _ _ _ HSn.out.rdr (HROW.out _ _ HSn.out)).mono ?_
  rintro e w6 ⟨rfl, hb⟩
  have HS6 : Hid _ := HSn.out.stay hb
  have hsz := hb.size
  simp only [World.size_alloc] at hsz
  have c6 := HS6.out.p
  have n6 : ∀ o, w6.cell? ⟨w5.heap.size, o, none⟩ = _ := fun o => (hb.cell (p := ⟨w5.heap.size, o, none⟩) (by simp)).trans (World.cell?_alloc_at _ _ _ _ rfl)
  have hz6 : w5.heap.size < w6.heap.size := by omega
  have hy6 : w.heap.size < w6.heap.size := by omega
  have hR6 : w1.heap.size < w6.heap.size := by omega
  clear c5 hb HSn HS5 hsz
  simp only [WP.nul, WP.val]
  go_wp2_with fail
  have HSm : Hid _ := HS6.out.stay (below_alloc (Below.refl _ _) (Nat.le_refl _) (.cells #[.int .u8 0, .int .u16 0, .int .u8 0, .int .u8 0, .int .u8 0, .int .u32 0] 78))
  refine (HP.out _ _ _ HSm.out.rdr (HROW.out _ _ HSm.out)).mono ?_
  rintro e w7 ⟨rfl, ho, L7, hi, hl1, hl2⟩
  have HS7 : Hid _ := HSm.out.step ho hi
  have hsz := ho.size
  simp only [World.size_alloc] at hsz
  have n7 : ∀ o, w7.cell? ⟨w5.heap.size, o, none⟩ = _ := fun o => (ho.cell (b := w5.heap.size) (o := o) (by simp; omega) (by omega)).trans ((World.cell?_alloc_past _ _ _ (by omega)).trans (n6 o))
  have d7 : ∀ o, w7.cell? ⟨w6.heap.size, o, none⟩ = _ := fun o => (ho.cell (b := w6.heap.size) (o := o) (by simp) (by omega)).trans (World.cell?_alloc_at _ _ _ _ rfl)
  have hz7 : w6.heap.size < w7.heap.size := by omega
  have hy7 : w5.heap.size < w7.heap.size := by omega
  clear c6 ho hi HSm HS6 n6 hsz
  simp only [WP.nul, WP.val]
  go_wp2_with fail
  go_ret
  exact ⟨rfl, HS7.out.below.alloc (by omega) _⟩

set_option maxRecDepth 100000 in
set_option maxHeartbeats 12800000 in
theorem reads_l_ptr_rdr_nulT (a0 : Option Addr) (len cap L : Nat) (z : Int → Int) (q1 q2 q3 q4 q5 q6 i j : Int) (hq : WP.ok ⟨q1, q2, q3, q4, q5, q6⟩) (i0 : 0 ≤ i) (i1 : i ≤ 255) (j0 : 0 ≤ j) (j1 : j ≤ 4294967295) (w : World)
    (hcap : len ≤ cap) (hnil : a0 = none → cap = 0) (hs : Lies w a0 L z) (hl : L ≤ 256) (hL : L = len) (hin : wIn q1 q2 q3 q4 q5 q6 L = true) (h1 : (q1 == 1) = false) (h1n : (q1 != 1) = true) (h2 : (q1 == 2) = true) (h2n : (q1 != 2) = false) (hc5 : 6 ≤ q5) (hjc : j < q6) (hc6 : (q5 == 6) = true)  (hr_s : rsv z L (q2 + j) = (WP.nul, true))  :
    Calls Fahg.prog 11 #[.slice a0 len cap, .agg #[.int .u8 q1, .int .u16 q2, .int .u8 q3, .int .u8 q4, .int .u8 q5, .int .u32 q6], .int .u8 i, .int .u32 j] w fun e w' => e = .returned (.bool true) ∧ Below w.heap.size w w' := by
  subst hL
  have q2a : 0 ≤ q2 := hq.a0
  have q2b : q2 ≤ 65535 := hq.a1
  have q3a : 0 ≤ q3 := hq.d0
  have q4a : 0 ≤ q4 := hq.p0
  have q5a : 0 ≤ q5 := hq.c0
  have q6a : 0 ≤ q6 := hq.n0
  have hsx := hin
  have hk2' : q1 = 2 := by simpa using h2
  have hk6' : q5 = 6 := by simpa using hc6
  rw [hk2', hk6'] at hsx
  have hsx := wIn_ptrs q6a hsx
  clear hk2' hk6'
  obtain ⟨a1, cap1, w1, hrun, hb1, hrow⟩ := app_any (w.alloc (.cells #[Value.int .u8 q1, .int .u16 q2, .int .u8 q3, .int .u8 q4, .int .u8 q5, .int .u32 q6] 78)) a0 L cap z (hs.below (below_alloc (Below.refl _ _) (Nat.le_refl _) _)) hnil (by omega)
  have hz1 : w.heap.size < w1.heap.size := by have := hb1.size; simp at this; omega
  have c1 : ∀ o, w1.cell? ⟨w.heap.size, o, none⟩ = #[Value.int .u8 q1, .int .u16 q2, .int .u8 q3, .int .u8 q4, .int .u8 q5, .int .u32 q6][o]? := fun o => (hb1.cell (p := ⟨w.heap.size, o, none⟩) (by simp)).trans (World.cell?_alloc_at _ _ _ _ rfl)
  have S1 : RS w w1.heap.size a1 L cap1 z q1 q2 q3 q4 q5 q6 4294967295 (w1.alloc (.cells #[.slice a1 L cap1, .int .u32 4294967295] 87)) := by
    refine ⟨(below_alloc (Below.refl _ _) (Nat.le_refl _) _).trans ((hb1.mono (by simp)).trans ((Below.refl _ _).alloc (by omega) _)), fun o => ?_, ⟨?_, ?_, ?_⟩, hz1, ?_⟩
    · rw [World.cell?_alloc_past _ _ _ (by omega), c1 o]
    · rw [World.cell?_alloc_at _ _ _ _ rfl]; rfl
    · rw [World.cell?_alloc_at _ _ _ _ rfl]; rfl
    · simp [go_sem]
    · rcases hrow with h | ⟨g, e, h1, h2, hr⟩
      · exact .inl h
      · exact .inr ⟨g, e, by omega, by simp; omega, hr.below ((Below.refl w1.heap.size w1).alloc (Nat.le_refl _) _) h2⟩
  have HRUN : Hid _ := hrun
  have HS1 : Hid _ := S1
  clear hrow hs hrun hb1 S1
  have hWI := fun w => wideInside_any L q1 q2 q3 q4 q5 q6 hq.k0 hq.k1 hq.a0 hq.a1 hq.d0 hq.d1 hq.p0 hq.p1 hq.c0 hq.c1 hq.n0 hq.n1 w (by omega) (by omega)
  have hIN := fun cap1 a1 w => inside_any a1 L cap1 q1 q2 q3 q4 q5 q6 hq.k0 hq.k1 hq.a0 hq.a1 hq.d0 hq.d1 hq.p0 hq.p1 hq.c0 hq.c1 hq.n0 hq.n1 w
  rw [hin] at hWI
  simp only [hin] at hIN
  have HWI : Hid _ := hWI
  have HIN : Hid _ := hIN
  clear hWI hIN
  obtain ⟨g, rfl, hgR, hgl, hgr⟩ : ∃ g, a1 = some ⟨g, 0, none⟩ ∧ g ≠ w1.heap.size ∧ g < (w1.alloc (.cells #[.slice a1 L cap1, .int .u32 4294967295] 87)).heap.size ∧ Row (w1.alloc (.cells #[.slice a1 L cap1, .int .u32 4294967295] 87)) g 0 L z := by
    rcases HS1.out.row with ⟨h, _⟩ | h
    · omega
    · exact h
  clear hgr
  have hrow : ∀ W Lf, RS w w1.heap.size (some ⟨g, 0, none⟩) L cap1 z q1 q2 q3 q4 q5 q6 Lf W → Row W g 0 L z := by
    intro W Lf S
    rcases S.row with ⟨_, h⟩ | ⟨g', e, _, _, hr⟩
    · simp at h
    · simp at e; subst e; exact hr
  have HROW : Hid _ := hrow
  clear hrow
  have HU0 := fun (RB cap1 : Nat) w (hr : IsRdr w RB (.slice (some ⟨g, 0, none⟩) L cap1) 4294967295) (hz : Row w g 0 L z) => u64_no RB (some ⟨g, 0, none⟩) L cap1 q1 q2 q3 q4 q5 q6 hq.k0 hq.k1 hq.a0 hq.a1 hq.d0 hq.d1 hq.p0 hq.p1 hq.c0 hq.c1 hq.n0 hq.n1 i i0 i1 w hr.a (.inl h1n)
  have HU : Hid _ := HU0
  clear HU0
  have HE0 := fun (RB cap1 : Nat) w (hr : IsRdr w RB (.slice (some ⟨g, 0, none⟩) L cap1) 4294967295) (hz : Row w g 0 L z) => elem_no RB (some ⟨g, 0, none⟩) L cap1 q1 q2 q3 q4 q5 q6 hq.k0 hq.k1 hq.a0 hq.a1 hq.d0 hq.d1 hq.p0 hq.p1 hq.c0 hq.c1 hq.n0 hq.n1 j j0 j1 w hr.a (.inr (.inl ⟨h2n, by omega⟩))
  have HE : Hid _ := HE0
  clear HE0
  have HC0 := fun (RB cap1 : Nat) w (hr : IsRdr w RB (.slice (some ⟨g, 0, none⟩) L cap1) 4294967295) (hz : Row w g 0 L z) => child_no RB (some ⟨g, 0, none⟩) L cap1 q1 q2 q3 q4 q5 q6 hq.k0 hq.k1 hq.a0 hq.a1 hq.d0 hq.d1 hq.p0 hq.p1 hq.c0 hq.c1 hq.n0 hq.n1 i i0 i1 w hr.a (.inl h1n)
  have HC : Hid _ := HC0
  clear HC0
  have HP0 := fun (RB cap1 : Nat) w (hr : IsRdr w RB (.slice (some ⟨g, 0, none⟩) L cap1) 4294967295) (hz : Row w g 0 L z) => eptr_ptr RB g 0 L cap1 q1 q2 q3 q4 q5 q6 hq.k0 hq.k1 hq.a0 hq.a1 hq.d0 hq.d1 hq.p0 hq.p1 hq.c0 hq.c1 hq.n0 hq.n1 j 4294967295 j0 j1 z w hr (by decide) (by decide) hz h2n hjc hin hc6
  simp only [hr_s] at HP0
  have HP : Hid _ := HP0
  clear HP0
  clear hin hq
  clear hr_s
  go_enter Fahg.func11, Fahg.ntmps11
  go_wp2_with (at_builtin; refine wpList_append_run rfl _ _ _ rfl _ _ _ _ rfl rfl HRUN.out ?_)
  refine (HWI.out _).mono ?_; rintro e w2 ⟨rfl, hb2⟩
  have HS2 : Hid _ := HS1.out.stay hb2
  have c2 := HS2.out.p
  clear c1 hb2 HS1 HRUN
  go_wp2_with fail
  refine (HIN.out _ _ _).mono ?_; rintro e w3 ⟨rfl, hb3⟩
  have HS3 : Hid _ := HS2.out.stay hb3
  have c3 := HS3.out.p
  clear c2 hb3 HS2
  go_wp2_with fail
  refine (HU.out _ _ _ HS3.out.rdr (HROW.out _ _ HS3.out)).mono ?_; rintro e w4 ⟨rfl, hb4⟩
  have HS4 : Hid _ := HS3.out.stay hb4
  have c4 := HS4.out.p
  clear c3 hb4 HS3
  go_wp2_with fail
  refine (HE.out _ _ _ HS4.out.rdr (HROW.out _ _ HS4.out)).mono ?_; rintro e w5 ⟨rfl, hb5⟩
  have HS5 : Hid _ := HS4.out.stay hb5
  have c5 := HS5.out.p
  clear c4 hb5 HS4
  have hz5 : w.heap.size < w5.heap.size := Nat.lt_trans HS5.out.lt HS5.out.rdr.lt
  have hR5 : w1.heap.size < w5.heap.size := HS5.out.rdr.lt
  go_wp2_with fail
  have HSn : Hid _ := HS5.out.stay (below_alloc (Below.refl _ _) (Nat.le_refl _) (.cells #[.int .u8 0, .int .u16 0, .int .u8 0, .int .u8 0, .int .u8 0, .int .u32 0] 78))
  refine (HC.out _ _ _ HSn.out.rdr (HROW.out _ _ HSn.out)).mono ?_
  rintro e w6 ⟨rfl, hb⟩
  have HS6 : Hid _ := HSn.out.stay hb
  have hsz := hb.size
  simp only [World.size_alloc] at hsz
  have c6 := HS6.out.p
  have n6 : ∀ o, w6.cell? ⟨w5.heap.size, o, none⟩ = _ := fun o => (hb.cell (p := ⟨w5.heap.size, o, none⟩) (by simp)).trans (World.cell?_alloc_at _ _ _ _ rfl)
  have hz6 : w5.heap.size < w6.heap.size := by omega
  have hy6 : w.heap.size < w6.heap.size := by omega
  have hR6 : w1.heap.size < w6.heap.size := by omega
  clear c5 hb HSn HS5 hsz
  simp only [WP.nul, WP.val]
  go_wp2_with fail
  have HSm : Hid _ := HS6.out.stay (below_alloc (Below.refl _ _) (Nat.le_refl _) (.cells #[.int .u8 0, .int .u16 0, .int .u8 0, .int .u8 0, .int .u8 0, .int .u32 0] 78))
  refine (HP.out _ _ _ HSm.out.rdr (HROW.out _ _ HSm.out)).mono ?_
  rintro e w7 ⟨rfl, ho, L7, hi, hl1, hl2⟩
  have HS7 : Hid _ := HSm.out.step ho hi
  have hsz := ho.size
  simp only [World.size_alloc] at hsz
  have n7 : ∀ o, w7.cell? ⟨w5.heap.size, o, none⟩ = _ := fun o => (ho.cell (b := w5.heap.size) (o := o) (by simp; omega) (by omega)).trans ((World.cell?_alloc_past _ _ _ (by omega)).trans (n6 o))
  have d7 : ∀ o, w7.cell? ⟨w6.heap.size, o, none⟩ = _ := fun o => (ho.cell (b := w6.heap.size) (o := o) (by simp) (by omega)).trans (World.cell?_alloc_at _ _ _ _ rfl)
  have hz7 : w6.heap.size < w7.heap.size := by omega
  have hy7 : w5.heap.size < w7.heap.size := by omega
  clear c6 ho hi HSm HS6 n6 hsz
  simp only [WP.nul, WP.val]
  go_wp2_with fail
  go_ret
  exact ⟨rfl, HS7.out.below.alloc (by omega) _⟩

set_option maxRecDepth 100000 in
set_option maxHeartbeats 12800000 in
theorem reads_l_ptr_rdr_obj (a0 : Option Addr) (len cap L : Nat) (z : Int → Int) (q1 q2 q3 q4 q5 q6 i j : Int) (hq : WP.ok ⟨q1, q2, q3, q4, q5, q6⟩) (i0 : 0 ≤ i) (i1 : i ≤ 255) (j0 : 0 ≤ j) (j1 : j ≤ 4294967295) (w : World)
    (hcap : len ≤ cap) (hnil : a0 = none → cap = 0) (hs : Lies w a0 L z) (hl : L ≤ 256) (hL : L = len) (hin : wIn q1 q2 q3 q4 q5 q6 L = true) (h1 : (q1 == 1) = false) (h1n : (q1 != 1) = true) (h2 : (q1 == 2) = true) (h2n : (q1 != 2) = false) (hc5 : 6 ≤ q5) (hjc : j < q6) (hc6 : (q5 == 6) = true)  (s1 s2 s3 s4 s5 s6 : Int) (hr_s : rsv z L (q2 + j) = (⟨s1, s2, s3, s4, s5, s6⟩, true)) (ok_s : WP.ok ⟨s1, s2, s3, s4, s5, s6⟩) (nz_s : (s1 == 0) = false) (in_s : wIn s1 s2 s3 s4 s5 s6 L = true)  :
    Calls Fahg.prog 11 #[.slice a0 len cap, .agg #[.int .u8 q1, .int .u16 q2, .int .u8 q3, .int .u8 q4, .int .u8 q5, .int .u32 q6], .int .u8 i, .int .u32 j] w fun e w' => e = .returned (.bool true) ∧ Below w.heap.size w w' := by
  subst hL
  have q2a : 0 ≤ q2 := hq.a0
  have q2b : q2 ≤ 65535 := hq.a1
  have q3a : 0 ≤ q3 := hq.d0
  have q4a : 0 ≤ q4 := hq.p0
  have q5a : 0 ≤ q5 := hq.c0
  have q6a : 0 ≤ q6 := hq.n0
  have hsx := hin
  have hk2' : q1 = 2 := by simpa using h2
  have hk6' : q5 = 6 := by simpa using hc6
  rw [hk2', hk6'] at hsx
  have hsx := wIn_ptrs q6a hsx
  clear hk2' hk6'
  obtain ⟨a1, cap1, w1, hrun, hb1, hrow⟩ := app_any (w.alloc (.cells #[Value.int .u8 q1, .int .u16 q2, .int .u8 q3, .int .u8 q4, .int .u8 q5, .int .u32 q6] 78)) a0 L cap z (hs.below (below_alloc (Below.refl _ _) (Nat.le_refl _) _)) hnil (by omega)
  have hz1 : w.heap.size < w1.heap.size := by have := hb1.size; simp at this; omega
  have c1 : ∀ o, w1.cell? ⟨w.heap.size, o, none⟩ = #[Value.int .u8 q1, .int .u16 q2, .int .u8 q3, .int .u8 q4, .int .u8 q5, .int .u32 q6][o]? := fun o => (hb1.cell (p := ⟨w.heap.size, o, none⟩) (by simp)).trans (World.cell?_alloc_at _ _ _ _ rfl)
  have S1 : RS w w1.heap.size a1 L cap1 z q1 q2 q3 q4 q5 q6 4294967295 (w1.alloc (.cells #[.slice a1 L cap1, .int .u32 4294967295] 87)) := by
    refine ⟨(below_alloc (Below.refl _ _) (Nat.le_refl _) _).trans ((hb1.mono (by simp)).trans ((Below.refl _ _).alloc (by omega) _)), fun o => ?_, ⟨?_, ?_, ?_⟩, hz1, ?_⟩
    · rw [World.cell?_alloc_past _ _ _ (by omega), c1 o]
    · rw [World.cell?_alloc_at _ _ _ _ rfl]; rfl
    · rw [World.cell?_alloc_at _ _ _ _ rfl]; rfl
    · simp [go_sem]
    · rcases hrow with h | ⟨g, e, h1, h2, hr⟩
      · exact .inl h
      · exact .inr ⟨g, e, by omega, by simp; omega, hr.below ((Below.refl w1.heap.size w1).alloc (Nat.le_refl _) _) h2⟩
  have HRUN : Hid _ := hrun
  have HS1 : Hid _ := S1
  clear hrow hs hrun hb1 S1
  have hWI := fun w => wideInside_any L q1 q2 q3 q4 q5 q6 hq.k0 hq.k1 hq.a0 hq.a1 hq.d0 hq.d1 hq.p0 hq.p1 hq.c0 hq.c1 hq.n0 hq.n1 w (by omega) (by omega)
  have hIN := fun cap1 a1 w => inside_any a1 L cap1 q1 q2 q3 q4 q5 q6 hq.k0 hq.k1 hq.a0 hq.a1 hq.d0 hq.d1 hq.p0 hq.p1 hq.c0 hq.c1 hq.n0 hq.n1 w
  rw [hin] at hWI
  simp only [hin] at hIN
  have HWI : Hid _ := hWI
  have HIN : Hid _ := hIN
  clear hWI hIN
  obtain ⟨g, rfl, hgR, hgl, hgr⟩ : ∃ g, a1 = some ⟨g, 0, none⟩ ∧ g ≠ w1.heap.size ∧ g < (w1.alloc (.cells #[.slice a1 L cap1, .int .u32 4294967295] 87)).heap.size ∧ Row (w1.alloc (.cells #[.slice a1 L cap1, .int .u32 4294967295] 87)) g 0 L z := by
    rcases HS1.out.row with ⟨h, _⟩ | h
    · omega
    · exact h
  clear hgr
  have hrow : ∀ W Lf, RS w w1.heap.size (some ⟨g, 0, none⟩) L cap1 z q1 q2 q3 q4 q5 q6 Lf W → Row W g 0 L z := by
    intro W Lf S
    rcases S.row with ⟨_, h⟩ | ⟨g', e, _, _, hr⟩
    · simp at h
    · simp at e; subst e; exact hr
  have HROW : Hid _ := hrow
  clear hrow
  have HU0 := fun (RB cap1 : Nat) w (hr : IsRdr w RB (.slice (some ⟨g, 0, none⟩) L cap1) 4294967295) (hz : Row w g 0 L z) => u64_no RB (some ⟨g, 0, none⟩) L cap1 q1 q2 q3 q4 q5 q6 hq.k0 hq.k1 hq.a0 hq.a1 hq.d0 hq.d1 hq.p0 hq.p1 hq.c0 hq.c1 hq.n0 hq.n1 i i0 i1 w hr.a (.inl h1n)
  have HU : Hid _ := HU0
  clear HU0
  have HE0 := fun (RB cap1 : Nat) w (hr : IsRdr w RB (.slice (some ⟨g, 0, none⟩) L cap1) 4294967295) (hz : Row w g 0 L z) => elem_no RB (some ⟨g, 0, none⟩) L cap1 q1 q2 q3 q4 q5 q6 hq.k0 hq.k1 hq.a0 hq.a1 hq.d0 hq.d1 hq.p0 hq.p1 hq.c0 hq.c1 hq.n0 hq.n1 j j0 j1 w hr.a (.inr (.inl ⟨h2n, by omega⟩))
  have HE : Hid _ := HE0
  clear HE0
  have HC0 := fun (RB cap1 : Nat) w (hr : IsRdr w RB (.slice (some ⟨g, 0, none⟩) L cap1) 4294967295) (hz : Row w g 0 L z) => child_no RB (some ⟨g, 0, none⟩) L cap1 q1 q2 q3 q4 q5 q6 hq.k0 hq.k1 hq.a0 hq.a1 hq.d0 hq.d1 hq.p0 hq.p1 hq.c0 hq.c1 hq.n0 hq.n1 i i0 i1 w hr.a (.inl h1n)
  have HC : Hid _ := HC0
  clear HC0
  have HP0 := fun (RB cap1 : Nat) w (hr : IsRdr w RB (.slice (some ⟨g, 0, none⟩) L cap1) 4294967295) (hz : Row w g 0 L z) => eptr_ptr RB g 0 L cap1 q1 q2 q3 q4 q5 q6 hq.k0 hq.k1 hq.a0 hq.a1 hq.d0 hq.d1 hq.p0 hq.p1 hq.c0 hq.c1 hq.n0 hq.n1 j 4294967295 j0 j1 z w hr (by decide) (by decide) hz h2n hjc hin hc6
  simp only [hr_s] at HP0
  have HP : Hid _ := HP0
  clear HP0
  have HIs := fun w => wideInside_any L s1 s2 s3 s4 s5 s6 ok_s.k0 ok_s.k1 ok_s.a0 ok_s.a1 ok_s.d0 ok_s.d1 ok_s.p0 ok_s.p1 ok_s.c0 ok_s.c1 ok_s.n0 ok_s.n1 w (by omega) (by omega)
  rw [in_s] at HIs
  have HIs : Hid _ := HIs
  clear ok_s in_s
  clear hin hq
  clear hr_s
  go_enter Fahg.func11, Fahg.ntmps11
  go_wp2_with (at_builtin; refine wpList_append_run rfl _ _ _ rfl _ _ _ _ rfl rfl HRUN.out ?_)
  refine (HWI.out _).mono ?_; rintro e w2 ⟨rfl, hb2⟩
  have HS2 : Hid _ := HS1.out.stay hb2
  have c2 := HS2.out.p
  clear c1 hb2 HS1 HRUN
  go_wp2_with fail
  refine (HIN.out _ _ _).mono ?_; rintro e w3 ⟨rfl, hb3⟩
  have HS3 : Hid _ := HS2.out.stay hb3
  have c3 := HS3.out.p
  clear c2 hb3 HS2
  go_wp2_with fail
  refine (HU.out _ _ _ HS3.out.rdr (HROW.out _ _ HS3.out)).mono ?_; rintro e w4 ⟨rfl, hb4⟩
  have HS4 : Hid _ := HS3.out.stay hb4
  have c4 := HS4.out.p
  clear c3 hb4 HS3
  go_wp2_with fail
  refine (HE.out _ _ _ HS4.out.rdr (HROW.out _ _ HS4.out)).mono ?_; rintro e w5 ⟨rfl, hb5⟩
  have HS5 : Hid _ := HS4.out.stay hb5
  have c5 := HS5.out.p
  clear c4 hb5 HS4
  have hz5 : w.heap.size < w5.heap.size := Nat.lt_trans HS5.out.lt HS5.out.rdr.lt
  have hR5 : w1.heap.size < w5.heap.size := HS5.out.rdr.lt
  go_wp2_with fail
  have HSn : Hid _ := HS5.out.stay (below_alloc (Below.refl _ _) (Nat.le_refl _) (.cells #[.int .u8 0, .int .u16 0, .int .u8 0, .int .u8 0, .int .u8 0, .int .u32 0] 78))
  refine (HC.out _ _ _ HSn.out.rdr (HROW.out _ _ HSn.out)).mono ?_
  rintro e w6 ⟨rfl, hb⟩
  have HS6 : Hid _ := HSn.out.stay hb
  have hsz := hb.size
  simp only [World.size_alloc] at hsz
  have c6 := HS6.out.p
  have n6 : ∀ o, w6.cell? ⟨w5.heap.size, o, none⟩ = _ := fun o => (hb.cell (p := ⟨w5.heap.size, o, none⟩) (by simp)).trans (World.cell?_alloc_at _ _ _ _ rfl)
  have hz6 : w5.heap.size < w6.heap.size := by omega
  have hy6 : w.heap.size < w6.heap.size := by omega
  have hR6 : w1.heap.size < w6.heap.size := by omega
  clear c5 hb HSn HS5 hsz
  simp only [WP.nul, WP.val]
  go_wp2_with fail
  have HSm : Hid _ := HS6.out.stay (below_alloc (Below.refl _ _) (Nat.le_refl _) (.cells #[.int .u8 0, .int .u16 0, .int .u8 0, .int .u8 0, .int .u8 0, .int .u32 0] 78))
  refine (HP.out _ _ _ HSm.out.rdr (HROW.out _ _ HSm.out)).mono ?_
  rintro e w7 ⟨rfl, ho, L7, hi, hl1, hl2⟩
  have HS7 : Hid _ := HSm.out.step ho hi
  have hsz := ho.size
  simp only [World.size_alloc] at hsz
  have n7 : ∀ o, w7.cell? ⟨w5.heap.size, o, none⟩ = _ := fun o => (ho.cell (b := w5.heap.size) (o := o) (by simp; omega) (by omega)).trans ((World.cell?_alloc_past _ _ _ (by omega)).trans (n6 o))
  have d7 : ∀ o, w7.cell? ⟨w6.heap.size, o, none⟩ = _ := fun o => (ho.cell (b := w6.heap.size) (o := o) (by simp) (by omega)).trans (World.cell?_alloc_at _ _ _ _ rfl)
  have hz7 : w6.heap.size < w7.heap.size := by omega
  have hy7 : w5.heap.size < w7.heap.size := by omega
  clear c6 ho hi HSm HS6 n6 hsz
  simp only [WP.val]
  go_wp2_with fail
  refine (HIs.out _).mono ?_; rintro e w8 ⟨rfl, hb8⟩
  go_wp2_with fail
  go_ret
  exact ⟨rfl, (HS7.out.below.alloc (by omega) _).trans (hb8.mono (by simp; omega))⟩

set_option maxRecDepth 100000 in
set_option maxHeartbeats 12800000 in
theorem reads_l_struct (a0 : Option Addr) (len cap L : Nat) (z : Int → Int) (q1 q2 q3 q4 q5 q6 i j : Int) (hq : WP.ok ⟨q1, q2, q3, q4, q5, q6⟩) (i0 : 0 ≤ i) (i1 : i ≤ 255) (j0 : 0 ≤ j) (j1 : j ≤ 4294967295) (w : World)
    (hcap : len ≤ cap) (hnil : a0 = none → cap = 0) (hs : Lies w a0 L z) (hl : L ≤ 256) (hL : L = len) (hin : wIn q1 q2 q3 q4 q5 q6 L = true) (h1 : (q1 == 1) = false) (h1n : (q1 != 1) = true) (h2 : (q1 == 2) = true) (h2n : (q1 != 2) = false) (hc5 : 6 ≤ q5) (hjc : j < q6) (hc7 : (q5 == 7) = true)   :
    Calls Fahg.prog 11 #[.slice a0 len cap, .agg #[.int .u8 q1, .int .u16 q2, .int .u8 q3, .int .u8 q4, .int .u8 q5, .int .u32 q6], .int .u8 i, .int .u32 j] w fun e w' => e = .returned (.bool true) ∧ Below w.heap.size w w' := by
  subst hL
  have q2a : 0 ≤ q2 := hq.a0
  have q2b : q2 ≤ 65535 := hq.a1
  have q3a : 0 ≤ q3 := hq.d0
  have q4a : 0 ≤ q4 := hq.p0
  have q5a : 0 ≤ q5 := hq.c0
  have q6a : 0 ≤ q6 := hq.n0
  have hsx := hin
  have hk2' : q1 = 2 := by simpa using h2
  have hk7' : q5 = 7 := by simpa using hc7
  rw [hk2', hk7'] at hsx
  have hsx := wIn_tag q3a q4a q6a hsx
  have m0 : 0 ≤ j * (q3 + q4) := Int.mul_nonneg j0 (by omega)
  have m1 : (j + 1) * (q3 + q4) ≤ q6 * (q3 + q4) := Int.mul_le_mul_of_nonneg_right (by omega) (by omega)
  have m2 : (j + 1) * (q3 + q4) = j * (q3 + q4) + (q3 + q4) := by rw [Int.add_mul]; omega
  have ins : wIn 1 (q2 + j * (q3 + q4)) q3 q4 0 0 L = true := by
    have e : wWords 1 q3 q4 0 0 = q3 + q4 := by simp [wWords, hsx.2.1, hsx.2.2.1]
    simp only [wIn, wFirst, e]
    simp
    omega
  clear hk2' hk7'
  obtain ⟨a1, cap1, w1, hrun, hb1, hrow⟩ := app_any (w.alloc (.cells #[Value.int .u8 q1, .int .u16 q2, .int .u8 q3, .int .u8 q4, .int .u8 q5, .int .u32 q6] 78)) a0 L cap z (hs.below (below_alloc (Below.refl _ _) (Nat.le_refl _) _)) hnil (by omega)
  have hz1 : w.heap.size < w1.heap.size := by have := hb1.size; simp at this; omega
  have c1 : ∀ o, w1.cell? ⟨w.heap.size, o, none⟩ = #[Value.int .u8 q1, .int .u16 q2, .int .u8 q3, .int .u8 q4, .int .u8 q5, .int .u32 q6][o]? := fun o => (hb1.cell (p := ⟨w.heap.size, o, none⟩) (by simp)).trans (World.cell?_alloc_at _ _ _ _ rfl)
  have S1 : RS w w1.heap.size a1 L cap1 z q1 q2 q3 q4 q5 q6 4294967295 (w1.alloc (.cells #[.slice a1 L cap1, .int .u32 4294967295] 87)) := by
    refine ⟨(below_alloc (Below.refl _ _) (Nat.le_refl _) _).trans ((hb1.mono (by simp)).trans ((Below.refl _ _).alloc (by omega) _)), fun o => ?_, ⟨?_, ?_, ?_⟩, hz1, ?_⟩
    · rw [World.cell?_alloc_past _ _ _ (by omega), c1 o]
    · rw [World.cell?_alloc_at _ _ _ _ rfl]; rfl
    · rw [World.cell?_alloc_at _ _ _ _ rfl]; rfl
    · simp [go_sem]
    · rcases hrow with h | ⟨g, e, h1, h2, hr⟩
      · exact .inl h
      · exact .inr ⟨g, e, by omega, by simp; omega, hr.below ((Below.refl w1.heap.size w1).alloc (Nat.le_refl _) _) h2⟩
  have HRUN : Hid _ := hrun
  have HS1 : Hid _ := S1
  clear hrow hs hrun hb1 S1
  have hWI := fun w => wideInside_any L q1 q2 q3 q4 q5 q6 hq.k0 hq.k1 hq.a0 hq.a1 hq.d0 hq.d1 hq.p0 hq.p1 hq.c0 hq.c1 hq.n0 hq.n1 w (by omega) (by omega)
  have hIN := fun cap1 a1 w => inside_any a1 L cap1 q1 q2 q3 q4 q5 q6 hq.k0 hq.k1 hq.a0 hq.a1 hq.d0 hq.d1 hq.p0 hq.p1 hq.c0 hq.c1 hq.n0 hq.n1 w
  rw [hin] at hWI
  simp only [hin] at hIN
  have HWI : Hid _ := hWI
  have HIN : Hid _ := hIN
  clear hWI hIN
  have HU0 := fun (RB cap1 : Nat) w (hr : IsRdr w RB (.slice a1 L cap1) 4294967295) => u64_no RB a1 L cap1 q1 q2 q3 q4 q5 q6 hq.k0 hq.k1 hq.a0 hq.a1 hq.d0 hq.d1 hq.p0 hq.p1 hq.c0 hq.c1 hq.n0 hq.n1 i i0 i1 w hr.a (.inl h1n)
  have HU : Hid _ := HU0
  clear HU0
  have HE0 := fun (RB cap1 : Nat) w (hr : IsRdr w RB (.slice a1 L cap1) 4294967295) => elem_no RB a1 L cap1 q1 q2 q3 q4 q5 q6 hq.k0 hq.k1 hq.a0 hq.a1 hq.d0 hq.d1 hq.p0 hq.p1 hq.c0 hq.c1 hq.n0 hq.n1 j j0 j1 w hr.a (.inr (.inl ⟨h2n, by omega⟩))
  have HE : Hid _ := HE0
  clear HE0
  have HC0 := fun (RB cap1 : Nat) w (hr : IsRdr w RB (.slice a1 L cap1) 4294967295) => child_no RB a1 L cap1 q1 q2 q3 q4 q5 q6 hq.k0 hq.k1 hq.a0 hq.a1 hq.d0 hq.d1 hq.p0 hq.p1 hq.c0 hq.c1 hq.n0 hq.n1 i i0 i1 w hr.a (.inl h1n)
  have HC : Hid _ := HC0
  clear HC0
  have HP0 := fun (RB cap1 : Nat) w {Lf : Int} (hr : IsRdr w RB (.slice a1 L cap1) Lf) => eptr_struct RB a1 L cap1 q1 q2 q3 q4 q5 q6 hq.k0 hq.k1 hq.a0 hq.a1 hq.d0 hq.d1 hq.p0 hq.p1 hq.c0 hq.c1 hq.n0 hq.n1 j j0 j1 w hr.a h2n hjc hin hc7
  have HP : Hid _ := HP0
  clear HP0
  have HIs := fun w => wideInside_any L 1 (q2 + j * (q3 + q4)) q3 q4 0 0 (by decide) (by decide) (by omega) (by omega) q3a (by omega) q4a (by omega) (by decide) (by decide) (by decide) (by decide) w (by omega) (by omega)
  rw [ins] at HIs
  have HIs : Hid _ := HIs
  clear ins
  clear hin hq
  go_enter Fahg.func11, Fahg.ntmps11
  go_wp2_with (at_builtin; refine wpList_append_run rfl _ _ _ rfl _ _ _ _ rfl rfl HRUN.out ?_)
  refine (HWI.out _).mono ?_; rintro e w2 ⟨rfl, hb2⟩
  have HS2 : Hid _ := HS1.out.stay hb2
  have c2 := HS2.out.p
  clear c1 hb2 HS1 HRUN
  go_wp2_with fail
  refine (HIN.out _ _ _).mono ?_; rintro e w3 ⟨rfl, hb3⟩
  have HS3 : Hid _ := HS2.out.stay hb3
  have c3 := HS3.out.p
  clear c2 hb3 HS2
  go_wp2_with fail
  refine (HU.out _ _ _ HS3.out.rdr ).mono ?_; rintro e w4 ⟨rfl, hb4⟩
  have HS4 : Hid _ := HS3.out.stay hb4
  have c4 := HS4.out.p
  clear c3 hb4 HS3
  go_wp2_with fail
  refine (HE.out _ _ _ HS4.out.rdr ).mono ?_; rintro e w5 ⟨rfl, hb5⟩
  have HS5 : Hid _ := HS4.out.stay hb5
  have c5 := HS5.out.p
  clear c4 hb5 HS4
  have hz5 : w.heap.size < w5.heap.size := Nat.lt_trans HS5.out.lt HS5.out.rdr.lt
  have hR5 : w1.heap.size < w5.heap.size := HS5.out.rdr.lt
  go_wp2_with fail
  have HSn : Hid _ := HS5.out.stay (below_alloc (Below.refl _ _) (Nat.le_refl _) (.cells #[.int .u8 0, .int .u16 0, .int .u8 0, .int .u8 0, .int .u8 0, .int .u32 0] 78))
  refine (HC.out _ _ _ HSn.out.rdr ).mono ?_
  rintro e w6 ⟨rfl, hb⟩
  have HS6 : Hid _ := HSn.out.stay hb
  have hsz := hb.size
  simp only [World.size_alloc] at hsz
  have c6 := HS6.out.p
  have n6 : ∀ o, w6.cell? ⟨w5.heap.size, o, none⟩ = _ := fun o => (hb.cell (p := ⟨w5.heap.size, o, none⟩) (by simp)).trans (World.cell?_alloc_at _ _ _ _ rfl)
  have hz6 : w5.heap.size < w6.heap.size := by omega
  have hy6 : w.heap.size < w6.heap.size := by omega
  have hR6 : w1.heap.size < w6.heap.size := by omega
  clear c5 hb HSn HS5 hsz
  simp only [WP.nul, WP.val]
  go_wp2_with fail
  have HSm : Hid _ := HS6.out.stay (below_alloc (Below.refl _ _) (Nat.le_refl _) (.cells #[.int .u8 0, .int .u16 0, .int .u8 0, .int .u8 0, .int .u8 0, .int .u32 0] 78))
  refine (HP.out _ _ _ HSm.out.rdr ).mono ?_
  rintro e w7 ⟨rfl, hb⟩
  have HS7 : Hid _ := HSm.out.stay hb
  have hsz := hb.size
  simp only [World.size_alloc] at hsz
  have n7 : ∀ o, w7.cell? ⟨w5.heap.size, o, none⟩ = _ := fun o => (hb.cell (p := ⟨w5.heap.size, o, none⟩) (by simp; omega)).trans ((World.cell?_alloc_past _ _ _ (by omega)).trans (n6 o))
  have d7 : ∀ o, w7.cell? ⟨w6.heap.size, o, none⟩ = _ := fun o => (hb.cell (p := ⟨w6.heap.size, o, none⟩) (by simp)).trans (World.cell?_alloc_at _ _ _ _ rfl)
  have hz7 : w6.heap.size < w7.heap.size := by omega
  have hy7 : w5.heap.size < w7.heap.size := by omega
  clear c6 hb HSm HS6 n6 hsz
  simp only [WP.val]
  go_wp2_with fail
  refine (HIs.out _).mono ?_; rintro e w8 ⟨rfl, hb8⟩
  go_wp2_with fail
  go_ret
  exact ⟨rfl, (HS7.out.below.alloc (by omega) _).trans (hb8.mono (by simp; omega))⟩

set_option maxRecDepth 100000 in
set_option maxHeartbeats 12800000 in
theorem reads_l_other (a0 : Option Addr) (len cap L : Nat) (z : Int → Int) (q1 q2 q3 q4 q5 q6 i j : Int) (hq : WP.ok ⟨q1, q2, q3, q4, q5, q6⟩) (i0 : 0 ≤ i) (i1 : i ≤ 255) (j0 : 0 ≤ j) (j1 : j ≤ 4294967295) (w : World)
    (hcap : len ≤ cap) (hnil : a0 = none → cap = 0) (hs : Lies w a0 L z) (hl : L ≤ 256) (hL : L = len) (hin : wIn q1 q2 q3 q4 q5 q6 L = true) (h1 : (q1 == 1) = false) (h1n : (q1 != 1) = true) (h2 : (q1 == 2) = true) (h2n : (q1 != 2) = false) (hc5 : 6 ≤ q5) (hjc : j < q6) (hc6 : (q5 == 6) = false) (hc7 : (q5 == 7) = false)   :
    Calls Fahg.prog 11 #[.slice a0 len cap, .agg #[.int .u8 q1, .int .u16 q2, .int .u8 q3, .int .u8 q4, .int .u8 q5, .int .u32 q6], .int .u8 i, .int .u32 j] w fun e w' => e = .returned (.bool true) ∧ Below w.heap.size w w' := by
  subst hL
  have q2a : 0 ≤ q2 := hq.a0
  have q2b : q2 ≤ 65535 := hq.a1
  have q3a : 0 ≤ q3 := hq.d0
  have q4a : 0 ≤ q4 := hq.p0
  have q5a : 0 ≤ q5 := hq.c0
  have q6a : 0 ≤ q6 := hq.n0
  obtain ⟨a1, cap1, w1, hrun, hb1, hrow⟩ := app_any (w.alloc (.cells #[Value.int .u8 q1, .int .u16 q2, .int .u8 q3, .int .u8 q4, .int .u8 q5, .int .u32 q6] 78)) a0 L cap z (hs.below (below_alloc (Below.refl _ _) (Nat.le_refl _) _)) hnil (by omega)
  have hz1 : w.heap.size < w1.heap.size := by have := hb1.size; simp at this; omega
  have c1 : ∀ o, w1.cell? ⟨w.heap.size, o, none⟩ = #[Value.int .u8 q1, .int .u16 q2, .int .u8 q3, .int .u8 q4, .int .u8 q5, .int .u32 q6][o]? := fun o => (hb1.cell (p := ⟨w.heap.size, o, none⟩) (by simp)).trans (World.cell?_alloc_at _ _ _ _ rfl)
  have S1 : RS w w1.heap.size a1 L cap1 z q1 q2 q3 q4 q5 q6 4294967295 (w1.alloc (.cells #[.slice a1 L cap1, .int .u32 4294967295] 87)) := by
    refine ⟨(below_alloc (Below.refl _ _) (Nat.le_refl _) _).trans ((hb1.mono (by simp)).trans ((Below.refl _ _).alloc (by omega) _)), fun o => ?_, ⟨?_, ?_, ?_⟩, hz1, ?_⟩
    · rw [World.cell?_alloc_past _ _ _ (by omega), c1 o]
    · rw [World.cell?_alloc_at _ _ _ _ rfl]; rfl
    · rw [World.cell?_alloc_at _ _ _ _ rfl]; rfl
    · simp [go_sem]
    · rcases hrow with h | ⟨g, e, h1, h2, hr⟩
      · exact .inl h
      · exact .inr ⟨g, e, by omega, by simp; omega, hr.below ((Below.refl w1.heap.size w1).alloc (Nat.le_refl _) _) h2⟩
  have HRUN : Hid _ := hrun
  have HS1 : Hid _ := S1
  clear hrow hs hrun hb1 S1
  have hWI := fun w => wideInside_any L q1 q2 q3 q4 q5 q6 hq.k0 hq.k1 hq.a0 hq.a1 hq.d0 hq.d1 hq.p0 hq.p1 hq.c0 hq.c1 hq.n0 hq.n1 w (by omega) (by omega)
  have hIN := fun cap1 a1 w => inside_any a1 L cap1 q1 q2 q3 q4 q5 q6 hq.k0 hq.k1 hq.a0 hq.a1 hq.d0 hq.d1 hq.p0 hq.p1 hq.c0 hq.c1 hq.n0 hq.n1 w
  rw [hin] at hWI
  simp only [hin] at hIN
  have HWI : Hid _ := hWI
  have HIN : Hid _ := hIN
  clear hWI hIN
  have HU0 := fun (RB cap1 : Nat) w (hr : IsRdr w RB (.slice a1 L cap1) 4294967295) => u64_no RB a1 L cap1 q1 q2 q3 q4 q5 q6 hq.k0 hq.k1 hq.a0 hq.a1 hq.d0 hq.d1 hq.p0 hq.p1 hq.c0 hq.c1 hq.n0 hq.n1 i i0 i1 w hr.a (.inl h1n)
  have HU : Hid _ := HU0
  clear HU0
  have HE0 := fun (RB cap1 : Nat) w (hr : IsRdr w RB (.slice a1 L cap1) 4294967295) => elem_no RB a1 L cap1 q1 q2 q3 q4 q5 q6 hq.k0 hq.k1 hq.a0 hq.a1 hq.d0 hq.d1 hq.p0 hq.p1 hq.c0 hq.c1 hq.n0 hq.n1 j j0 j1 w hr.a (.inr (.inl ⟨h2n, by omega⟩))
  have HE : Hid _ := HE0
  clear HE0
  have HC0 := fun (RB cap1 : Nat) w (hr : IsRdr w RB (.slice a1 L cap1) 4294967295) => child_no RB a1 L cap1 q1 q2 q3 q4 q5 q6 hq.k0 hq.k1 hq.a0 hq.a1 hq.d0 hq.d1 hq.p0 hq.p1 hq.c0 hq.c1 hq.n0 hq.n1 i i0 i1 w hr.a (.inl h1n)
  have HC : Hid _ := HC0
  clear HC0
  have HP0 := fun (RB cap1 : Nat) w {Lf : Int} (hr : IsRdr w RB (.slice a1 L cap1) Lf) => eptr_no RB a1 L cap1 q1 q2 q3 q4 q5 q6 hq.k0 hq.k1 hq.a0 hq.a1 hq.d0 hq.d1 hq.p0 hq.p1 hq.c0 hq.c1 hq.n0 hq.n1 j j0 j1 w hr.a (.inr (.inr (.inr ⟨h2n, hjc, hin, hc6, hc7⟩)))
  have HP : Hid _ := HP0
  clear HP0
  clear hin hq
  go_enter Fahg.func11, Fahg.ntmps11
  go_wp2_with (at_builtin; refine wpList_append_run rfl _ _ _ rfl _ _ _ _ rfl rfl HRUN.out ?_)
  refine (HWI.out _).mono ?_; rintro e w2 ⟨rfl, hb2⟩
  have HS2 : Hid _ := HS1.out.stay hb2
  have c2 := HS2.out.p
  clear c1 hb2 HS1 HRUN
  go_wp2_with fail
  refine (HIN.out _ _ _).mono ?_; rintro e w3 ⟨rfl, hb3⟩
  have HS3 : Hid _ := HS2.out.stay hb3
  have c3 := HS3.out.p
  clear c2 hb3 HS2
  go_wp2_with fail
  refine (HU.out _ _ _ HS3.out.rdr ).mono ?_; rintro e w4 ⟨rfl, hb4⟩
  have HS4 : Hid _ := HS3.out.stay hb4
  have c4 := HS4.out.p
  clear c3 hb4 HS3
  go_wp2_with fail
  refine (HE.out _ _ _ HS4.out.rdr ).mono ?_; rintro e w5 ⟨rfl, hb5⟩
  have HS5 : Hid _ := HS4.out.stay hb5
  have c5 := HS5.out.p
  clear c4 hb5 HS4
  have hz5 : w.heap.size < w5.heap.size := Nat.lt_trans HS5.out.lt HS5.out.rdr.lt
  have hR5 : w1.heap.size < w5.heap.size := HS5.out.rdr.lt
  go_wp2_with fail
  have HSn : Hid _ := HS5.out.stay (below_alloc (Below.refl _ _) (Nat.le_refl _) (.cells #[.int .u8 0, .int .u16 0, .int .u8 0, .int .u8 0, .int .u8 0, .int .u32 0] 78))
  refine (HC.out _ _ _ HSn.out.rdr ).mono ?_
  rintro e w6 ⟨rfl, hb⟩
  have HS6 : Hid _ := HSn.out.stay hb
  have hsz := hb.size
  simp only [World.size_alloc] at hsz
  have c6 := HS6.out.p
  have n6 : ∀ o, w6.cell? ⟨w5.heap.size, o, none⟩ = _ := fun o => (hb.cell (p := ⟨w5.heap.size, o, none⟩) (by simp)).trans (World.cell?_alloc_at _ _ _ _ rfl)
  have hz6 : w5.heap.size < w6.heap.size := by omega
  have hy6 : w.heap.size < w6.heap.size := by omega
  have hR6 : w1.heap.size < w6.heap.size := by omega
  clear c5 hb HSn HS5 hsz
  simp only [WP.nul, WP.val]
  go_wp2_with fail
  have HSm : Hid _ := HS6.out.stay (below_alloc (Below.refl _ _) (Nat.le_refl _) (.cells #[.int .u8 0, .int .u16 0, .int .u8 0, .int .u8 0, .int .u8 0, .int .u32 0] 78))
  refine (HP.out _ _ _ HSm.out.rdr ).mono ?_
  rintro e w7 ⟨rfl, hb⟩
  have HS7 : Hid _ := HSm.out.stay hb
  have hsz := hb.size
  simp only [World.size_alloc] at hsz
  have n7 : ∀ o, w7.cell? ⟨w5.heap.size, o, none⟩ = _ := fun o => (hb.cell (p := ⟨w5.heap.size, o, none⟩) (by simp; omega)).trans ((World.cell?_alloc_past _ _ _ (by omega)).trans (n6 o))
  have d7 : ∀ o, w7.cell? ⟨w6.heap.size, o, none⟩ = _ := fun o => (hb.cell (p := ⟨w6.heap.size, o, none⟩) (by simp)).trans (World.cell?_alloc_at _ _ _ _ rfl)
  have hz7 : w6.heap.size < w7.heap.size := by omega
  have hy7 : w5.heap.size < w7.heap.size := by omega
  clear c6 hb HSm HS6 n6 hsz
  simp only [WP.nul, WP.val]
  go_wp2_with fail
  go_ret
  exact ⟨rfl, HS7.out.below.alloc (by omega) _⟩
end Go.Proofs.Ygcfah
