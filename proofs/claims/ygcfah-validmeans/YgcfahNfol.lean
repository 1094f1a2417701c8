/- valid.Walk.follow. -/
import Derived.Test.YgcfahNpush
import Derived.Test.YgcfahNs
namespace Go.Proofs.Ygcfah
open Go.RowKit
set_option linter.unusedVariables false
set_option linter.unusedSimpArgs false
theorem NStk.below {w w' : World} {g : Nat} {st : Nat → Nat × Nat} {n : Nat} (h : NStk w g st n) (hb : Below w.heap.size w w') : NStk w' g st n := by
  have hg : g < w.heap.size := World.block_lt_of_cell? w ⟨g, 516, none⟩ h.n
  exact ⟨fun i hi => (hb.cell (p := ⟨g, 4 + i * 2, none⟩) hg).trans (h.at_ i hi), fun i hi => (hb.cell (p := ⟨g, 4 + i * 2 + 1, none⟩) hg).trans (h.dp i hi), fun j h1 h2 => (hb.frozen (p := ⟨g, j, none⟩) hg).trans (h.f j h1 h2), (hb.cell (p := ⟨g, 516, none⟩) hg).trans h.n⟩
theorem npush_F (g a n dep n0 : Nat) (st : Nat → Nat × Nat) (w : World) (A : Int) (hA : A = a) (hs : NStk w g st n0) (h0 : n0 + n ≤ 256) (h1 : a + n ≤ 65535) (h2 : dep ≤ 255) :
    Calls Fahg.prog 145 #[.pointer (some ⟨g, 0, none⟩), .int .u16 A, .int .u16 n, .int .u8 dep] w fun e w' => e = .returned (.tuple #[]) ∧ Within g 4 517 w w' ∧ NStk w' g (pushF st n0 (fun k => a + k) dep n) (n0 + n) := by
  subst hA
  exact npush_any g a n dep n0 st w hs h0 h1 h2
set_option maxRecDepth 100000 in
set_option maxHeartbeats 1000000 in
theorem nfollow_struct (g : Nat) (A D P : Nat) (p5 p6 : Int) (h1 : A + D + P ≤ 65535) (hD : D ≤ 255) (hP : P ≤ 255) (dep n0 : Nat) (st : Nat → Nat × Nat) (w : World) (hs : NStk w g st n0) (h0 : n0 + P ≤ 256) (h2 : dep ≤ 255) :
    Calls Fahg.prog 147 #[.pointer (some ⟨g, 0, none⟩), WP.nval ⟨1, A, D, P, p5, p6⟩, .int .u8 dep] w fun e w' => e = .returned (.tuple #[]) ∧ Within g 4 517 w w' ∧ NStk w' g (pushF st n0 (fun k => A + D + k) dep P) (n0 + P) := by
  have hg : g < w.heap.size := World.block_lt_of_cell? w ⟨g, 516, none⟩ hs.n
  have HK : Hid (∀ wA A', A' = ((A + D : Nat) : Int) → NStk wA g st n0 → Calls Fahg.prog 145 #[.pointer (some ⟨g, 0, none⟩), .int .u16 A', .int .u16 P, .int .u8 dep] wA fun e w' => e = .returned (.tuple #[]) ∧ Within g 4 517 wA w' ∧ NStk w' g (pushF st n0 (fun k => A + D + k) dep P) (n0 + P)) := fun wA A' hA h => npush_F g (A + D) P dep n0 st wA A' hA h h0 h1 h2
  have HS : Hid _ := hs
  have h3 : A + D ≤ 65535 := by omega
  simp only [WP.nval]
  clear hs h0 h1
  go_enter Fahg.func147, Fahg.ntmps147
  go_wp2_with fail
  refine (HK.out _ _ ?_ (HS.out.below (below_alloc (Below.refl _ _) (Nat.le_refl _) _))).mono ?_
  · try push_cast
    try rfl
  rintro e w1 ⟨rfl, hW, hS⟩
  go_wp2_with fail
  exact bodyPost_end (v := .tuple #[]) (by simp [results, Fahg.results147]) rfl ⟨rfl, (Within.of_below (below_alloc (Below.refl _ _) (Nat.le_refl _) _) hg).trans hW, hS⟩

set_option maxRecDepth 100000 in
set_option maxHeartbeats 1000000 in
theorem nfollow_ptrs (g : Nat) (A C : Nat) (p3 p4 : Int) (h1 : A + C ≤ 65535) (hC : C ≤ 256) (dep n0 : Nat) (st : Nat → Nat × Nat) (w : World) (hs : NStk w g st n0) (h0 : n0 + C ≤ 256) (h2 : dep ≤ 255) :
    Calls Fahg.prog 147 #[.pointer (some ⟨g, 0, none⟩), WP.nval ⟨2, A, p3, p4, 6, C⟩, .int .u8 dep] w fun e w' => e = .returned (.tuple #[]) ∧ Within g 4 517 w w' ∧ NStk w' g (pushF st n0 (fun k => A + k) dep C) (n0 + C) := by
  have hg : g < w.heap.size := World.block_lt_of_cell? w ⟨g, 516, none⟩ hs.n
  have HK : Hid (∀ wA A', A' = ((A : Nat) : Int) → NStk wA g st n0 → Calls Fahg.prog 145 #[.pointer (some ⟨g, 0, none⟩), .int .u16 A', .int .u16 C, .int .u8 dep] wA fun e w' => e = .returned (.tuple #[]) ∧ Within g 4 517 wA w' ∧ NStk w' g (pushF st n0 (fun k => A + k) dep C) (n0 + C)) := fun wA A' hA h => npush_F g (A) C dep n0 st wA A' hA h h0 h1 h2
  have HS : Hid _ := hs
  simp only [WP.nval]
  clear hs h0 h1
  go_enter Fahg.func147, Fahg.ntmps147
  go_wp2_with fail
  refine (HK.out _ _ ?_ (HS.out.below (below_alloc (Below.refl _ _) (Nat.le_refl _) _))).mono ?_
  · try push_cast
    try rfl
  rintro e w1 ⟨rfl, hW, hS⟩
  go_wp2_with fail
  exact bodyPost_end (v := .tuple #[]) (by simp [results, Fahg.results147]) rfl ⟨rfl, (Within.of_below (below_alloc (Below.refl _ _) (Nat.le_refl _) _) hg).trans hW, hS⟩

set_option maxRecDepth 100000 in
set_option maxHeartbeats 1000000 in
theorem nfollow_none (g : Nat) (A : Nat) (p3 p4 p5 p6 : Int) (dep : Nat) (w : World) (h5 : (p5 == 6) = false) (h7 : (p5 == 7) = false) :
    Calls Fahg.prog 147 #[.pointer (some ⟨g, 0, none⟩), WP.nval ⟨2, A, p3, p4, p5, p6⟩, .int .u8 dep] w fun e w' => e = .returned (.tuple #[]) ∧ Below w.heap.size w w' := by
  simp only [WP.nval]
  go_enter Fahg.func147, Fahg.ntmps147
  go_wp2_with fail
  exact bodyPost_end (v := .tuple #[]) (by simp [results, Fahg.results147]) rfl ⟨rfl, below_alloc (Below.refl _ _) (Nat.le_refl _) _⟩

set_option maxRecDepth 100000 in
set_option maxHeartbeats 1000000 in
theorem nfollow_structs (g : Nat) (A D P C : Nat) (hC : C ≤ 128) (hb : A + C * (D + P) ≤ 256) (hD : D ≤ 8) (hP : P ≤ 8) (dep n0 : Nat) (st : Nat → Nat × Nat) (w : World) (hs : NStk w g st n0) (h0 : n0 + C * P ≤ 256) (h2 : dep ≤ 255) :
    Calls Fahg.prog 147 #[.pointer (some ⟨g, 0, none⟩), WP.nval ⟨2, A, D, P, 7, C⟩, .int .u8 dep] w fun e w' => e = .returned (.tuple #[]) ∧ Within g 4 517 w w' ∧ NStk w' g (pushF st n0 (fun k => A + k / P * (D + P) + D + k % P) dep (C * P)) (n0 + C * P) := by
  have hg : g < w.heap.size := World.block_lt_of_cell? w ⟨g, 516, none⟩ hs.n
  have hbel := below_alloc (Below.refl w.heap.size w) (Nat.le_refl _) (.cells #[.int .u8 2, .int .u16 A, .int .u8 D, .int .u8 P, .int .u8 7, .int .u16 C] 34)
  have HS : Hid _ := hs.below hbel
  have HB : Hid _ := hbel
  simp only [WP.nval]
  clear hs hbel
  go_enter Fahg.func147, Fahg.ntmps147
  go_wp2_with fail
  obtain ⟨w0, hw0⟩ : ∃ w0, w0 = w.alloc (.cells #[.int .u8 2, .int .u16 A, .int .u8 D, .int .u8 P, .int .u8 7, .int .u16 C] 34) := ⟨_, rfl⟩
  rw [← hw0] at HS HB ⊢
  have hz0 : w.heap.size < w0.heap.size := by rw [hw0]; simp
  have y1 : w0.cell? ⟨w.heap.size, 1, none⟩ = some (.int .u16 A) := by rw [hw0]; exact World.cell?_alloc_at _ _ _ _ rfl
  have y2 : w0.cell? ⟨w.heap.size, 2, none⟩ = some (.int .u8 D) := by rw [hw0]; exact World.cell?_alloc_at _ _ _ _ rfl
  have y3 : w0.cell? ⟨w.heap.size, 3, none⟩ = some (.int .u8 P) := by rw [hw0]; exact World.cell?_alloc_at _ _ _ _ rfl
  have y5 : w0.cell? ⟨w.heap.size, 5, none⟩ = some (.int .u16 C) := by rw [hw0]; exact World.cell?_alloc_at _ _ _ _ rfl
  clear hw0
  go_loopg [7] C (fun k I wr => ∃ i : Nat, i + k = C ∧ I = .int .u16 (i : Nat) ∧ Within g 4 517 w0 wr ∧ NStk wr g (pushF st n0 (fun k => A + k / P * (D + P) + D + k % P) dep (i * P)) (n0 + i * P))
  case atStart => exact ⟨0, by omega, rfl, Within.refl _ _ _ _, by rw [Nat.zero_mul, pushF_zero]; exact HS.out⟩
  case round =>
    obtain ⟨i, hd, rfl, hW, hS⟩ := hrel
    have hne : w.heap.size ≠ g := by omega
    have z1 := (hW.off.cell (o := 1) hz0 hne).trans y1
    have z2 := (hW.off.cell (o := 2) hz0 hne).trans y2
    have z3 := (hW.off.cell (o := 3) hz0 hne).trans y3
    have z5 := (hW.off.cell (o := 5) hz0 hne).trans y5
    by_cases hk : gk = 0
    · have e : i = C := by omega
      subst hk
      clear hd
      subst e
      go_wp2_with fail
      exact bodyPost_end (v := .tuple #[]) (by simp [results, Fahg.results147]) rfl ⟨rfl, (Within.of_below HB.out hg).trans hW, hS⟩
    · have k0 : i < C := by omega
      have hiC : (i + 1) * (D + P) ≤ C * (D + P) := Nat.mul_le_mul_right _ (by omega)
      have hiP : (i + 1) * P ≤ C * P := Nat.mul_le_mul_right _ (by omega)
      rw [Nat.add_mul, Nat.one_mul] at hiC hiP
      have HW : Hid _ := hW
      have HS2 : Hid _ := hS
      have HD : Hid (i + gk = C) := hd
      clear hW hS hd y1 y2 y3 y5 hk
      go_wp2_with fail
      refine (npush_F g (A + i * (D + P) + D) P dep (n0 + i * P) _ wr _ ?_ HS2.out (by omega) (by omega) h2).mono ?_
      · have e : (i : Int) * ((D : Int) + P) = ((i * (D + P) : Nat) : Int) := by push_cast; rfl
        rw [e, IntKind.wrap_u16, IntKind.wrap_u16, IntKind.wrap_u16]
        generalize i * (D + P) = t at *
        omega
      rintro e w1 ⟨rfl, hW1, hS1⟩
      have hS3 : Hid (NStk w1 g (pushF st n0 (fun k => A + k / P * (D + P) + D + k % P) dep ((i + 1) * P)) (n0 + (i + 1) * P)) := by
        have ea : (i + 1) * P = i * P + P := by rw [Nat.add_mul, Nat.one_mul]
        rw [ea, ← pushF_add st n0 (fun k => A + k / P * (D + P) + D + k % P) dep (i * P) P (fun k => A + i * (D + P) + D + k) (fun j hj => ?_), ← Nat.add_assoc]
        · exact hS1
        · show A + i * (D + P) + D + j = A + (i * P + j) / P * (D + P) + D + (i * P + j) % P
          rw [Nat.add_comm (i * P) j, Nat.add_mul_div_right _ _ (show 0 < P by omega), Nat.div_eq_of_lt hj, Nat.zero_add, Nat.add_mul_mod_self_right, Nat.mod_eq_of_lt hj]
      have HW1 : Hid _ := hW1
      clear hS1 hW1
      go_wp2_with fail
      have eD := HD.out
      go_roundg (gk - 1)
      case rel =>
        refine ⟨i + 1, by omega, ?_, HW.out.trans HW1.out, hS3.out⟩
        simp only [Value.int.injEq, true_and, IntKind.wrap_u16]; omega
      case measure => omega

theorem nfollow_shape (g : Nat) (len : Nat) (p : WP) (hp : NShape len p) (hl : len ≤ 256) (dep n0 : Nat) (st : Nat → Nat × Nat) (w : World) (hS : NStk w g st n0) (h0 : n0 + kidN p ≤ 256) (h2 : dep ≤ 255) :
    Calls Fahg.prog 147 #[.pointer (some ⟨g, 0, none⟩), p.nval, .int .u8 dep] w fun e w' => e = .returned (.tuple #[]) ∧ Within g 4 517 w w' ∧ NStk w' g (pushF st n0 (kidAt p) dep (kidN p)) (n0 + kidN p) := by
  have hg : g < w.heap.size := World.block_lt_of_cell? w ⟨g, 516, none⟩ hS.n
  obtain ⟨hs, hn, hc2⟩ := hp
  cases hs with
  | struct A D P hD hP hb h1 hw =>
    have e : kidN ⟨1, A, D, P, 0, 0⟩ = P := by simp [kidN]
    have e2 : kidAt ⟨1, A, D, P, 0, 0⟩ = fun k => A + D + k := by funext k; simp [kidAt]
    rw [e] at h0 ⊢
    rw [e2]
    exact nfollow_struct g A D P 0 0 (by omega) (by omega) (by omega) dep n0 st w hS h0 h2
  | list A c C W hc hC hW hb h1 hw =>
    by_cases k6 : c = 6
    · subst k6
      have e : kidN ⟨2, A, 0, 0, ((6 : Nat) : Int), C⟩ = C := by simp [kidN]
      have e2 : kidAt ⟨2, A, 0, 0, ((6 : Nat) : Int), C⟩ = fun k => A + k := by funext k; simp [kidAt]
      rw [e] at h0 ⊢
      rw [e2]
      exact nfollow_ptrs g A C 0 0 (by omega) (by omega) dep n0 st w hS h0 h2
    · have e : kidN ⟨2, A, 0, 0, c, C⟩ = 0 := by
        unfold kidN
        rw [if_neg (by simp), if_neg (by simp only []; omega), if_neg (by simp only []; omega)]
      rw [e, pushF_zero]
      refine (nfollow_none g A 0 0 c C dep w (by simp; omega) (by simp; omega)).mono ?_
      rintro e w' ⟨rfl, hb⟩
      exact ⟨rfl, .of_below hb hg, hS.below hb⟩
  | structs A D P C hD hP hC hA hb hw =>
    have hC2 : C ≤ 128 := by have : (C : Int) ≤ 128 := hn; omega
    have e : kidN ⟨2, A, D, P, 7, C⟩ = C * P := by
      unfold kidN
      rw [if_neg (by simp), if_neg (by simp)]
      by_cases k0 : P = 0
      · subst k0; rw [if_neg (by simp)]; simp
      · rw [if_pos ⟨rfl, by simp only []; omega⟩]; simp
    have e2 : kidAt ⟨2, A, D, P, 7, C⟩ = fun k => A + k / P * (D + P) + D + k % P := by funext k; simp [kidAt]
    rw [e] at h0 ⊢
    rw [e2]
    exact nfollow_structs g A D P C hC2 (by omega) hD hP dep n0 st w hS h0 h2
end Go.Proofs.Ygcfah
