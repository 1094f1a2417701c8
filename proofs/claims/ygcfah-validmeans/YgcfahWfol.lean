/- wide.walk.follow. -/
import Derived.Test.YgcfahPay
namespace Go.Proofs.Ygcfah
open Go.RowKit
set_option linter.unusedVariables false
set_option linter.unusedSimpArgs false

/-- The stack 'st' with i slots more from n0 on: word 'f k' at depth 'dep'. -/
def pushF (st : Nat → Nat × Nat) (n0 : Nat) (f : Nat → Nat) (dep i : Nat) : Nat → Nat × Nat := fun j => if n0 ≤ j ∧ j < n0 + i then (f (j - n0), dep) else st j
theorem Stk.below {w w' : World} {g : Nat} {st : Nat → Nat × Nat} {n : Nat} (h : Stk w g st n) (hb : Below w.heap.size w w') : Stk w' g st n := by
  have hg : g < w.heap.size := World.block_lt_of_cell? w ⟨g, 517, none⟩ h.n
  exact ⟨fun i hi => (hb.cell (p := ⟨g, 5 + i * 2, none⟩) hg).trans (h.at_ i hi), fun i hi => (hb.cell (p := ⟨g, 5 + i * 2 + 1, none⟩) hg).trans (h.dp i hi), fun j h1 h2 => (hb.frozen (p := ⟨g, j, none⟩) hg).trans (h.f j h1 h2), (hb.cell (p := ⟨g, 517, none⟩) hg).trans h.n⟩
theorem push_F (g a n dep n0 : Nat) (st : Nat → Nat × Nat) (w : World) (A : Int) (hA : A = a) (hs : Stk w g st n0) (h0 : n0 + n ≤ 256) (h1 : a + n ≤ 65535) (h2 : dep ≤ 255) :
    Calls Fahg.prog 105 #[.pointer (some ⟨g, 0, none⟩), .int .u16 A, .int .u16 n, .int .u8 dep] w fun e w' => e = .returned (.tuple #[]) ∧ Within g 5 518 w w' ∧ Stk w' g (pushF st n0 (fun k => a + k) dep n) (n0 + n) := by
  subst hA
  exact push_any g a n dep n0 st w hs h0 h1 h2
theorem pushF_zero (st : Nat → Nat × Nat) (n0 : Nat) (f : Nat → Nat) (dep : Nat) : pushF st n0 f dep 0 = st := by
  funext j; unfold pushF; rw [if_neg (by omega)]
theorem pushF_add (st : Nat → Nat × Nat) (n0 : Nat) (f : Nat → Nat) (dep i k : Nat) (f' : Nat → Nat) (h : ∀ j, j < k → f' j = f (i + j)) : pushF (pushF st n0 f dep i) (n0 + i) f' dep k = pushF st n0 f dep (i + k) := by
  funext j
  unfold pushF
  by_cases h1 : n0 + i ≤ j ∧ j < n0 + i + k
  · rw [if_pos h1, if_pos (by omega), h _ (by omega)]
    congr 2; omega
  · rw [if_neg h1]
    by_cases h2 : n0 ≤ j ∧ j < n0 + i
    · rw [if_pos h2, if_pos (by omega)]
    · rw [if_neg h2, if_neg (by omega)]

set_option maxRecDepth 100000 in
set_option maxHeartbeats 1000000 in
theorem wfollow_struct (g : Nat) (A D P : Nat) (p5 p6 : Int) (h1 : A + D + P ≤ 65535) (hD : D ≤ 255) (hP : P ≤ 255) (dep n0 : Nat) (st : Nat → Nat × Nat) (w : World) (hs : Stk w g st n0) (h0 : n0 + P ≤ 256) (h2 : dep ≤ 255) :
    Calls Fahg.prog 109 #[.pointer (some ⟨g, 0, none⟩), WP.val ⟨1, A, D, P, p5, p6⟩, .int .u8 dep] w fun e w' => e = .returned (.tuple #[]) ∧ Within g 5 518 w w' ∧ Stk w' g (pushF st n0 (fun k => A + D + k) dep P) (n0 + P) := by
  have hg : g < w.heap.size := World.block_lt_of_cell? w ⟨g, 517, none⟩ hs.n
  have HK : Hid (∀ wA A', A' = ((A + D : Nat) : Int) → Stk wA g st n0 → Calls Fahg.prog 105 #[.pointer (some ⟨g, 0, none⟩), .int .u16 A', .int .u16 P, .int .u8 dep] wA fun e w' => e = .returned (.tuple #[]) ∧ Within g 5 518 wA w' ∧ Stk w' g (pushF st n0 (fun k => A + D + k) dep P) (n0 + P)) := fun wA A' hA h => push_F g (A + D) P dep n0 st wA A' hA h h0 h1 h2
  have HS : Hid _ := hs
  have h3 : A + D ≤ 65535 := by omega
  simp only [WP.val]
  clear hs h0 h1
  go_enter Fahg.func109, Fahg.ntmps109
  go_wp2_with fail
  refine (HK.out _ _ ?_ (HS.out.below (below_alloc (Below.refl _ _) (Nat.le_refl _) _))).mono ?_
  · try push_cast
    try rfl
  rintro e w1 ⟨rfl, hW, hS⟩
  go_wp2_with fail
  exact bodyPost_end (v := .tuple #[]) (by simp [results, Fahg.results109]) rfl ⟨rfl, (Within.of_below (below_alloc (Below.refl _ _) (Nat.le_refl _) _) hg).trans hW, hS⟩

set_option maxRecDepth 100000 in
set_option maxHeartbeats 1000000 in
theorem wfollow_ptrs (g : Nat) (A C : Nat) (p3 p4 : Int) (h1 : A + C ≤ 65535) (hC : C ≤ 256) (dep n0 : Nat) (st : Nat → Nat × Nat) (w : World) (hs : Stk w g st n0) (h0 : n0 + C ≤ 256) (h2 : dep ≤ 255) :
    Calls Fahg.prog 109 #[.pointer (some ⟨g, 0, none⟩), WP.val ⟨2, A, p3, p4, 6, C⟩, .int .u8 dep] w fun e w' => e = .returned (.tuple #[]) ∧ Within g 5 518 w w' ∧ Stk w' g (pushF st n0 (fun k => A + k) dep C) (n0 + C) := by
  have hg : g < w.heap.size := World.block_lt_of_cell? w ⟨g, 517, none⟩ hs.n
  have HK : Hid (∀ wA A', A' = ((A : Nat) : Int) → Stk wA g st n0 → Calls Fahg.prog 105 #[.pointer (some ⟨g, 0, none⟩), .int .u16 A', .int .u16 C, .int .u8 dep] wA fun e w' => e = .returned (.tuple #[]) ∧ Within g 5 518 wA w' ∧ Stk w' g (pushF st n0 (fun k => A + k) dep C) (n0 + C)) := fun wA A' hA h => push_F g (A) C dep n0 st wA A' hA h h0 h1 h2
  have HS : Hid _ := hs
  simp only [WP.val]
  clear hs h0 h1
  go_enter Fahg.func109, Fahg.ntmps109
  go_wp2_with fail
  refine (HK.out _ _ ?_ (HS.out.below (below_alloc (Below.refl _ _) (Nat.le_refl _) _))).mono ?_
  · try push_cast
    try rfl
  rintro e w1 ⟨rfl, hW, hS⟩
  go_wp2_with fail
  exact bodyPost_end (v := .tuple #[]) (by simp [results, Fahg.results109]) rfl ⟨rfl, (Within.of_below (below_alloc (Below.refl _ _) (Nat.le_refl _) _) hg).trans hW, hS⟩

set_option maxRecDepth 100000 in
set_option maxHeartbeats 1000000 in
theorem wfollow_none (g : Nat) (A : Nat) (p3 p4 p5 p6 : Int) (dep : Nat) (w : World) (h5 : (p5 == 6) = false) (h7 : (p5 == 7) = false ∨ (p5 = 7 ∧ p4 = 0)) :
    Calls Fahg.prog 109 #[.pointer (some ⟨g, 0, none⟩), WP.val ⟨2, A, p3, p4, p5, p6⟩, .int .u8 dep] w fun e w' => e = .returned (.tuple #[]) ∧ Below w.heap.size w w' := by
  simp only [WP.val]
  rcases h7 with h7 | ⟨rfl, rfl⟩
  · go_enter Fahg.func109, Fahg.ntmps109
    go_wp2_with fail
    exact bodyPost_end (v := .tuple #[]) (by simp [results, Fahg.results109]) rfl ⟨rfl, below_alloc (Below.refl _ _) (Nat.le_refl _) _⟩
  · clear h5
    go_enter Fahg.func109, Fahg.ntmps109
    go_wp2_with fail
    exact bodyPost_end (v := .tuple #[]) (by simp [results, Fahg.results109]) rfl ⟨rfl, below_alloc (Below.refl _ _) (Nat.le_refl _) _⟩

set_option maxRecDepth 100000 in
set_option maxHeartbeats 1000000 in
theorem wfollow_structs (g : Nat) (A D P C : Nat) (hP0 : 0 < P) (hb : A + C * (D + P) ≤ 256) (hD : D ≤ 8) (hP : P ≤ 8) (dep n0 : Nat) (st : Nat → Nat × Nat) (w : World) (hs : Stk w g st n0) (h0 : n0 + C * P ≤ 256) (h2 : dep ≤ 255) :
    Calls Fahg.prog 109 #[.pointer (some ⟨g, 0, none⟩), WP.val ⟨2, A, D, P, 7, C⟩, .int .u8 dep] w fun e w' => e = .returned (.tuple #[]) ∧ Within g 5 518 w w' ∧ Stk w' g (pushF st n0 (fun k => A + k / P * (D + P) + D + k % P) dep (C * P)) (n0 + C * P) := by
  have hg : g < w.heap.size := World.block_lt_of_cell? w ⟨g, 517, none⟩ hs.n
  have hC : C ≤ 256 := by
    have : C * 1 ≤ C * (D + P) := Nat.mul_le_mul_left _ (by omega)
    omega
  have hbel := below_alloc (Below.refl w.heap.size w) (Nat.le_refl _) (.cells #[.int .u8 2, .int .u16 A, .int .u8 D, .int .u8 P, .int .u8 7, .int .u32 C] 78)
  have HS : Hid _ := hs.below hbel
  have HB : Hid _ := hbel
  have hP1 : (0 : Int) < P := by omega
  simp only [WP.val]
  clear hs hbel
  go_enter Fahg.func109, Fahg.ntmps109
  go_wp2_with fail
  obtain ⟨w0, hw0⟩ : ∃ w0, w0 = w.alloc (.cells #[.int .u8 2, .int .u16 A, .int .u8 D, .int .u8 P, .int .u8 7, .int .u32 C] 78) := ⟨_, rfl⟩
  rw [← hw0] at HS HB ⊢
  have hz0 : w.heap.size < w0.heap.size := by rw [hw0]; simp
  have y1 : w0.cell? ⟨w.heap.size, 1, none⟩ = some (.int .u16 A) := by rw [hw0]; exact World.cell?_alloc_at _ _ _ _ rfl
  have y2 : w0.cell? ⟨w.heap.size, 2, none⟩ = some (.int .u8 D) := by rw [hw0]; exact World.cell?_alloc_at _ _ _ _ rfl
  have y3 : w0.cell? ⟨w.heap.size, 3, none⟩ = some (.int .u8 P) := by rw [hw0]; exact World.cell?_alloc_at _ _ _ _ rfl
  have y5 : w0.cell? ⟨w.heap.size, 5, none⟩ = some (.int .u32 C) := by rw [hw0]; exact World.cell?_alloc_at _ _ _ _ rfl
  clear hw0
  go_loopg [7] C (fun k I wr => ∃ i : Nat, i + k = C ∧ I = .int .u16 (i : Nat) ∧ Within g 5 518 w0 wr ∧ Stk wr g (pushF st n0 (fun k => A + k / P * (D + P) + D + k % P) dep (i * P)) (n0 + i * P))
  case atStart => exact ⟨0, by omega, rfl, Within.refl _ _ _ _, by rw [Nat.zero_mul, pushF_zero]; exact HS.out⟩
  case round =>
    obtain ⟨i, hd, rfl, hW, hS⟩ := hrel
    have hne : w.heap.size ≠ g := by omega
    have z1 := (hW.off.cell (o := 1) hz0 hne).trans y1
    have z2 := (hW.off.cell (o := 2) hz0 hne).trans y2
    have z3 := (hW.off.cell (o := 3) hz0 hne).trans y3
    have z5 := (hW.off.cell (o := 5) hz0 hne).trans y5
    by_cases hk : gk = 0
    · have e : i = C := by omega
      subst hk
      clear hd
      subst e
      go_wp2_with fail
      exact bodyPost_end (v := .tuple #[]) (by simp [results, Fahg.results109]) rfl ⟨rfl, (Within.of_below HB.out hg).trans hW, hS⟩
    · have k0 : i < C := by omega
      have hiC : (i + 1) * (D + P) ≤ C * (D + P) := Nat.mul_le_mul_right _ (by omega)
      have hiP : (i + 1) * P ≤ C * P := Nat.mul_le_mul_right _ (by omega)
      rw [Nat.add_mul, Nat.one_mul] at hiC hiP
      have HW : Hid _ := hW
      have HS2 : Hid _ := hS
      have HD : Hid (i + gk = C) := hd
      clear hW hS hd y1 y2 y3 y5 hk
      go_wp2_with fail
      refine (push_F g (A + i * (D + P) + D) P dep (n0 + i * P) _ wr _ ?_ HS2.out (by omega) (by omega) h2).mono ?_
      · have e : (i : Int) * ((D : Int) + P) = ((i * (D + P) : Nat) : Int) := by push_cast; rfl
        rw [e, IntKind.wrap_u16, IntKind.wrap_u16, IntKind.wrap_u16]
        generalize i * (D + P) = t at *
        omega
      rintro e w1 ⟨rfl, hW1, hS1⟩
      have hS3 : Hid (Stk w1 g (pushF st n0 (fun k => A + k / P * (D + P) + D + k % P) dep ((i + 1) * P)) (n0 + (i + 1) * P)) := by
        have ea : (i + 1) * P = i * P + P := by rw [Nat.add_mul, Nat.one_mul]
        rw [ea, ← pushF_add st n0 (fun k => A + k / P * (D + P) + D + k % P) dep (i * P) P (fun k => A + i * (D + P) + D + k) (fun j hj => ?_), ← Nat.add_assoc]
        · exact hS1
        · show A + i * (D + P) + D + j = A + (i * P + j) / P * (D + P) + D + (i * P + j) % P
          rw [Nat.add_comm (i * P) j, Nat.add_mul_div_right _ _ hP0, Nat.div_eq_of_lt hj, Nat.zero_add, Nat.add_mul_mod_self_right, Nat.mod_eq_of_lt hj]
      have HW1 : Hid _ := hW1
      clear hS1 hW1
      go_wp2_with fail
      have eD := HD.out
      go_roundg (gk - 1)
      case rel =>
        refine ⟨i + 1, by omega, ?_, HW.out.trans HW1.out, hS3.out⟩
        simp only [Value.int.injEq, true_and, IntKind.wrap_u16]; omega
      case measure => omega
end Go.Proofs.Ygcfah
