/- wide.walk.padded and wide.walk.follow at a resolved pointer. -/
import Derived.Test.YgcfahNode
namespace Go.Proofs.Ygcfah
open Go.RowKit
set_option linter.unusedVariables false
set_option linter.unusedSimpArgs false

theorem padded_shape (g b off len cap : Nat) (z : Int → Int) (p : WP) (hs : Shape len p) (hl : len ≤ 256) (w : World) (hsl : w.cell? ⟨g, 0, none⟩ = some (.slice (some ⟨b, off, none⟩) len cap)) (hz : Row w b off len z) :
    Calls Fahg.prog 108 #[.pointer (some ⟨g, 0, none⟩), WP.val p] w fun e w' => e = .returned (.bool (padB z p)) ∧ Below w.heap.size w w' := by
  have hok := (shape_ok hl hs).1
  cases hs with
  | struct A D P hD hP hb h1 hw =>
    rw [show padB z ⟨1, A, D, P, 0, 0⟩ = true from by simp [padB]]
    exact padded_not g 1 A D P 0 0 w (.inl (by decide))
  | structs A D P C hD hP hC hA hb hw =>
    rw [show padB z ⟨2, A, D, P, 7, C⟩ = true from by simp [padB]]
    exact padded_not g 2 A D P 7 C w (.inr (by decide))
  | list A c C W hc hC hW hb h1 hw =>
    by_cases k5 : 5 < c
    · rw [show padB z ⟨2, A, 0, 0, c, C⟩ = true from by unfold padB; rw [if_neg (by simp only []; omega)]]
      exact padded_not g 2 A 0 0 c C w (.inr (by omega))
    by_cases k0 : padN c C = 0
    · rw [show padB z ⟨2, A, 0, 0, c, C⟩ = true from by unfold padB; rw [if_neg (by simp only []; omega)]]
      exact padded_zero g A 0 0 c C hok w (by omega) k0
    · have hW1 : 1 ≤ W := by
        rcases Nat.eq_zero_or_pos W with e | e
        · exfalso
          apply k0
          have be := elBits_bd (c : Int)
          have e0 : 0 ≤ (C : Int) * elBits c := Int.mul_nonneg (by omega) be.1
          have e1 : (C : Int) * elBits c = 0 := by omega
          unfold padN
          have e2 : (C : Int) % 64 * elBits c % 64 = (C : Int) * elBits c % 64 := by rw [Int.mul_emod, Int.emod_emod_of_dvd _ (Int.dvd_refl 64), ← Int.mul_emod]
          rw [e2, e1]; rfl
        · exact e
      have hcell := hz ((A + W - 1 : Nat) : Int) (by omega) (by omega)
      obtain ⟨x, hx⟩ := Int.eq_ofNat_of_zero_le hcell.2.1
      have hx2 := hcell.2.2
      rw [hx] at hx2 hcell
      have e : padB z ⟨2, A, 0, 0, c, C⟩ = (x / 2 ^ (padN c C).toNat == 0) := by
        unfold padB
        rw [if_pos ⟨rfl, by simp only []; omega, k0⟩, hw]
        simp only []
        rw [show (A : Int) + W - 1 = ((A + W - 1 : Nat) : Int) by omega, hx, Int.toNat_natCast]
      rw [e]
      rw [Int.toNat_natCast] at hcell
      have hw2 : wWords 2 0 0 (c : Int) (C : Int) = W := hw
      exact padded_some g A 0 0 c C hok w (by omega) k0 b off len cap hsl (A + W - 1) (by rw [hw2]; omega) (by omega) hl x (by omega) hcell.1

theorem follow_shape (g : Nat) (len : Nat) (p : WP) (hs : Shape len p) (hl : len ≤ 256) (dep n0 : Nat) (st : Nat → Nat × Nat) (w : World) (hS : Stk w g st n0) (h0 : n0 + kidN p ≤ 256) (h2 : dep ≤ 255) :
    Calls Fahg.prog 109 #[.pointer (some ⟨g, 0, none⟩), WP.val p, .int .u8 dep] w fun e w' => e = .returned (.tuple #[]) ∧ Within g 5 518 w w' ∧ Stk w' g (pushF st n0 (kidAt p) dep (kidN p)) (n0 + kidN p) := by
  have hg : g < w.heap.size := World.block_lt_of_cell? w ⟨g, 517, none⟩ hS.n
  cases hs with
  | struct A D P hD hP hb h1 hw =>
    have e : kidN ⟨1, A, D, P, 0, 0⟩ = P := by simp [kidN]
    have e2 : kidAt ⟨1, A, D, P, 0, 0⟩ = fun k => A + D + k := by funext k; simp [kidAt]
    rw [e] at h0 ⊢
    rw [e2]
    exact wfollow_struct g A D P 0 0 (by omega) (by omega) (by omega) dep n0 st w hS h0 h2
  | list A c C W hc hC hW hb h1 hw =>
    by_cases k6 : c = 6
    · subst k6
      have e : kidN ⟨2, A, 0, 0, ((6 : Nat) : Int), C⟩ = C := by simp [kidN]
      have e2 : kidAt ⟨2, A, 0, 0, ((6 : Nat) : Int), C⟩ = fun k => A + k := by funext k; simp [kidAt]
      rw [e] at h0 ⊢
      rw [e2]
      exact wfollow_ptrs g A C 0 0 (by omega) (by omega) dep n0 st w hS h0 h2
    · have e : kidN ⟨2, A, 0, 0, c, C⟩ = 0 := by
        unfold kidN
        rw [if_neg (by simp), if_neg (by simp only []; omega), if_neg (by simp only []; omega)]
      rw [e, pushF_zero]
      refine (wfollow_none g A 0 0 c C dep w (by simp; omega) (.inl (by simp; omega))).mono ?_
      rintro e w' ⟨rfl, hb⟩
      exact ⟨rfl, .of_below hb hg, hS.below hb⟩
  | structs A D P C hD hP hC hA hb hw =>
    by_cases k0 : P = 0
    · subst k0
      have e : kidN ⟨2, A, D, ((0 : Nat) : Int), 7, C⟩ = 0 := by
        unfold kidN
        rw [if_neg (by simp), if_neg (by simp), if_neg (by simp)]
      rw [e, pushF_zero]
      refine (wfollow_none g A D 0 7 C dep w (by decide) (.inr ⟨rfl, rfl⟩)).mono ?_
      rintro e w' ⟨rfl, hb⟩
      exact ⟨rfl, .of_below hb hg, hS.below hb⟩
    · have e : kidN ⟨2, A, D, P, 7, C⟩ = C * P := by
        unfold kidN
        rw [if_neg (by simp), if_neg (by simp), if_pos ⟨rfl, by simp only []; omega⟩]
        simp
      have e2 : kidAt ⟨2, A, D, P, 7, C⟩ = fun k => A + k / P * (D + P) + D + k % P := by funext k; simp [kidAt]
      rw [e] at h0 ⊢
      rw [e2]
      exact wfollow_structs g A D P C (by omega) (by omega) hD hP dep n0 st w hS h0 h2
end Go.Proofs.Ygcfah
