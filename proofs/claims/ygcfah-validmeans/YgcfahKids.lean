/- The kids of an object lie in it. -/
import Derived.Test.YgcfahWkOne
namespace Go.Proofs.Ygcfah
open Go.RowKit
set_option linter.unusedVariables false
set_option linter.unusedSimpArgs false

theorem div_lt_mul (k P C : Nat) (hP : 0 < P) (h : k < C * P) : k / P < C := (Nat.div_lt_iff_lt_mul hP).2 h
theorem kid_structs (A D P C k : Nat) (hP : 0 < P) (h : k < C * P) : A + k / P * (D + P) + D + k % P < A + C * (D + P) := by
  have h1 := div_lt_mul k P C hP h
  have h2 := Nat.mod_lt k hP
  have h3 : (k / P + 1) * (D + P) ≤ C * (D + P) := Nat.mul_le_mul_right _ h1
  rw [Nat.add_mul, Nat.one_mul] at h3
  omega
/-- Of a shaped pointer: how many kids, and where. -/
theorem kid_in {size : Nat} {p : WP} (h : Shape size p) : (∀ k, k < kidN p → kidAt p k < size) ∧ (kidN p : Int) ≤ p.words := by
  cases h with
  | struct A D P hD hP hb h1 hw =>
    refine ⟨fun k hk => ?_, ?_⟩
    · simp [kidN] at hk
      simp [kidAt]; omega
    · rw [hw]; simp [kidN]; omega
  | list A c C W hc hC hW hb h1 hw =>
    rw [hw]
    by_cases k6 : c = 6
    · subst k6
      have : (W : Int) = C := by rw [hW]; simp [elBits]; omega
      refine ⟨fun k hk => ?_, ?_⟩
      · simp [kidN] at hk
        simp [kidAt]; omega
      · simp [kidN]; omega
    · have e : kidN ⟨2, (A : Int), 0, 0, c, C⟩ = 0 := by
        unfold kidN
        rw [if_neg (by simp), if_neg (by simp only []; omega), if_neg (by simp only []; omega)]
      rw [e]
      exact ⟨fun k hk => absurd hk (by omega), by omega⟩
  | structs A D P C hD hP hC hA hb hw =>
    rw [hw]
    by_cases k0 : P = 0
    · subst k0
      have e : kidN ⟨2, (A : Int), D, ((0 : Nat) : Int), 7, C⟩ = 0 := by
        unfold kidN
        rw [if_neg (by simp), if_neg (by simp), if_neg (by simp)]
      rw [e]
      exact ⟨fun k hk => absurd hk (by omega), by omega⟩
    · have e : kidN ⟨2, (A : Int), D, P, 7, C⟩ = C * P := by
        unfold kidN
        rw [if_neg (by simp), if_neg (by simp), if_pos ⟨rfl, by simp only []; omega⟩]
        simp
      rw [e]
      refine ⟨fun k hk => ?_, ?_⟩
      · have := kid_structs A D P C k (by omega) hk
        simp [kidAt]; omega
      · have : C * P ≤ C * (D + P) := Nat.mul_le_mul_left _ (by omega)
        generalize C * P = t at *
        generalize C * (D + P) = u at *
        omega
theorem shape_ok {size : Nat} {p : WP} (hs : size ≤ 256) (h : Shape size p) : p.ok ∧ p.kind ≠ 0 := by
  cases h with
  | struct A D P hD hP hb h1 hw => exact ⟨⟨by simp, by simp, by simp, by simp only []; omega, by simp, by simp only []; omega, by simp, by simp only []; omega, by simp, by simp, by simp, by simp⟩, by simp⟩
  | list A c C W hc hC hW hb h1 hw => exact ⟨⟨by simp, by simp, by simp, by simp only []; omega, by simp, by simp, by simp, by simp, by simp, by simp only []; omega, by simp, by simp only []; omega⟩, by simp⟩
  | structs A D P C hD hP hC hA hb hw => exact ⟨⟨by simp, by simp, by simp, by simp only []; generalize C * (D + P) = t at *; omega, by simp, by simp only []; omega, by simp, by simp only []; omega, by simp, by simp, by simp, by simp only []; omega⟩, by simp⟩
end Go.Proofs.Ygcfah
