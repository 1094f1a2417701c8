/- The objects that the shapes make. -/
import Derived.Test.YgcfahPf
import Derived.Test.YgcfahVis
namespace Go.Proofs.Ygcfah
open Go.RowKit
set_option linter.unusedVariables false
set_option linter.unusedSimpArgs false
theorem padN_val (c : Int) (N E : Nat) (h : elBits c = E) : padN c N = ((N * E % 64 : Nat) : Int) := by
  unfold padN
  rw [h, show (N : Int) % 64 * E % 64 = (N : Int) * E % 64 from by rw [Int.mul_emod, Int.emod_emod_of_dvd _ (Int.dvd_refl 64), ← Int.mul_emod]]
  push_cast; rfl
/-- The padding of a list of 1 to 64 bits, as visit's loop finds it. -/
theorem padB_val (z : Int → Int) (A N W x E : Nat) (c : Int) (hc : 1 ≤ c ∧ c ≤ 5) (hE : elBits c = E) (hE1 : 1 ≤ E) (hW : W = (N * E + 63) / 64) (hw : WP.words ⟨2, A, 0, 0, c, N⟩ = (W : Int)) (hx : x < 18446744073709551616) (hx0 : W = 0 → x = 0) (hxc : 0 < W → z ((A + W - 1 : Nat) : Int) = x) :
    padB z ⟨2, A, 0, 0, c, N⟩ = decide (x / 2 ^ (N * E - 64 * (W - 1)) = 0) := by
  unfold padB
  rw [padN_val c N E hE, hw]
  by_cases h0 : N * E % 64 = 0
  · rw [if_neg (by omega)]
    symm
    refine decide_eq_true ?_
    by_cases hW0 : W = 0
    · rw [hx0 hW0, Nat.zero_div]
    · rw [show N * E - 64 * (W - 1) = 64 by omega]; omega
  · have hW0 : 0 < W := by omega
    rw [if_pos ⟨rfl, hc.2, by omega⟩]
    rw [show (A : Int) + W - 1 = ((A + W - 1 : Nat) : Int) by omega, hxc hW0, Int.toNat_natCast, Int.toNat_natCast, show N * E - 64 * (W - 1) = N * E % 64 by omega]
    rw [Bool.eq_iff_iff, beq_iff_eq, decide_eq_true_iff]

theorem node_ext {x y : Node} (h1 : x.lo = y.lo) (h2 : x.n = y.n) (h3 : x.cost = y.cost) (h4 : x.pad = y.pad) (h5 : x.kids = y.kids) : x = y := by
  cases x; cases y; simp_all
theorem node_struct (z : Int → Int) (A D P : Nat) (hw : WP.words ⟨1, A, D, P, 0, 0⟩ = ((D + P : Nat) : Int)) :
    nodeOf z ⟨1, A, D, P, 0, 0⟩ = ⟨A, D + P, max (D + P) 1, true, (List.range P).map fun k => A + D + k⟩ := by
  have hc : wCost ⟨1, A, D, P, 0, 0⟩ = max ((D + P : Nat) : Int) 1 := by rw [wCost_plain _ (by simp) (by simp), hw]
  refine node_ext ?_ ?_ ?_ ?_ ?_
  · simp [nodeOf]
  · simp only [nodeOf]; rw [hw, Int.toNat_natCast]
  · simp only [nodeOf]; rw [hc]; omega
  · simp [nodeOf, padB]
  · simp [nodeOf, kidN, kidAt]
theorem node_ptrs (z : Int → Int) (A C : Nat) (hw : WP.words ⟨2, A, 0, 0, 6, C⟩ = (C : Int)) :
    nodeOf z ⟨2, A, 0, 0, 6, C⟩ = ⟨A, C, max C 1, true, (List.range C).map fun k => A + k⟩ := by
  have hc : wCost ⟨2, A, 0, 0, 6, C⟩ = max (C : Int) 1 := by rw [wCost_plain _ (by simp) (by simp), hw]
  refine node_ext ?_ ?_ ?_ ?_ ?_
  · simp [nodeOf]
  · simp only [nodeOf]; rw [hw, Int.toNat_natCast]
  · simp only [nodeOf]; rw [hc]; omega
  · simp [nodeOf, padB]
  · simp [nodeOf, kidN, kidAt]
theorem node_void (z : Int → Int) (A N : Nat) (hN : N < 536870912) (hw : WP.words ⟨2, A, 0, 0, 0, N⟩ = 0) :
    nodeOf z ⟨2, A, 0, 0, 0, N⟩ = ⟨A, 0, max N 1, true, []⟩ := by
  have hc : wCost ⟨2, A, 0, 0, 0, N⟩ = max (N : Int) 1 := by
    rw [wCost_many _ rfl (.inl rfl), hw]; simp only []; omega
  refine node_ext ?_ ?_ ?_ ?_ ?_
  · simp [nodeOf]
  · simp only [nodeOf]; rw [hw]; rfl
  · simp only [nodeOf]; rw [hc]; omega
  · have : padN 0 (N : Int) = 0 := by simp [padN, elBits]
    simp [nodeOf, padB, this]
  · simp [nodeOf, kidN]
theorem node_zstructs (z : Int → Int) (L N : Nat) (hN : N < 1073741824) (hw : WP.words ⟨2, (L : Int) + 1, 0, 0, 7, N⟩ = 1) :
    nodeOf z ⟨2, (L : Int) + 1, 0, 0, 7, N⟩ = ⟨L, 1, 1 + N, true, []⟩ := by
  have hc : wCost ⟨2, (L : Int) + 1, 0, 0, 7, N⟩ = 1 + N := by
    rw [wCost_many _ rfl (.inr ⟨rfl, rfl, rfl⟩), hw]; simp only []; omega
  refine node_ext ?_ ?_ ?_ ?_ ?_
  · simp [nodeOf]
  · simp only [nodeOf]; rw [hw]; rfl
  · simp only [nodeOf]; rw [hc]; omega
  · simp [nodeOf, padB]
  · simp [nodeOf, kidN]
theorem node_structs (z : Int → Int) (L D P C : Nat) (hDP : 0 < D + P) (hw : WP.words ⟨2, (L : Int) + 1, D, P, 7, C⟩ = ((1 + C * (D + P) : Nat) : Int)) :
    nodeOf z ⟨2, (L : Int) + 1, D, P, 7, C⟩ = ⟨L, 1 + C * (D + P), 1 + C * (D + P), true, (List.range (C * P)).map fun k => L + 1 + k / P * (D + P) + D + k % P⟩ := by
  have hc : wCost ⟨2, (L : Int) + 1, D, P, 7, C⟩ = ((1 + C * (D + P) : Nat) : Int) := by
    rw [wCost_plain _ (by simp) (by simp; omega), hw]
    generalize C * (D + P) = t
    omega
  refine node_ext ?_ ?_ ?_ ?_ ?_
  · simp [nodeOf]
  · simp only [nodeOf]; rw [hw, Int.toNat_natCast]
  · simp only [nodeOf]; rw [hc, Int.toNat_natCast]
  · simp [nodeOf, padB]
  · by_cases hP : P = 0
    · subst hP; simp [nodeOf, kidN]
    · have hP0 : (0 : Int) < P := by omega
      have e : ((L : Int) + 1).toNat = L + 1 := by omega
      have ek : kidN ⟨2, (L : Int) + 1, D, P, 7, C⟩ = C * P := by
        unfold kidN; rw [if_neg (by simp), if_neg (by simp), if_pos ⟨rfl, hP0⟩]; simp
      have ea : kidAt ⟨2, (L : Int) + 1, D, P, 7, C⟩ = fun k => L + 1 + k / P * (D + P) + D + k % P := by
        funext k; unfold kidAt; rw [if_neg (by simp), if_neg (by simp)]; simp only [Int.toNat_natCast, e]
      simp only [nodeOf]; rw [ek, ea]
theorem node_pad (z : Int → Int) (A N W E c : Nat) (hc1 : 1 ≤ c) (hc5 : c ≤ 5) (hw : WP.words ⟨2, A, 0, 0, c, N⟩ = (W : Int)) :
    nodeOf z ⟨2, A, 0, 0, c, N⟩ = ⟨A, W, max W 1, padB z ⟨2, A, 0, 0, c, N⟩, []⟩ := by
  have hc : wCost ⟨2, A, 0, 0, c, N⟩ = max (W : Int) 1 := by rw [wCost_plain _ (by simp) (by simp only []; omega), hw]
  refine node_ext ?_ ?_ ?_ rfl ?_
  · simp only [nodeOf]; rw [if_neg (by omega)]; simp
  · simp only [nodeOf]; rw [hw, Int.toNat_natCast]
  · simp only [nodeOf]; rw [hc]; omega
  · simp only [nodeOf]
    have : kidN ⟨2, A, 0, 0, c, N⟩ = 0 := by
      unfold kidN
      rw [if_neg (by simp), if_neg (by simp only []; omega), if_neg (by simp only []; omega)]
    rw [this]; rfl
end Go.Proofs.Ygcfah
