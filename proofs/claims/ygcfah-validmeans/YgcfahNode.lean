/- The node of a resolved pointer. -/
import Derived.Test.YgcfahKids
namespace Go.Proofs.Ygcfah
open Go.RowKit
set_option linter.unusedVariables false
set_option linter.unusedSimpArgs false
theorem shape_node (z : Int → Int) {size : Nat} {p : WP} (hs : size ≤ 256) (h : Shape size p) :
    (((nodeOf z p).lo : Int) = if p.code = 7 then p.at_ - 1 else p.at_) ∧ (((nodeOf z p).n : Int) = p.words) ∧ ((nodeOf z p).n = 0 ∨ (nodeOf z p).lo + (nodeOf z p).n ≤ size) ∧ (nodeOf z p).kids.length ≤ (nodeOf z p).n ∧ (∀ k ∈ (nodeOf z p).kids, k < size) := by
  have hk := kid_in h
  have hkids : (nodeOf z p).kids.length = kidN p := by simp [nodeOf]
  have hmem : ∀ k ∈ (nodeOf z p).kids, k < size := by
    intro k hk'
    simp only [nodeOf, List.mem_map, List.mem_range] at hk'
    obtain ⟨j, hj, rfl⟩ := hk'
    exact hk.1 j hj
  have hn0 : 0 ≤ p.words := by
    cases h with
    | struct A D P hD hP hb h1 hw => rw [hw]; omega
    | list A c C W hc hC hW hb h1 hw => rw [hw]; omega
    | structs A D P C hD hP hC hA hb hw => rw [hw]; omega
  have hn : ((nodeOf z p).n : Int) = p.words := by simp only [nodeOf]; omega
  refine ⟨?_, hn, ?_, by rw [hkids]; omega, hmem⟩
  · cases h with
    | struct A D P hD hP hb h1 hw => simp [nodeOf]
    | list A c C W hc hC hW hb h1 hw => simp only [nodeOf]; rw [if_neg (by omega)]; simp
    | structs A D P C hD hP hC hA hb hw => simp [nodeOf]; omega
  · cases h with
    | struct A D P hD hP hb h1 hw => right; rw [hw] at hn; simp [nodeOf] at hn ⊢; omega
    | list A c C W hc hC hW hb h1 hw => right; rw [hw] at hn; simp only [nodeOf] at hn ⊢; rw [if_neg (by omega)]; omega
    | structs A D P C hD hP hC hA hb hw =>
      right
      rw [hw] at hn
      generalize C * (D + P) = t at *
      simp [nodeOf] at hn ⊢; omega
end Go.Proofs.Ygcfah
