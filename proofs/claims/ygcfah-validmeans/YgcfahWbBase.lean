/- Small facts for law.WideBits. -/
import Derived.Test.YgcfahWideV
import Derived.Deep.RegionHeld3
import Derived.RowKit3
namespace Go.Proofs.Ygcfah
open Go.RowKit
set_option linter.unusedVariables false
attribute [local go_sem] setCell_drewN alloc_drewN

theorem below_of_new {w w3 : World} (h : ∃ c nq, w3 = (w.alloc (.cells c 78)).drewN nq) : Below w.heap.size w w3 := by
  obtain ⟨c, nq, rfl⟩ := h; exact below_drewN' (below_alloc (Below.refl _ _) (Nat.le_refl _) _) _
theorem Row.below {w w' : World} {b off : Nat} {n : Int} {z : Int → Int} (h : Row w b off n z) {B : Nat} (hb : Below B w w') (hB : b < B) : Row w' b off n z := by
  intro i h0 h1
  have := h i h0 h1
  exact ⟨(hb.cell (p := ⟨b, off + i.toNat, none⟩) hB).trans this.1, this.2⟩

/-- The ways through the law's own reckoning of the cost. -/
theorem cost_ways (q1 q2 q3 q4 q5 q6 : Int) (hq : WP.ok ⟨q1, q2, q3, q4, q5, q6⟩) (hk : (q1 == 0) = false) (m c : Int) (hm : m = wWords q1 q3 q4 q5 q6) (hc : c = wCost ⟨q1, q2, q3, q4, q5, q6⟩) :
    ((((q1 == 2) = true ∧ (q5 == 0) = true) ∨ ((q1 == 2) = true ∧ (q5 == 0) = false ∧ (q5 == 7) = true ∧ (q3 == 0) = true ∧ (q4 == 0) = true)) ∧
      ((q6 ≤ 1073741824 ∧ (m + q6 == 0) = true ∧ c = 1) ∨ (q6 ≤ 1073741824 ∧ (m + q6 == 0) = false ∧ c = m + q6) ∨ (1073741824 < q6 ∧ (m + 1073741824 == 0) = false ∧ c = m + 1073741824))) ∨
    (((q1 == 2) = false ∨ ((q1 == 2) = true ∧ (q5 == 0) = false ∧ (q5 == 7) = false) ∨ ((q1 == 2) = true ∧ (q5 == 0) = false ∧ (q5 == 7) = true ∧ (q3 == 0) = false) ∨ ((q1 == 2) = true ∧ (q5 == 0) = false ∧ (q5 == 7) = true ∧ (q3 == 0) = true ∧ (q4 == 0) = false)) ∧
      (((m == 0) = true ∧ c = 1) ∨ ((m == 0) = false ∧ c = m))) := by
  have bw := wWords_bd q1 q3 q4 q5 q6 hq.d0 hq.p0 hq.n0
  have n0 := hq.n0
  simp only [beq_eq_false_iff_ne, beq_iff_eq] at *
  have hP := wCost_plain ⟨q1, q2, q3, q4, q5, q6⟩ hk
  have hM := wCost_many ⟨q1, q2, q3, q4, q5, q6⟩
  simp only [WP.words, ← hm, ← hc] at hP hM
  rw [← hm] at bw
  by_cases hs : q1 = 2 ∧ (q5 = 0 ∨ q5 = 7 ∧ q3 = 0 ∧ q4 = 0)
  · have := hM hs.1 hs.2
    omega
  · have := hP hs
    omega
end Go.Proofs.Ygcfah
