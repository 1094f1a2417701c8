/- tree.Norm of a tree that passes Check: its Check, and its own Norm. -/
import Derived.Test.YgcfahTnw
import Derived.Test.YgcfahUgd
namespace Go.Proofs.Ygcfah
open Go.RowKit
set_option linter.unusedVariables false
set_option linter.unusedSimpArgs false
theorem good_main (tb b off n cap r : Nat) (nd : Nat → NodeC) (w : World) (h0 : w.cell? ⟨tb, 0, none⟩ = some (.slice (some ⟨b, off, none⟩) n cap)) (h1 : w.cell? ⟨tb, 1, none⟩ = some (.int .i16 ((r : Nat) : Int))) (hr : NCells w b off n nd) (hC : CheckP n ((r : Nat) : Int) nd) :
    Calls Fahg.prog 25 #[.pointer (some ⟨tb, 0, none⟩)] w fun e w' => ∃ ub, e = .returned (.pointer (some ⟨ub, 0, none⟩)) ∧ Below w.heap.size w w' ∧ NormGood w' ub := by
  have hT : Tok n nd := ⟨fun x hx => (hC.2.1 x hx).1, fun x hx => (hC.2.1 x hx).2⟩
  refine Calls.mono (norm_main2 tb b off n cap r nd w h0 h1 hr hC) ?_
  rintro e w' ⟨hres, hb⟩
  cases hres with
  | mk ub vb m ucap nu src sD sP gD gP el hm hmc hO c0 c1 hN =>
    have hCN := hO.check hC hm
    have hT2 : Tok m nu := ⟨fun x hx => (hCN.2.1 x hx).1, fun x hx => (hCN.2.1 x hx).2⟩
    have c1' : w'.cell? ⟨ub, 1, none⟩ = some (.int .i16 ((0 : Nat) : Int)) := c1
    refine ⟨ub, rfl, hb, fun w1 hw1 => ?_, fun w1 hw1 => ?_⟩
    · have := check_main ub vb 0 m ucap ((0 : Nat) : Int) nu w1 (Below.kept hw1 c0) (Below.kept hw1 c1') (NCells.below hN hw1) hCN.1
      rw [pB_true hCN] at this
      exact this
    · refine Calls.mono (norm_main2 ub vb 0 m ucap 0 nu w1 (Below.kept hw1 c0) (Below.kept hw1 c1') (NCells.below hN hw1) hCN) ?_
      rintro e w2 ⟨hres2, hb2⟩
      cases hres2 with
      | mk ub2 vb2 m2 ucap2 nu2 src2 sD2 sP2 gD2 gP2 el2 hm2 hmc2 hO2 d0 d1 hN2 =>
        have hCN2 := hO2.check hCN hm2
        have d1' : w2.cell? ⟨ub2, 1, none⟩ = some (.int .i16 ((0 : Nat) : Int)) := d1
        obtain ⟨S, hSim, hS0⟩ := norm_sim hT hT2 hO hO2
        refine ⟨ub2, rfl, hb2, fun w3 hw3 => ?_⟩
        have hw13 : Below w1.heap.size w1 w3 := hb2.trans (hw3.mono hb2.size)
        exact equal_main ub2 vb2 0 m2 ucap2 ub vb 0 m ucap 0 0 nu2 nu src2 S w3 (Below.kept hw3 d0) (Below.kept hw3 d1') (NCells.below hN2 hw3) (Below.kept hw13 (Below.kept hw1 c0)) (Below.kept hw13 (Below.kept hw1 c1')) (NCells.below (NCells.below hN hw1) hw13) hCN2 hCN hSim hS0 hO2.r0
theorem good_null (tb : Nat) (a : Value) (w : World) (h1 : w.cell? ⟨tb, 1, none⟩ = some (.int .i16 (-1))) (hck : Calls Fahg.prog 23 #[.pointer (some ⟨tb, 0, none⟩)] w fun e w' => e = .returned (.bool true) ∧ Below w.heap.size w w') :
    Calls Fahg.prog 25 #[.pointer (some ⟨tb, 0, none⟩)] w fun e w' => ∃ ub, e = .returned (.pointer (some ⟨ub, 0, none⟩)) ∧ Below w.heap.size w w' ∧ NormGood w' ub := by
  refine Calls.mono (norm_null tb a (-1) true w h1 hck (.inr rfl)) ?_
  rintro e w' ⟨hres, hb⟩
  cases hres with
  | mk ub c0 c1 =>
    refine ⟨ub, rfl, hb, fun w1 hw1 => check_zero ub 0 none w1 (Below.kept hw1 c0) (Below.kept hw1 c1), fun w1 hw1 => ?_⟩
    refine Calls.mono (norm_null ub (.slice none 0 0) (-1) true w1 (Below.kept hw1 c1) (check_zero ub 0 none w1 (Below.kept hw1 c0) (Below.kept hw1 c1)) (.inr rfl)) ?_
    rintro e w2 ⟨hres2, hb2⟩
    cases hres2 with
    | mk vb d0 d1 =>
      refine ⟨vb, rfl, hb2, fun w3 hw3 => ?_⟩
      have hw13 : Below w1.heap.size w1 w3 := hb2.trans (hw3.mono hb2.size)
      have k0 := Below.kept hw13 (Below.kept hw1 c0)
      have k1 := Below.kept hw13 (Below.kept hw1 c1)
      exact equal_null vb ub w3 (Below.kept hw3 d1) k1 (check_zero vb 0 none w3 (Below.kept hw3 d0) (Below.kept hw3 d1)) fun w4 hw4 => check_zero ub 0 none w4 (Below.kept hw4 k0) (Below.kept hw4 k1)
end Go.Proofs.Ygcfah
