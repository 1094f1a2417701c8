/- law.NormOnce: what it asks of Norm and of the swapped tree. -/
import Derived.Test.YgcfahUeq
import Derived.Test.YgcfahUum
namespace Go.Proofs.Ygcfah
open Go.RowKit
set_option linter.unusedVariables false
set_option linter.unusedSimpArgs false
/-- The tree at ub passes Check, and its Norm is Equal to it. -/
def NormGood (w : World) (ub : Nat) : Prop :=
  (∀ w1, Below w.heap.size w w1 → Calls Fahg.prog 23 #[.pointer (some ⟨ub, 0, none⟩)] w1 fun e w' => e = .returned (.bool true) ∧ Below w1.heap.size w1 w') ∧
  (∀ w1, Below w.heap.size w w1 → Calls Fahg.prog 25 #[.pointer (some ⟨ub, 0, none⟩)] w1 fun e w2 => ∃ vb, e = .returned (.pointer (some ⟨vb, 0, none⟩)) ∧ Below w1.heap.size w1 w2 ∧
    ∀ w3, Below w2.heap.size w2 w3 → Calls Fahg.prog 26 #[.pointer (some ⟨vb, 0, none⟩), .pointer (some ⟨ub, 0, none⟩)] w3 fun e w' => e = .returned (.bool true) ∧ Below w3.heap.size w3 w')
/-- Check, Equal of a tree and itself. -/
theorem self_equal (tb b off n cap : Nat) (root : Int) (nd : Nat → NodeC) (w : World) (h0 : w.cell? ⟨tb, 0, none⟩ = some (.slice (some ⟨b, off, none⟩) n cap)) (h1 : w.cell? ⟨tb, 1, none⟩ = some (.int .i16 root)) (hr : NCells w b off n nd) (hC : CheckP n root nd) :
    Calls Fahg.prog 26 #[.pointer (some ⟨tb, 0, none⟩), .pointer (some ⟨tb, 0, none⟩)] w fun e w' => e = .returned (.bool true) ∧ Below w.heap.size w w' := by
  have hT : Tok n nd := ⟨fun x hx => (hC.2.1 x hx).1, fun x hx => (hC.2.1 x hx).2⟩
  have hl := hC.1
  by_cases hroot : root = -1
  · subst hroot
    have hck := fun (w1 : World) (hw : Below w.heap.size w w1) => check_main tb b off n cap (-1) nd w1 (Below.kept hw h0) (Below.kept hw h1) (NCells.below hr hw) hl
    rw [pB_true hC] at hck
    exact equal_null tb tb w h1 h1 (hck w (Below.refl _ _)) hck
  · obtain ⟨r, rfl⟩ : ∃ r : Nat, root = (r : Nat) := ⟨root.toNat, by unfold Lim at hl; omega⟩
    exact equal_main tb b off n cap tb b off n cap r r nd nd (fun c => c) (fun c => c < n) w h0 h1 hr h0 h1 hr hC hC (Sim.refl hT) (by unfold Lim at hl; omega) rfl
/-- The swapped tree. -/
theorem swap_good (tb b off n cap U V kk : Nat) (root : Int) (nd un : Nat → NodeC) (w : World) (h0 : w.cell? ⟨tb, 0, none⟩ = some (.slice (some ⟨b, off, none⟩) n cap)) (h1 : w.cell? ⟨tb, 1, none⟩ = some (.int .i16 root)) (hr : NCells w b off n nd) (hC : CheckP n root nd)
    (g0 : w.cell? ⟨U, 0, none⟩ = some (.slice (some ⟨V, 0, none⟩) n n)) (g1 : w.cell? ⟨U, 1, none⟩ = some (.int .i16 (swI kk root))) (hu : NCells w V 0 n un) (hS : SwOf n nd kk un) (hk : kk + 1 < n) (hno : ∀ j, j < (nd kk).kL → (nd kk).kz j ≠ ((kk : Nat) : Int) + 1) :
    ∀ w1, Below w.heap.size w w1 → (Calls Fahg.prog 23 #[.pointer (some ⟨U, 0, none⟩)] w1 fun e w' => e = .returned (.bool true) ∧ Below w1.heap.size w1 w') ∧ (Calls Fahg.prog 26 #[.pointer (some ⟨tb, 0, none⟩), .pointer (some ⟨U, 0, none⟩)] w1 fun e w' => e = .returned (.bool true) ∧ Below w1.heap.size w1 w') ∧ (Calls Fahg.prog 26 #[.pointer (some ⟨U, 0, none⟩), .pointer (some ⟨tb, 0, none⟩)] w1 fun e w' => e = .returned (.bool true) ∧ Below w1.heap.size w1 w') := by
  have hT : Tok n nd := ⟨fun x hx => (hC.2.1 x hx).1, fun x hx => (hC.2.1 x hx).2⟩
  have hCU := hS.check hC hk hno
  have hl := hC.1
  have hcu := fun (w1 : World) (hw : Below w.heap.size w w1) => check_main U V 0 n n (swI kk root) un w1 (Below.kept hw g0) (Below.kept hw g1) (NCells.below hu hw) hCU.1
  rw [pB_true hCU] at hcu
  intro w1 hw1
  refine ⟨hcu w1 hw1, ?_⟩
  by_cases hroot : root = -1
  · have hct := fun (w2 : World) (hw : Below w1.heap.size w1 w2) => check_main tb b off n cap root nd w2 (Below.kept hw (Below.kept hw1 h0)) (Below.kept hw (Below.kept hw1 h1)) (NCells.below (NCells.below hr hw1) hw) hl
    rw [pB_true hC] at hct
    have hcu2 := fun (w2 : World) (hw : Below w1.heap.size w1 w2) => hcu w2 (hw1.trans (hw.mono hw1.size))
    have h1' := Below.kept hw1 h1
    have g1' := Below.kept hw1 g1
    rw [(swI_null kk root).2 hroot] at g1'
    rw [hroot] at h1'
    exact ⟨equal_null tb U w1 h1' g1' (hct w1 (Below.refl _ _)) hcu2, equal_null U tb w1 g1' h1' (hcu w1 hw1) hct⟩
  · obtain ⟨r, rfl⟩ : ∃ r : Nat, root = (r : Nat) := ⟨root.toNat, by unfold Lim at hl; omega⟩
    rw [swI_nat] at g1 hCU
    have hrn : r < n := by unfold Lim at hl; omega
    exact ⟨equal_main tb b off n cap U V 0 n n r (sw kk r) nd un (sw kk) (fun c => c < n) w1 (Below.kept hw1 h0) (Below.kept hw1 h1) (NCells.below hr hw1) (Below.kept hw1 g0) (Below.kept hw1 g1) (NCells.below hu hw1) hC hCU (hS.sim hT hk) hrn rfl,
      equal_main U V 0 n n tb b off n cap (sw kk r) r un nd (sw kk) (fun c => c < n) w1 (Below.kept hw1 g0) (Below.kept hw1 g1) (NCells.below hu hw1) (Below.kept hw1 h0) (Below.kept hw1 h1) (NCells.below hr hw1) hCU hC (hS.sim2 hT hk) (sw_lt hk hrn) (sw_sw kk r)⟩
end Go.Proofs.Ygcfah
