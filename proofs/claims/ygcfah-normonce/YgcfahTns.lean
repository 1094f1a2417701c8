/- What tree.Norm returns, in full. -/
import Derived.Test.YgcfahTnn
import Derived.Test.YgcfahTrp
namespace Go.Proofs.Ygcfah
open Go.RowKit
set_option linter.unusedVariables false
set_option linter.unusedSimpArgs false
/-- A new tree, the value of nd below r, with all that is known of it. -/
inductive NormRes2 (n : Nat) (nd : Nat → NodeC) (r : Nat) (w' : World) : Ending → Prop where
  | mk (ub vb m ucap : Nat) (nu : Nat → NodeC) (src sD sP gD gP : Nat → Nat) (el : Nat → Bool) : m ≤ 512 → m = cnr nd r → Out n nd r m m m src sD sP gD gP el nu →
      w'.cell? ⟨ub, 0, none⟩ = some (.slice (some ⟨vb, 0, none⟩) m ucap) → w'.cell? ⟨ub, 1, none⟩ = some (.int .i16 0) → NCells w' vb 0 m nu → NormRes2 n nd r w' (.returned (.pointer (some ⟨ub, 0, none⟩)))
def NormSays2 (tb b off n cap : Nat) (nd : Nat → NodeC) (r : Nat) : Prop :=
  ∀ w : World, w.cell? ⟨tb, 0, none⟩ = some (.slice (some ⟨b, off, none⟩) n cap) → w.cell? ⟨tb, 1, none⟩ = some (.int .i16 (r : Nat)) → NCells w b off n nd → CheckP n (r : Nat) nd →
    Calls Fahg.prog 25 #[.pointer (some ⟨tb, 0, none⟩)] w fun e w' => NormRes2 n nd r w' e ∧ Below w.heap.size w w'
theorem NormSays2.says {tb b off n cap : Nat} {nd : Nat → NodeC} {r : Nat} (h : NormSays2 tb b off n cap nd r) : NormSays tb b off n cap nd r := by
  intro w h0 h1 hr hC
  have hT : Tok n nd := ⟨fun x hx => (hC.2.1 x hx).1, fun x hx => (hC.2.1 x hx).2⟩
  refine Calls.mono (h w h0 h1 hr hC) ?_
  rintro e w' ⟨hres, hb⟩
  refine ⟨?_, hb⟩
  cases hres with
  | mk ub vb m ucap nu src sD sP gD gP el hm hmc hO c0 c1 hN => exact .mk ub vb m ucap nu src el hm hO.N0 (normOf_of hT hO.pn) hO.r0 hO.e0 hmc c0 c1 hN
end Go.Proofs.Ygcfah
