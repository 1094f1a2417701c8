/- What tree.Norm makes, with no Go in sight. -/
import Derived.Test.YgcfahTcn
import Derived.Test.YgcfahTsd
import Derived.Test.YgcfahTee
import Derived.Test.YgcfahTow
namespace Go.Proofs.Ygcfah
set_option linter.unusedVariables false
set_option linter.unusedSimpArgs false
/-- The elements of the list have the same sections, and no greater than is needed. -/
structure EvenOk (nu : Nat → NodeC) (m : Nat) (x : NodeC) (D P : Nat) : Prop where
  d : D ≤ 8
  p : P ≤ 8
  kid : ∀ j, j < x.kL → 0 ≤ x.kz j ∧ x.kz j < m ∧ (nu (x.kz j).toNat).dL = D ∧ (nu (x.kz j).toNat).kL = P
  z : 0 < x.kL → evD nu x.kz x.kL = 0 → evP nu x.kz x.kL = 0 → D = 1 ∧ P = 0
  nz : ¬(evD nu x.kz x.kL = 0 ∧ evP nu x.kz x.kL = 0) → evD nu x.kz x.kL = D ∧ evP nu x.kz x.kL = P
/-- The tree nu of m nodes is the value of nd; node c comes from node src c, and el c says that it stands in a list of structs. -/
structure NormOf (n : Nat) (nd : Nat → NodeC) (m : Nat) (nu : Nat → NodeC) (src : Nat → Nat) (el : Nat → Bool) : Prop where
  lt : ∀ c, c < m → src c < n
  kind : ∀ c, c < m → (nu c).kind = (nd (src c)).kind
  code : ∀ c, c < m → (nu c).code = (nd (src c)).code
  data : ∀ c, c < m → ∀ k, szw (nd (src c)).dz (nd (src c)).dL k = szw (nu c).dz (nu c).dL k
  list : ∀ c, c < m → (nd (src c)).kind = 2 → (nd (src c)).dL = (nu c).dL ∧ (nd (src c)).kL = (nu c).kL
  trim : ∀ c, c < m → (nd (src c)).kind = 1 → el c = false → trimC 0 (nu c).dz (nu c).dL = (nu c).dL ∧ trimC (-1) (nu c).kz (nu c).kL = (nu c).kL
  even : ∀ c, c < m → inl (nu c) = true → ∃ D P, EvenOk nu m (nu c) D P
  dl : ∀ c, c < m → (nu c).dL ≤ 128
  kl : ∀ c, c < m → (nu c).kL ≤ 128
  kid : ∀ c, c < m → ∀ j, j < (nd (src c)).kL → (nd (src c)).kz j ≠ -1 → j < (nu c).kL ∧ ∃ c', (nu c).kz j = ((c' : Nat) : Int) ∧ c' < m ∧ src c' = ((nd (src c)).kz j).toNat ∧ el c' = inl (nd (src c))
  nokid : ∀ c, c < m → ∀ j, j < (nu c).kL → (j < (nd (src c)).kL → (nd (src c)).kz j = -1) → (nu c).kz j = -1
theorem NormOf.inl_eq {n : Nat} {nd : Nat → NodeC} {m : Nat} {nu : Nat → NodeC} {src : Nat → Nat} {el : Nat → Bool} (h : NormOf n nd m nu src el) {c : Nat} (hc : c < m) : inl (nu c) = inl (nd (src c)) := by
  unfold inl
  rw [h.kind c hc, h.code c hc]
end Go.Proofs.Ygcfah
