/- What law.plainWalk returns. -/
import Derived.Test.YgcfahTpc
namespace Go.Proofs.Ygcfah
open Go.RowKit
/-- What plainWalk returns where p is the sum. -/
inductive PwRes (p : Nat) : Ending → Prop where
  | yes : PwRes p (.returned (.tuple #[.int .i64 (wrap64 (p : Nat)), .bool true]))
  | no : 1000 ≤ p → PwRes p (.returned (.tuple #[.int .i64 0, .bool false]))
/-- law.plainWalk walks the tree. -/
def PWalks (tb b off n cap : Nat) (nd : Nat → NodeC) : Prop :=
  ∀ (i : Nat) (w : World), w.cell? ⟨tb, 0, none⟩ = some (.slice (some ⟨b, off, none⟩) n cap) → NCells w b off n nd → i < n →
    Calls Fahg.prog 81 #[.pointer (some ⟨tb, 0, none⟩), .int .i16 (i : Nat), .int .i64 1, .int .i64 20, .bool false] w fun e w' => PwRes (pwr nd i 1 false) e ∧ Below w.heap.size w w'
end Go.Proofs.Ygcfah
