/- Frames that leave one block open. -/
import Derived.Test.YgcfahWideS
namespace Go.Proofs.Ygcfah
open Go.RowKit
set_option linter.unusedVariables false

/-- Of the blocks that were there only X may have turned. -/
structure Off (X : Nat) (w w' : World) : Prop where
  os : w'.os = w.os
  tape : w'.tape = w.tape
  output : w'.output = w.output
  size : w.heap.size ≤ w'.heap.size
  block : ∀ k, k < w.heap.size → k ≠ X → w'.heap[k]? = w.heap[k]?

theorem Off.refl (X : Nat) (w : World) : Off X w w := ⟨rfl, rfl, rfl, Nat.le_refl _, fun _ _ _ => rfl⟩
theorem Off.trans {X : Nat} {a b c : World} (h : Off X a b) (k : Off X b c) : Off X a c :=
  ⟨k.os.trans h.os, k.tape.trans h.tape, k.output.trans h.output, Nat.le_trans h.size k.size, fun i hi hx => (k.block i (Nat.lt_of_lt_of_le hi h.size) hx).trans (h.block i hi hx)⟩
theorem Off.of_below {X : Nat} {w w' : World} (h : Below w.heap.size w w') : Off X w w' := ⟨h.os, h.tape, h.output, h.size, fun k hk _ => h.block k hk⟩
theorem Off.drewN {X : Nat} {a w : World} (h : Off X a w) (n : Nat) : Off X a (w.drewN n) := ⟨h.os, h.tape, h.output, h.size, h.block⟩
theorem Off.drew {X : Nat} {a w : World} (h : Off X a w) : Off X a w.drew := ⟨h.os, h.tape, h.output, h.size, h.block⟩
theorem Off.alloc {X : Nat} {a w : World} (h : Off X a w) (o : Obj) : Off X a (w.alloc o) :=
  h.trans (Off.of_below (below_alloc (Below.refl _ _) (Nat.le_refl _) o))
theorem Off.setCell {X : Nat} {a w : World} (h : Off X a w) {p : Addr} (hp : p.block = X) (v : Value) : Off X a (w.setCell p v) :=
  h.trans ⟨rfl, rfl, rfl, by simp [World.setCell], fun k hk hx => Below.heap_setCell _ _ _ _ (by omega)⟩
/-- A store into a block that was not there. -/
theorem Off.setNew {X : Nat} {a w : World} (h : Off X a w) {p : Addr} (hp : a.heap.size ≤ p.block) (v : Value) : Off X a (w.setCell p v) :=
  ⟨h.os, h.tape, h.output, Nat.le_trans h.size (by simp [World.setCell]), fun k hk hx => (Below.heap_setCell _ _ _ _ (by omega)).trans (h.block k hk hx)⟩
theorem Off.below {X N : Nat} {w w' : World} (h : Off X w w') (hX : N ≤ X) (hN : N ≤ w.heap.size) : Below N w w' :=
  ⟨h.os, h.tape, h.output, h.size, fun k hk => h.block k (by omega) (by omega)⟩
theorem Off.cell {X : Nat} {w w' : World} (h : Off X w w') {b o : Nat} (hb : b < w.heap.size) (hx : b ≠ X) : w'.cell? ⟨b, o, none⟩ = w.cell? ⟨b, o, none⟩ :=
  World.cell?_of_block (w := w) (a := ⟨b, o, none⟩) (h.block b hb hx)
theorem Off.frozen {X : Nat} {w w' : World} (h : Off X w w') {b o : Nat} (hb : b < w.heap.size) (hx : b ≠ X) : w'.frozen? ⟨b, o, none⟩ = w.frozen? ⟨b, o, none⟩ :=
  World.frozen?_of_block (w := w) (a := ⟨b, o, none⟩) (h.block b hb hx)
theorem Row.off {w w' : World} {b off X : Nat} {n : Int} {z : Int → Int} (h : Row w b off n z) (ho : Off X w w') (hB : b < w.heap.size) (hx : b ≠ X) : Row w' b off n z := by
  intro i h0 h1
  have := h i h0 h1
  exact ⟨(ho.cell hB hx).trans this.1, this.2⟩
end Go.Proofs.Ygcfah
