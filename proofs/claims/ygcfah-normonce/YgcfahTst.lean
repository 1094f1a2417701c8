/- Steps that leave all but some blocks alone. -/
import Derived.Test.YgcfahTarr
import Derived.Deep.AppendSrc
namespace Go.Proofs.Ygcfah
open Go.RowKit
set_option linter.unusedVariables false
set_option linter.unusedSimpArgs false
/-- Of the blocks that were there only those of Ex may have turned. -/
structure Stp (Ex : Nat → Prop) (w w' : World) : Prop where
  os : w'.os = w.os
  tape : w'.tape = w.tape
  output : w'.output = w.output
  size : w.heap.size ≤ w'.heap.size
  block : ∀ k, k < w.heap.size → ¬Ex k → w'.heap[k]? = w.heap[k]?
theorem Stp.refl (Ex : Nat → Prop) (w : World) : Stp Ex w w := ⟨rfl, rfl, rfl, Nat.le_refl _, fun _ _ _ => rfl⟩
theorem Stp.trans {Ex : Nat → Prop} {a b c : World} (h : Stp Ex a b) (k : Stp Ex b c) : Stp Ex a c :=
  ⟨k.os.trans h.os, k.tape.trans h.tape, k.output.trans h.output, Nat.le_trans h.size k.size, fun x h1 h2 => (k.block x (Nat.lt_of_lt_of_le h1 h.size) h2).trans (h.block x h1 h2)⟩
/-- The second step may turn whatever the first has made. -/
theorem Stp.then {Ex Ex2 : Nat → Prop} {a b c : World} (h : Stp Ex a b) (k : Stp Ex2 b c) (he : ∀ x, x < a.heap.size → Ex2 x → Ex x) : Stp Ex a c :=
  ⟨k.os.trans h.os, k.tape.trans h.tape, k.output.trans h.output, Nat.le_trans h.size k.size, fun x h1 h2 => (k.block x (Nat.lt_of_lt_of_le h1 h.size) fun h3 => h2 (he x h1 h3)).trans (h.block x h1 h2)⟩
theorem Stp.mono {Ex Ex2 : Nat → Prop} {a b : World} (h : Stp Ex a b) (he : ∀ x, x < a.heap.size → Ex x → Ex2 x) : Stp Ex2 a b := ⟨h.os, h.tape, h.output, h.size, fun x h1 h2 => h.block x h1 fun h3 => h2 (he x h1 h3)⟩
theorem Stp.of_below {Ex : Nat → Prop} {w w' : World} (h : Below w.heap.size w w') : Stp Ex w w' := ⟨h.os, h.tape, h.output, h.size, fun k hk _ => h.block k hk⟩
theorem Stp.drew {Ex : Nat → Prop} {a w : World} (h : Stp Ex a w) : Stp Ex a w.drew := ⟨h.os, h.tape, h.output, h.size, h.block⟩
theorem Stp.drewN {Ex : Nat → Prop} {a w : World} (h : Stp Ex a w) (n : Nat) : Stp Ex a (w.drewN n) := ⟨h.os, h.tape, h.output, h.size, h.block⟩
theorem Stp.alloc {Ex : Nat → Prop} {a w : World} (h : Stp Ex a w) (o : Obj) : Stp Ex a (w.alloc o) := h.trans (Stp.of_below (below_alloc (Below.refl _ _) (Nat.le_refl _) o))
theorem Stp.setCell {Ex : Nat → Prop} {a w : World} (h : Stp Ex a w) {p : Addr} (hp : p.block < a.heap.size → Ex p.block) (v : Value) : Stp Ex a (w.setCell p v) :=
  ⟨h.os, h.tape, h.output, Nat.le_trans h.size (by simp [World.setCell]), fun k h1 h2 => (Below.heap_setCell _ _ _ _ (fun e => h2 (by rw [e] at h1 ⊢; exact hp h1))).trans (h.block k h1 h2)⟩
theorem Stp.grown {Ex : Nat → Prop} {a w w' : World} {row : Option Nat} (h : Stp Ex a w) (hg : w.grownBy w' row) (hr : ∀ k, row = some k → k < a.heap.size → Ex k) : Stp Ex a w' :=
  ⟨hg.os.trans h.os, hg.tape.trans h.tape, hg.output.trans h.output, Nat.le_trans h.size hg.size, fun k h1 h2 => (hg.block k (Nat.lt_of_lt_of_le h1 h.size) (fun e => h2 (hr k e.symm h1))).trans (h.block k h1 h2)⟩
theorem Stp.below {Ex : Nat → Prop} {w w' : World} {B : Nat} (h : Stp Ex w w') (hB : B ≤ w.heap.size) (he : ∀ k, Ex k → B ≤ k) : Below B w w' :=
  ⟨h.os, h.tape, h.output, h.size, fun k hk => h.block k (by omega) fun h3 => by have := he k h3; omega⟩
theorem Stp.cell {Ex : Nat → Prop} {w w' : World} (h : Stp Ex w w') {p : Addr} {v : Value} (hp : ¬Ex p.block) (hc : w.cell? p = some v) : w'.cell? p = some v :=
  (World.cell?_of_block (w := w) (h.block p.block (World.block_lt_of_cell? w p hc) hp)).trans hc
theorem Stp.arr {Ex : Nat → Prop} {w w' : World} (h : Stp Ex w w') {g m : Nat} {f : Nat → Value} (hg : ¬Ex g) (ha : Arr w g m f) : Arr w' g m f :=
  ⟨fun k hk => h.cell hg (ha.c k hk), fun k hk => (World.frozen?_of_block (w := w) (h.block g (World.block_lt_of_cell? w _ (ha.c k hk)) hg)).trans (ha.z k hk)⟩
theorem Stp.irow {Ex : Nat → Prop} {w w' : World} (h : Stp Ex w w') {k : IntKind} {a : Option Addr} {n : Nat} {z : Nat → Int} (hg : ∀ x, a = some x → ¬Ex x.block) (ha : IRow w k a n z) : IRow w' k a n z := by
  rcases ha with h0 | ⟨b, off, e, hc⟩
  · exact .inl h0
  · exact .inr ⟨b, off, e, fun i hi => ⟨h.cell (p := ⟨b, off + i, none⟩) (hg ⟨b, off, none⟩ e) (hc i hi).1, (hc i hi).2⟩⟩
theorem Stp.node {Ex : Nat → Prop} {w w' : World} (h : Stp Ex w w') {nd : NodeC} (hd : ∀ x, nd.dA = some x → ¬Ex x.block) (hk : ∀ x, nd.kA = some x → ¬Ex x.block) (ha : NodeOk w nd) : NodeOk w' nd :=
  ⟨ha.k, ha.c, ha.dl, ha.kl, ha.dm, ha.km, ha.dn, ha.kn, h.irow hd ha.d, h.irow hk ha.i⟩
/-- Cells of a block whose content is known. -/
theorem cell_of_heap {w : World} {g : Nat} {C : Array Value} {t : TypeId} {i : Nat} {v : Value} (h : w.heap[g]? = some (.cells C t (0, 0))) (hi : C[i]? = some v) : w.cell? ⟨g, i, none⟩ = some v := by
  simp only [World.cell?, h]
  simpa using hi
theorem heap_set {w : World} {g : Nat} {C : Array Value} {t : TypeId} (h : w.heap[g]? = some (.cells C t (0, 0))) (i : Nat) (v : Value) : (w.setCell ⟨g, i, none⟩ v).heap[g]? = some (.cells (C.setIfInBounds i v) t (0, 0)) := by
  simp [World.setCell, Array.getElem?_modify, h]
theorem heap_far {w : World} {g : Nat} {p : Addr} (hp : g ≠ p.block) (v : Value) : (w.setCell p v).heap[g]? = w.heap[g]? := Below.heap_setCell _ _ _ _ hp
theorem frozen_of_heap {w : World} {g : Nat} {C : Array Value} {t : TypeId} (h : w.heap[g]? = some (.cells C t (0, 0))) (i : Nat) : w.frozen? ⟨g, i, none⟩ = false := by
  simp [World.frozen?, h]
end Go.Proofs.Ygcfah
