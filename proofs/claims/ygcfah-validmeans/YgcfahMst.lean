/- wmodel.state in memory. -/
import Derived.Test.YgcfahVis
import Derived.Laws.AppendOwn
namespace Go.Proofs.Ygcfah
open Go.RowKit
set_option linter.unusedVariables false
set_option linter.unusedSimpArgs false

def spanCells (l : List (Nat × Nat)) : List Value := l.flatMap fun o => [.int .i64 o.1, .int .i64 o.2]
theorem spanCells_length (l : List (Nat × Nat)) : (spanCells l).length = l.length * 2 := by
  induction l with
  | nil => rfl
  | cons a l ih => simp only [spanCells, List.flatMap_cons, List.length_append, List.length_cons, List.length_nil] at ih ⊢; omega
theorem spanCells_get (l : List (Nat × Nat)) : ∀ i (h : i < l.length), (spanCells l)[i * 2]? = some (.int .i64 l[i].1) ∧ (spanCells l)[i * 2 + 1]? = some (.int .i64 l[i].2) := by
  induction l with
  | nil => intro i h; simp at h
  | cons a l ih =>
    intro i h
    cases i with
    | zero => exact ⟨rfl, rfl⟩
    | succ i =>
      have := ih i (by simpa using h)
      rw [show (i + 1) * 2 = i * 2 + 2 by omega]
      exact this

def In (i : Nat) (o : Nat × Nat) : Bool := decide (o.1 ≤ i) && decide (i < o.2)
/-- The intervals are those of the set S. -/
structure SpanOk (seen : List (Nat × Nat)) (S : Nat → Bool) : Prop where
  ok : ∀ o ∈ seen, o.1 < o.2 ∧ o.2 ≤ 256
  s : ∀ i, S i = seen.any (In i)
  n : seen.length + cnt S 256 ≤ 256
def hit (lo n : Nat) (o : Nat × Nat) : Bool := decide (0 < n) && decide (lo < o.2) && decide (o.1 < lo + n)
theorem hit_free {seen : List (Nat × Nat)} {S : Nat → Bool} (h : SpanOk seen S) (lo n : Nat) : free S lo n = !(seen.any (hit lo n)) := by
  rw [Bool.eq_iff_iff, free_iff, Bool.not_eq_true', List.any_eq_false]
  constructor
  · intro hf o ho hh
    simp only [hit, Bool.and_eq_true, decide_eq_true_eq] at hh
    have hok := h.ok o ho
    have hx := hf (max lo o.1) (by omega) (by omega)
    rw [h.s, List.any_eq_false] at hx
    exact hx o ho (by simp only [In, Bool.and_eq_true, decide_eq_true_eq]; omega)
  · intro hf i h1 h2
    rw [h.s, List.any_eq_false]
    intro o ho hi
    simp only [In, Bool.and_eq_true, decide_eq_true_eq] at hi
    exact hf o ho (by simp only [hit, Bool.and_eq_true, decide_eq_true_eq]; omega)
theorem SpanOk.join {seen : List (Nat × Nat)} {S : Nat → Bool} (h : SpanOk seen S) {lo n : Nat} (hn : 0 < n) (hb : lo + n ≤ 256) (hf : free S lo n = true) : SpanOk (seen ++ [(lo, lo + n)]) (join S lo n) := by
  have hc := cnt_join256 S lo n hf (.inr hb)
  have := h.n
  refine ⟨?_, ?_, ?_⟩
  · intro o ho
    rcases List.mem_append.1 ho with ho | ho
    · exact h.ok o ho
    · simp only [List.mem_cons, List.not_mem_nil, or_false] at ho
      subst ho
      exact ⟨by simp only []; omega, hb⟩
  · intro i
    rw [List.any_append, ← h.s]
    simp [Ygcfah.join, In]
  · simp only [List.length_append, List.length_cons, List.length_nil]; omega

def not207 (w : World) (k : Nat) : Prop := ∀ c f, w.heap[k]? ≠ some (.cells c 207 f)
structure Mst (w : World) (B g : Nat) (S : Nat → Bool) (cost : Nat) : Prop where
  st : ∃ (s cap : Nat) (cur : Array Value) (seen : List (Nat × Nat)), w.heap[g]? = some (.cells #[.slice (some ⟨s, 0, none⟩) seen.length cap, .int .u64 ((cost % 18446744073709551616 : Nat) : Int)] 210 (0, 0)) ∧ B ≤ s ∧ w.heap[s]? = some (.cells cur 207 (0, 0)) ∧ seen.length ≤ cap ∧ cap ≤ maxLen ∧ cur.size = cap * 2 ∧ cur.toList.take (seen.length * 2) = spanCells seen ∧ SpanOk seen S
/-- What gather and visit leave alone. -/
structure Mv (B g : Nat) (w w' : World) : Prop where
  os : w'.os = w.os
  tape : w'.tape = w.tape
  output : w'.output = w.output
  size : w.heap.size ≤ w'.heap.size
  block : ∀ k, k < w.heap.size → k ≠ g → (k < B ∨ not207 w k) → w'.heap[k]? = w.heap[k]?
theorem Mv.refl (B g : Nat) (w : World) : Mv B g w w := ⟨rfl, rfl, rfl, Nat.le_refl _, fun _ _ _ _ => rfl⟩
theorem Mv.trans {B g : Nat} {a b c : World} (h : Mv B g a b) (k : Mv B g b c) : Mv B g a c := by
  refine ⟨k.os.trans h.os, k.tape.trans h.tape, k.output.trans h.output, Nat.le_trans h.size k.size, fun x h1 h2 h3 => ?_⟩
  have e := h.block x h1 h2 h3
  refine (k.block x (Nat.lt_of_lt_of_le h1 h.size) h2 (h3.imp id fun hn c f => ?_)).trans e
  rw [e]; exact hn c f
theorem Mv.of_below {B g : Nat} {w w' : World} (h : Below w.heap.size w w') : Mv B g w w' := ⟨h.os, h.tape, h.output, h.size, fun k h1 _ _ => h.block k h1⟩
theorem Mv.below {B g : Nat} {w w' : World} (h : Mv B g w w') (hg : B ≤ g) (hB : B ≤ w.heap.size) : Below B w w' := ⟨h.os, h.tape, h.output, h.size, fun k hk => h.block k (by omega) (by omega) (.inl hk)⟩
theorem Mst.lt {w : World} {B g : Nat} {S : Nat → Bool} {cost : Nat} (h : Mst w B g S cost) : g < w.heap.size := by
  obtain ⟨s, cap, cur, seen, hg, _⟩ := h.st
  exact (Array.getElem?_eq_some_iff.1 hg).1
theorem Mst.below {w w' : World} {B g : Nat} {S : Nat → Bool} {cost : Nat} (h : Mst w B g S cost) (hb : Below w.heap.size w w') : Mst w' B g S cost := by
  obtain ⟨s, cap, cur, seen, hg, h1, h2, h3⟩ := h.st
  exact ⟨s, cap, cur, seen, (hb.block g (Array.getElem?_eq_some_iff.1 hg).1).trans hg, h1, (hb.block s (Array.getElem?_eq_some_iff.1 h2).1).trans h2, h3⟩
theorem heap_set2 {w : World} {g : Nat} {a b : Value} {t : TypeId} (h : w.heap[g]? = some (.cells #[a, b] t (0, 0))) (v : Value) : (w.setCell ⟨g, 0, none⟩ v).heap[g]? = some (.cells #[v, b] t (0, 0)) ∧ (w.setCell ⟨g, 1, none⟩ v).heap[g]? = some (.cells #[a, v] t (0, 0)) := by
  simp [World.setCell, Array.getElem?_modify, h]
theorem heap_set_other {w : World} {p : Addr} {k : Nat} (v : Value) (h : k ≠ p.block) : (w.setCell p v).heap[k]? = w.heap[k]? := by
  simp [World.setCell, Array.getElem?_modify, Ne.symm h]
theorem cell_heap {w : World} {g o : Nat} {c : Array Value} {t : TypeId} {f : Nat × Nat} (h : w.heap[g]? = some (.cells c t f)) : w.cell? ⟨g, o, none⟩ = c[o]? := by simp [World.cell?, h]
theorem frozen_heap {w : World} {g o : Nat} {c : Array Value} {t : TypeId} (h : w.heap[g]? = some (.cells c t (0, 0))) : w.frozen? ⟨g, o, none⟩ = false := by simp [World.frozen?, h]
end Go.Proofs.Ygcfah
