/- vmodel's list of intervals in memory. -/
import Derived.Test.YgcfahGather
import Derived.Test.YgcfahNs
namespace Go.Proofs.Ygcfah
open Go.RowKit
set_option linter.unusedVariables false
set_option linter.unusedSimpArgs false

def not169 (w : World) (k : Nat) : Prop := ∀ c f, w.heap[k]? ≠ some (.cells c 169 f)
structure NMst (w : World) (B g : Nat) (S : Nat → Bool) : Prop where
  st : ∃ (s cap : Nat) (cur : Array Value) (seen : List (Nat × Nat)), w.heap[g]? = some (.cells #[.slice (some ⟨s, 0, none⟩) seen.length cap] 170 (0, 0)) ∧ B ≤ s ∧ w.heap[s]? = some (.cells cur 169 (0, 0)) ∧ seen.length ≤ cap ∧ cap ≤ maxLen ∧ cur.size = cap * 2 ∧ cur.toList.take (seen.length * 2) = spanCells seen ∧ SpanOk seen S
/-- What gather and visit leave alone. -/
structure NMv (B g : Nat) (w w' : World) : Prop where
  os : w'.os = w.os
  tape : w'.tape = w.tape
  output : w'.output = w.output
  size : w.heap.size ≤ w'.heap.size
  block : ∀ k, k < w.heap.size → k ≠ g → (k < B ∨ not169 w k) → w'.heap[k]? = w.heap[k]?
theorem NMv.refl (B g : Nat) (w : World) : NMv B g w w := ⟨rfl, rfl, rfl, Nat.le_refl _, fun _ _ _ _ => rfl⟩
theorem NMv.trans {B g : Nat} {a b c : World} (h : NMv B g a b) (k : NMv B g b c) : NMv B g a c := by
  refine ⟨k.os.trans h.os, k.tape.trans h.tape, k.output.trans h.output, Nat.le_trans h.size k.size, fun x h1 h2 h3 => ?_⟩
  have e := h.block x h1 h2 h3
  refine (k.block x (Nat.lt_of_lt_of_le h1 h.size) h2 (h3.imp id fun hn c f => ?_)).trans e
  rw [e]; exact hn c f
theorem NMv.of_below {B g : Nat} {w w' : World} (h : Below w.heap.size w w') : NMv B g w w' := ⟨h.os, h.tape, h.output, h.size, fun k h1 _ _ => h.block k h1⟩
theorem NMv.below {B g : Nat} {w w' : World} (h : NMv B g w w') (hg : B ≤ g) (hB : B ≤ w.heap.size) : Below B w w' := ⟨h.os, h.tape, h.output, h.size, fun k hk => h.block k (by omega) (by omega) (.inl hk)⟩
theorem NMst.lt {w : World} {B g : Nat} {S : Nat → Bool} (h : NMst w B g S) : g < w.heap.size := by
  obtain ⟨s, cap, cur, seen, hg, _⟩ := h.st
  exact (Array.getElem?_eq_some_iff.1 hg).1
theorem NMst.below {w w' : World} {B g : Nat} {S : Nat → Bool} (h : NMst w B g S) (hb : Below w.heap.size w w') : NMst w' B g S := by
  obtain ⟨s, cap, cur, seen, hg, h1, h2, h3⟩ := h.st
  exact ⟨s, cap, cur, seen, (hb.block g (Array.getElem?_eq_some_iff.1 hg).1).trans hg, h1, (hb.block s (Array.getElem?_eq_some_iff.1 h2).1).trans h2, h3⟩
theorem i169a : (Fahg.prog.info? 169).bind (·.zero) = some (.agg #[.int .i64 0, .int .i64 0]) := by kernel_rfl
theorem i169b : (Fahg.prog.info? 169).map (·.size) = some 2 := by kernel_rfl
theorem i169c : (Fahg.prog.info? 169).map (·.bytes) = some 16 := by kernel_rfl
theorem info169 : ∃ i, Fahg.prog.info? 169 = some i ∧ i.zero = some (.agg #[.int .i64 0, .int .i64 0]) ∧ i.size = 2 ∧ i.bytes = 16 := by
  have a := i169a
  have b := i169b
  have c := i169c
  cases hi : Fahg.prog.info? 169 with
  | none => rw [hi] at b; simp at b
  | some i =>
    rw [hi] at a b c
    exact ⟨i, rfl, by simpa using a, by simpa using b, by simpa using c⟩
/-- append(s.seen, span{lo, hi}), whose one element lies in a new block. -/
theorem napp_span (B : Nat) (seen : List (Nat × Nat)) (s cap : Nat) (cur : Array Value) (lo hi : Nat) (w : World) (h1 : B ≤ s) (h2 : w.heap[s]? = some (.cells cur 169 (0, 0))) (h3 : seen.length ≤ cap) (h4 : cap ≤ maxLen) (h5 : cur.size = cap * 2) (h6 : cur.toList.take (seen.length * 2) = spanCells seen) (hlen : seen.length ≤ 256) (hB : B ≤ w.heap.size) :
    ∃ s' cap' cur' w', (Builtin.append_ #[170, 170] 170 #[.slice (some ⟨s, 0, none⟩) seen.length cap, .slice (some ⟨w.heap.size, 0, none⟩) 1 1]).run Fahg.prog (w.alloc (.cells #[.int .i64 lo, .int .i64 hi] 169)) = .ok (.slice (some ⟨s', 0, none⟩) (seen.length + 1) cap') w' ∧
      (w.alloc (.cells #[.int .i64 lo, .int .i64 hi] 169)).grownBy w' (some s) ∧ B ≤ s' ∧ w'.heap[s']? = some (.cells cur' 169 (0, 0)) ∧ seen.length + 1 ≤ cap' ∧ cap' ≤ maxLen ∧ cur'.size = cap' * 2 ∧ cur'.toList.take ((seen.length + 1) * 2) = spanCells (seen ++ [(lo, hi)]) := by
  obtain ⟨i, hi', hz, hsz, hby⟩ := info169
  have hs : s < w.heap.size := (Array.getElem?_eq_some_iff.1 h2).1
  have h2' : (w.alloc (.cells #[.int .i64 lo, .int .i64 hi] 169)).heap[s]? = some (.cells cur 169 (0, 0)) := (heap_alloc_old w _ hs).trans h2
  have hm : (256 : Nat) + 1 ≤ maxLen := by decide
  obtain ⟨v', w', hrun, hown, hgrow, hnil⟩ := run_append_own (P := Fahg.prog) (w.alloc (.cells #[.int .i64 lo, .int .i64 hi] 169)) B 170 170 169 i (.agg #[.int .i64 0, .int .i64 0]) 2 16 Fahg.underlying170 hi' hz hsz hby rfl (by decide) (.slice (some ⟨s, 0, none⟩) seen.length cap) seen.length (spanCells seen) ⟨spanCells_length seen, .inr ⟨s, cap, cur, rfl, by omega, h2', h3, h4, h5, h6⟩⟩ ⟨w.heap.size, 0, none⟩ 1 1
    [.int .i64 lo, .int .i64 hi] rfl (by
      intro j u hj
      rw [show (⟨w.heap.size, 0, none⟩ : Addr).add j = ⟨w.heap.size, j, none⟩ from by unfold Addr.add; split <;> simp_all]
      match j, hj with
      | 0, hj => simp only [List.getElem?_cons_zero, Option.some.injEq] at hj; subst hj; exact World.cell?_alloc_at _ _ _ _ rfl
      | 1, hj => simp only [List.getElem?_cons_succ, List.getElem?_cons_zero, Option.some.injEq] at hj; subst hj; exact World.cell?_alloc_at _ _ _ _ rfl
      | j + 2, hj => simp at hj) (by simp [Value.oneCell']) (by omega) (by omega) (by simp; omega)
  rcases hown with ⟨hlen', ⟨hv, h0⟩ | ⟨g, cap', cur', hv, hg, hh, hc1, hc2, hc3, hc4⟩⟩
  · omega
  · subst hv
    refine ⟨g, cap', cur', w', hrun, hgrow, hg, hh, hc1, hc2, hc3, ?_⟩
    rw [hc4]
    simp [spanCells]
theorem heap_set1 {w : World} {g : Nat} {a : Value} {t : TypeId} (h : w.heap[g]? = some (.cells #[a] t (0, 0))) (v : Value) : (w.setCell ⟨g, 0, none⟩ v).heap[g]? = some (.cells #[v] t (0, 0)) := by
  simp [World.setCell, Array.getElem?_modify, h]
end Go.Proofs.Ygcfah
