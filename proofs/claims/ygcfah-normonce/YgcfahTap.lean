/- append to the nodes of a tree, and to the kids of a node. -/
import Derived.Test.YgcfahTarr
import Derived.Deep.AppendSrc
namespace Go.Proofs.Ygcfah
open Go.ChangeShapes Go.WideShapes Go.ChangeAt Go.RowKit
set_option linter.unusedVariables false
set_option linter.unusedSimpArgs false
theorem i61a : (Fahg.prog.info? 61).bind (·.zero) = some (.agg #[.int .u8 0, .int .u8 0, .slice none 0 0, .slice none 0 0]) := by kernel_rfl
theorem i61b : (Fahg.prog.info? 61).map (·.size) = some 4 := by kernel_rfl
theorem i61c : (Fahg.prog.info? 61).map (·.bytes) = some 56 := by kernel_rfl
theorem info61 : ∃ i, Fahg.prog.info? 61 = some i ∧ i.zero = some (.agg #[.int .u8 0, .int .u8 0, .slice none 0 0, .slice none 0 0]) ∧ i.size = 4 ∧ i.bytes = 56 := by
  have a := i61a
  have b := i61b
  have c := i61c
  cases hi : Fahg.prog.info? 61 with
  | none => rw [hi] at b; simp at b
  | some i =>
    rw [hi] at a b c
    exact ⟨i, rfl, by simpa using a, by simpa using b, by simpa using c⟩
theorem i51a : (Fahg.prog.info? 51).bind (·.zero) = some (.int .i16 0) := by kernel_rfl
theorem i51b : (Fahg.prog.info? 51).map (·.size) = some 1 := by kernel_rfl
theorem i51c : (Fahg.prog.info? 51).map (·.bytes) = some 2 := by kernel_rfl
theorem info51 : ∃ i, Fahg.prog.info? 51 = some i ∧ i.zero = some (.int .i16 0) ∧ i.size = 1 ∧ i.bytes = 2 := by
  have a := i51a
  have b := i51b
  have c := i51c
  cases hi : Fahg.prog.info? 51 with
  | none => rw [hi] at b; simp at b
  | some i =>
    rw [hi] at a b c
    exact ⟨i, rfl, by simpa using a, by simpa using b, by simpa using c⟩
def zeroNode : List Value := [.int .u8 0, .int .u8 0, .slice none 0 0, .slice none 0 0]
theorem alloc_old (w : World) (o : Obj) {s : Nat} (h : s < w.heap.size) : (w.alloc o).heap[s]? = w.heap[s]? := Below.heap_alloc w o s h
/-- append(out.N, Node{}), whose one element lies in a new block. -/
theorem app_node (B N s cap : Nat) (cur : Array Value) (w : World) (L : List Value) (hL : L.length = N * 4) (h1 : B ≤ s) (h2 : w.heap[s]? = some (.cells cur 61 (0, 0))) (h3 : N ≤ cap) (h4 : cap ≤ maxLen) (h5 : cur.size = cap * 4) (h6 : cur.toList.take (N * 4) = L) (hlen : N ≤ 600) (hB : B ≤ w.heap.size) :
    ∃ s' cap' cur' w', (Builtin.append_ #[50, 50] 50 #[.slice (some ⟨s, 0, none⟩) N cap, .slice (some ⟨w.heap.size, 0, none⟩) 1 1]).run Fahg.prog (w.alloc (.cells #[.int .u8 0, .int .u8 0, .slice none 0 0, .slice none 0 0] 61)) = .ok (.slice (some ⟨s', 0, none⟩) (N + 1) cap') w' ∧
      (w.alloc (.cells #[.int .u8 0, .int .u8 0, .slice none 0 0, .slice none 0 0] 61)).grownBy w' (some s) ∧ B ≤ s' ∧ w'.heap[s']? = some (.cells cur' 61 (0, 0)) ∧ N + 1 ≤ cap' ∧ cap' ≤ maxLen ∧ cur'.size = cap' * 4 ∧ cur'.toList.take ((N + 1) * 4) = L ++ zeroNode := by
  obtain ⟨i, hi', hz, hsz, hby⟩ := info61
  have hs : s < w.heap.size := (Array.getElem?_eq_some_iff.1 h2).1
  have h2' : (w.alloc (.cells #[.int .u8 0, .int .u8 0, .slice none 0 0, .slice none 0 0] 61)).heap[s]? = some (.cells cur 61 (0, 0)) := (alloc_old w _ hs).trans h2
  have hm : (600 : Nat) + 1 ≤ maxLen := by decide
  obtain ⟨v', w', hrun, hown, hgrow, hnil⟩ := run_append_own (P := Fahg.prog) (w.alloc (.cells #[.int .u8 0, .int .u8 0, .slice none 0 0, .slice none 0 0] 61)) B 50 50 61 i (.agg #[.int .u8 0, .int .u8 0, .slice none 0 0, .slice none 0 0]) 4 56 Fahg.underlying50 hi' hz hsz hby rfl (by decide) (.slice (some ⟨s, 0, none⟩) N cap) N L ⟨hL, .inr ⟨s, cap, cur, rfl, by omega, h2', h3, h4, h5, h6⟩⟩ ⟨w.heap.size, 0, none⟩ 1 1
    zeroNode rfl (by
      intro j u hj
      rw [show (⟨w.heap.size, 0, none⟩ : Addr).add j = ⟨w.heap.size, j, none⟩ from by unfold Addr.add; split <;> simp_all]
      unfold zeroNode at hj
      match j, hj with
      | 0, hj => simp only [List.getElem?_cons_zero, Option.some.injEq] at hj; subst hj; exact World.cell?_alloc_at _ _ _ _ rfl
      | 1, hj => simp only [List.getElem?_cons_succ, List.getElem?_cons_zero, Option.some.injEq] at hj; subst hj; exact World.cell?_alloc_at _ _ _ _ rfl
      | 2, hj => simp only [List.getElem?_cons_succ, List.getElem?_cons_zero, Option.some.injEq] at hj; subst hj; exact World.cell?_alloc_at _ _ _ _ rfl
      | 3, hj => simp only [List.getElem?_cons_succ, List.getElem?_cons_zero, Option.some.injEq] at hj; subst hj; exact World.cell?_alloc_at _ _ _ _ rfl
      | j + 4, hj => simp at hj) (by simp [zeroNode, Value.oneCell']) (by omega) (by omega) (by simp; omega)
  rcases hown with ⟨hlen', ⟨hv, h0⟩ | ⟨g, cap', cur', hv, hg, hh, hc1, hc2, hc3, hc4⟩⟩
  · omega
  · subst hv
    exact ⟨g, cap', cur', w', hrun, hgrow, hg, hh, hc1, hc2, hc3, hc4⟩
/-- append(m.Kids, k), whose one element lies in a new block; m.Kids is nil at first. -/
theorem app_kid (B N : Nat) (v : Value) (k : Int) (w : World) (L : List Value) (hL : L.length = N * 1) (hv : (v = .slice none 0 0 ∧ N = 0) ∨ ∃ s cap cur, v = .slice (some ⟨s, 0, none⟩) N cap ∧ B ≤ s ∧ w.heap[s]? = some (.cells cur 51 (0, 0)) ∧ N ≤ cap ∧ cap ≤ maxLen ∧ cur.size = cap * 1 ∧ cur.toList.take (N * 1) = L) (hlen : N ≤ 600) (hB : B ≤ w.heap.size) :
    ∃ s' cap' cur' w', (Builtin.append_ #[59, 59] 59 #[v, .slice (some ⟨w.heap.size, 0, none⟩) 1 1]).run Fahg.prog (w.alloc (.cells #[.int .i16 k] 51)) = .ok (.slice (some ⟨s', 0, none⟩) (N + 1) cap') w' ∧
      (w.alloc (.cells #[.int .i16 k] 51)).grownBy w' v.ownBlock ∧ B ≤ s' ∧ w'.heap[s']? = some (.cells cur' 51 (0, 0)) ∧ N + 1 ≤ cap' ∧ cap' ≤ maxLen ∧ cur'.size = cap' * 1 ∧ cur'.toList.take ((N + 1) * 1) = L ++ [.int .i16 k] := by
  obtain ⟨i, hi', hz, hsz, hby⟩ := info51
  have hm : (600 : Nat) + 1 ≤ maxLen := by decide
  obtain ⟨v', w', hrun, hown, hgrow, hnil⟩ := run_append_own (P := Fahg.prog) (w.alloc (.cells #[.int .i16 k] 51)) B 59 59 51 i (.int .i16 0) 1 2 Fahg.underlying59 hi' hz hsz hby rfl (by decide) v N L ⟨hL, by
      rcases hv with ⟨rfl, rfl⟩ | ⟨s, cap, cur, rfl, h1, h2, h3, h4, h5, h6⟩
      · exact .inl ⟨rfl, rfl⟩
      · have hs : s < w.heap.size := (Array.getElem?_eq_some_iff.1 h2).1
        exact .inr ⟨s, cap, cur, rfl, by omega, (alloc_old w _ hs).trans h2, h3, h4, h5, h6⟩⟩ ⟨w.heap.size, 0, none⟩ 1 1
    [.int .i16 k] rfl (by
      intro j u hj
      rw [show (⟨w.heap.size, 0, none⟩ : Addr).add j = ⟨w.heap.size, j, none⟩ from by unfold Addr.add; split <;> simp_all]
      match j, hj with
      | 0, hj => simp only [List.getElem?_cons_zero, Option.some.injEq] at hj; subst hj; exact World.cell?_alloc_at _ _ _ _ rfl
      | j + 1, hj => simp at hj) (by simp [Value.oneCell']) (by omega) (by omega) (by simp; omega)
  rcases hown with ⟨hlen', ⟨hv', h0⟩ | ⟨g, cap', cur', hv', hg, hh, hc1, hc2, hc3, hc4⟩⟩
  · omega
  · subst hv'
    exact ⟨g, cap', cur', w', hrun, hgrow, hg, hh, hc1, hc2, hc3, hc4⟩
end Go.Proofs.Ygcfah
