/- tree.sized. -/
import Derived.Test.YgcfahTarr
import Derived.Deep.OwnRows
import Derived.Laws.IdiomCopy
namespace Go.Proofs.Ygcfah
open Go.ChangeShapes Go.WideShapes Go.ChangeAt Go.RowKit
set_option linter.unusedVariables false
set_option linter.unusedSimpArgs false
theorem inf67m : (Fahg.prog.info? 67).map (fun i => (i.zero, i.size, i.bytes)) = some (some (.int .u64 0), 1, 8) := by kernel_rfl
theorem size67 : (Fahg.prog.info? 67).map (·.size) = some 1 := by kernel_rfl
theorem below_setCells' {B : Nat} {a : World} (b : Nat) (hb : B ≤ b) : ∀ (vs : List Value) (o : Nat) {w : World}, Below B a w → Below B a (w.setCells b o vs)
  | [], _, _, h => h
  | v :: r, o, _, h => below_setCells' b hb r (o + 1) (h.setCell (p := ⟨b, o, none⟩) hb v)
/-- The words that sized gives. -/
def szw (z : Nat → Int) (len : Nat) : Nat → Int := fun k => if k < len then z k else 0
theorem made_arr (w : World) (m : Nat) : Arr (w.alloc (.cells (madeCells #[.int .u64 0] m) 67)) w.heap.size m (fun _ => .int .u64 0) := by
  refine arr_new w _ 67 m _ fun k hk => ?_
  have e := toList_madeCells_one (.int .u64 0) m
  rw [← Array.getElem?_toList, e, List.getElem?_replicate, if_pos hk]
theorem copied (w : World) (a : Option Addr) (len cap m : Nat) (z : Nat → Int) (hr : IRow w .u64 a len z) :
    ∃ (w2 : World) (c : Nat), (∀ ty, (Builtin.copy_ #[38, 38] ty #[.slice (some ⟨w.heap.size, 0, none⟩) m m, .slice a len cap]).run Fahg.prog (w.alloc (.cells (madeCells #[.int .u64 0] m) 67)) = .ok (goInt c) w2) ∧ Below w.heap.size w w2 ∧ Arr w2 w.heap.size m (fun k => .int .u64 (szw z len k)) := by
  have hA := made_arr w m
  have hB : Below w.heap.size w (w.alloc (.cells (madeCells #[.int .u64 0] m) 67)) := below_alloc (Below.refl _ _) (Nat.le_refl _) _
  generalize w.alloc (.cells (madeCells #[.int .u64 0] m) 67) = w1 at *
  by_cases h0 : Nat.min len m = 0
  · refine ⟨w1, 0, fun ty => run_copy_none w1 38 38 ty 67 _ a m m len cap Fahg.underlying38 size67 h0, hB, hA.congr fun k hk => ?_⟩
    have : len = 0 := by
      have h1 : len = 0 ∨ m = 0 := by
        rcases Nat.le_total len m with h | h
        · rw [show Nat.min len m = len from Nat.min_eq_left h] at h0; exact .inl h0
        · rw [show Nat.min len m = m from Nat.min_eq_right h] at h0; exact .inr h0
      omega
    simp [szw, this]
  · rcases hr with h | ⟨b, off, rfl, hc⟩
    · exact absurd (by rw [h]; exact Nat.zero_min _) h0
    · have hmin1 : Nat.min len m ≤ len := Nat.min_le_left _ _
      have hmin2 : Nat.min len m ≤ m := Nat.min_le_right _ _
      have hmin3 : Nat.min len m = len ∨ Nat.min len m = m := by
        rcases Nat.le_total len m with h | h
        · exact .inl (Nat.min_eq_left h)
        · exact .inr (Nat.min_eq_right h)
      generalize hq : Nat.min len m = q at *
      have hlen : ((List.range q).map fun k => Value.int .u64 (z k)).length = q := by simp
      have hcell : ∀ j, j < q → (w1.cell? ⟨w.heap.size, 0 + j, none⟩).isSome = true := fun j hj => by rw [Nat.zero_add, hA.c j (by omega)]; rfl
      have run := fun ty => run_copy_cells (P := Fahg.prog) w1 38 38 ty 67 w.heap.size 0 m m ⟨b, off, none⟩ len cap ((List.range q).map fun k => Value.int .u64 (z k)) Fahg.underlying38 size67 (by rw [hlen, ← hq])
        (by
          intro j v hj
          rw [List.getElem?_map] at hj
          obtain ⟨i, hi, rfl⟩ := Option.map_eq_some_iff.1 hj
          obtain ⟨h1, h2⟩ := List.getElem?_eq_some_iff.1 hi
          simp at h1 h2
          subst h2
          rw [add_plain]
          exact Below.kept hB (hc j (by omega)).1)
        (by rw [hlen]; exact hcell)
        (by rw [hlen]; exact fun j hj => by rw [Nat.zero_add]; exact hA.z j (by omega))
        (by
          intro v hv
          obtain ⟨k, _, rfl⟩ := List.mem_map.1 hv
          rfl)
      rw [hlen] at run
      refine ⟨_, q, run, below_setCells' _ (Nat.le_refl _) _ _ hB, ⟨fun k hk => ?_, fun k hk => ?_⟩⟩
      · by_cases hkq : k < q
        · have := World.cell?_setCells_in w.heap.size ((List.range q).map fun k => Value.int .u64 (z k)) 0 w1 (by rw [hlen]; exact hcell) k (by rw [hlen]; exact hkq)
          rw [Nat.zero_add] at this
          rw [this]
          simp [szw]
          omega
        · rw [World.cell?_setCells_out _ _ _ _ _ (fun _ _ => .inr (by simp; omega)), hA.c k hk]
          have : ¬k < len := by omega
          simp [szw, this]
      · rw [World.frozen?_setCells]
        exact hA.z k hk
set_option maxHeartbeats 400000 in
theorem sized_zero (a : Option Addr) (len cap : Nat) (w : World) :
    Calls Fahg.prog 83 #[.slice a len cap, .int .i64 0] w fun e w' => e = .returned (.slice none 0 0) ∧ w' = w := by
  go_enter Fahg.func83, Fahg.ntmps83
  go_wp2_with fail
  go_ret
  exact ⟨rfl, rfl⟩
set_option maxHeartbeats 400000 in
theorem sized_pos (a : Option Addr) (len cap m : Nat) (z : Nat → Int) (w : World) (hr : IRow w .u64 a len z) (hm0 : 0 < m) (hm : m ≤ 128) :
    Calls Fahg.prog 83 #[.slice a len cap, .int .i64 (m : Nat)] w fun e w' => e = .returned (.slice (some ⟨w.heap.size, 0, none⟩) m m) ∧ Below w.heap.size w w' ∧ Arr w' w.heap.size m (fun k => .int .u64 (szw z len k)) := by
  obtain ⟨w2, c, hcp, hB, hA⟩ := copied w a len cap m z hr
  have hmk := run_make_row' (P := Fahg.prog) 38 67 (.int .u64 0) 8 Fahg.underlying38 inf67m rfl .i64 .i64 m (by omega) (by omega)
  have d1 : ((m : Int) == 0) = false := by simp; omega
  have HB : Hid _ := hB
  have HA : Hid _ := hA
  clear hB hA hr
  go_enter Fahg.func83, Fahg.ntmps83
  go_wp2_with fail
  go_ret
  exact ⟨rfl, HB.out, HA.out⟩
end Go.Proofs.Ygcfah
