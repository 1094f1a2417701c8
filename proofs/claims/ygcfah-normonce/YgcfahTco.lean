/- tree.Tree.Check and law.plainCheck outside the limits, and of no nodes. -/
import Derived.Test.YgcfahTpk
namespace Go.Proofs.Ygcfah
open Go.RowKit
set_option linter.unusedVariables false
set_option linter.unusedSimpArgs false
set_option maxRecDepth 100000 in
set_option maxHeartbeats 2000000 in
theorem check_out (tb n cap : Nat) (a : Option Addr) (root : Int) (w : World) (ht : w.cell? ⟨tb, 0, none⟩ = some (.slice a n cap)) (ht2 : w.cell? ⟨tb, 1, none⟩ = some (.int .i16 root)) (hb : -32768 ≤ root ∧ root ≤ 32767) (hlim : ¬Lim n root) :
    Calls Fahg.prog 23 #[.pointer (some ⟨tb, 0, none⟩)] w fun e w' => e = .returned (.bool false) ∧ Below w.heap.size w w' := by
  obtain ⟨hb1, hb2⟩ := hb
  unfold Lim at hlim
  by_cases h1 : (512 : Int) < n
  · have d1 : decide ((512 : Int) < n) = true := by simp; omega
    clear h1 hlim
    go_enter Fahg.func23, Fahg.ntmps23
    go_wp2_with fail
    go_quiet (fail)
    go_wp2_with fail
    go_ret
    exact ⟨rfl, below_drewN' (Below.refl _ _) _⟩
  have d1 : decide ((512 : Int) < n) = false := by simp; omega
  by_cases h2 : root < -1
  · have d2 : decide (root < -1) = true := by simp; omega
    clear h1 h2 hlim
    go_enter Fahg.func23, Fahg.ntmps23
    go_wp2_with fail
    go_quiet (fail)
    go_wp2_with fail
    go_ret
    exact ⟨rfl, below_drewN' (Below.refl _ _) _⟩
  have d2 : decide (root < -1) = false := by simp; omega
  have d3 : decide ((n : Int) ≤ root) = true := by simp; omega
  clear h1 h2 hlim
  go_enter Fahg.func23, Fahg.ntmps23
  go_wp2_with fail
  go_quiet (fail)
  go_wp2_with fail
  go_ret
  exact ⟨rfl, below_drewN' (Below.refl _ _) _⟩
set_option maxRecDepth 100000 in
set_option maxHeartbeats 2000000 in
theorem pcheck_out (tb n cap : Nat) (a : Option Addr) (root : Int) (w : World) (ht : w.cell? ⟨tb, 0, none⟩ = some (.slice a n cap)) (ht2 : w.cell? ⟨tb, 1, none⟩ = some (.int .i16 root)) (hb : -32768 ≤ root ∧ root ≤ 32767) (hlim : ¬Lim n root) :
    Calls Fahg.prog 24 #[.pointer (some ⟨tb, 0, none⟩)] w fun e w' => e = .returned (.bool false) ∧ Below w.heap.size w w' := by
  obtain ⟨hb1, hb2⟩ := hb
  unfold Lim at hlim
  by_cases h1 : (512 : Int) < n
  · have d1 : decide ((512 : Int) < n) = true := by simp; omega
    clear h1 hlim
    go_enter Fahg.func24, Fahg.ntmps24
    go_wp2_with fail
    go_quiet (fail)
    go_wp2_with fail
    go_ret
    exact ⟨rfl, below_drewN' (Below.refl _ _) _⟩
  have d1 : decide ((512 : Int) < n) = false := by simp; omega
  by_cases h2 : root < -1
  · have d2 : decide (root < -1) = true := by simp; omega
    clear h1 h2 hlim
    go_enter Fahg.func24, Fahg.ntmps24
    go_wp2_with fail
    go_quiet (fail)
    go_wp2_with fail
    go_ret
    exact ⟨rfl, below_drewN' (Below.refl _ _) _⟩
  have d2 : decide (root < -1) = false := by simp; omega
  have d3 : decide ((n : Int) ≤ root) = true := by simp; omega
  clear h1 h2 hlim
  go_enter Fahg.func24, Fahg.ntmps24
  go_wp2_with fail
  go_quiet (fail)
  go_wp2_with fail
  go_ret
  exact ⟨rfl, below_drewN' (Below.refl _ _) _⟩
set_option maxRecDepth 100000 in
set_option maxHeartbeats 2000000 in
theorem check_zero (tb cap : Nat) (a : Option Addr) (w : World) (ht : w.cell? ⟨tb, 0, none⟩ = some (.slice a 0 cap)) (ht2 : w.cell? ⟨tb, 1, none⟩ = some (.int .i16 (-1))) :
    Calls Fahg.prog 23 #[.pointer (some ⟨tb, 0, none⟩)] w fun e w' => e = .returned (.bool true) ∧ Below w.heap.size w w' := by
  have htb : tb < w.heap.size := World.block_lt_of_cell? w _ ht
  go_enter Fahg.func23, Fahg.ntmps23
  go_wp2_with fail
  go_quiet (fail)
  have HB0 : Hid (Below w.heap.size w (w.drewN nq)) := below_drewN' (Below.refl _ _) _
  have hsz : (w.drewN nq).heap.size = w.heap.size := rfl
  have y1 : (w.drewN nq).cell? ⟨tb, 0, none⟩ = some (.slice a 0 cap) := ht
  have y2 : (w.drewN nq).cell? ⟨tb, 1, none⟩ = some (.int .i16 (-1)) := ht2
  generalize w.drewN nq = w0 at *
  have htb0 : tb < w0.heap.size := by omega
  go_wp2_with fail
  go_loopg [43] 0 (fun k I wr => I = .int .i64 0 ∧ Hid (Below w.heap.size w wr))
  case atStart => exact ⟨rfl, below_alloc HB0.out (Nat.le_refl _) _⟩
  obtain ⟨rfl, HB⟩ := hrel
  have t2 := Below.kept HB.out ht2
  clear y1 y2 hsz HB0
  go_wp2_with fail
  go_ret
  exact ⟨rfl, HB.out⟩
theorem info3z : (Fahg.prog.info? 3).map (fun i => (i.zero, i.size, i.bytes)) = some (some (.int .i64 0), 1, 8) := by kernel_rfl
set_option maxRecDepth 100000 in
set_option maxHeartbeats 2000000 in
theorem plinks_zero (tb cap : Nat) (a : Option Addr) (w : World) (ht : w.cell? ⟨tb, 0, none⟩ = some (.slice a 0 cap)) :
    Calls Fahg.prog 80 #[.pointer (some ⟨tb, 0, none⟩)] w fun e w' => e = .returned (.bool true) ∧ Below w.heap.size w w' := by
  have htb : tb < w.heap.size := World.block_lt_of_cell? w _ ht
  have hmk := run_make_row' (P := Fahg.prog) 249 3 (.int .i64 0) 8 Fahg.underlying249 info3z rfl .i64 .i64 0 (by omega) (by omega)
  rw [show ((0 : Nat) : Int) = 0 from rfl] at hmk
  go_enter Fahg.func80, Fahg.ntmps80
  go_wp2_with fail
  go_loopg [20] 0 (fun k I wr => I = .int .i64 0 ∧ Hid (Below w.heap.size w wr))
  case atStart => exact ⟨rfl, below_alloc (Below.refl _ _) (Nat.le_refl _) _⟩
  obtain ⟨rfl, HB⟩ := hrel
  go_wp2_with fail
  obtain ⟨W2, hW2⟩ : ∃ W2, W2 = wr := ⟨_, rfl⟩
  subst hW2
  go_loopg [62] 0 (fun k I wx => I = .int .i64 0 ∧ wx = W2)
  case atStart => exact ⟨rfl, rfl⟩
  obtain ⟨rfl, rfl⟩ := hrel
  go_wp2_with fail
  go_ret
  exact ⟨rfl, HB.out⟩
set_option maxRecDepth 100000 in
set_option maxHeartbeats 2000000 in
theorem pcheck_zero (tb cap : Nat) (a : Option Addr) (w : World) (ht : w.cell? ⟨tb, 0, none⟩ = some (.slice a 0 cap)) (ht2 : w.cell? ⟨tb, 1, none⟩ = some (.int .i16 (-1))) :
    Calls Fahg.prog 24 #[.pointer (some ⟨tb, 0, none⟩)] w fun e w' => e = .returned (.bool true) ∧ Below w.heap.size w w' := by
  go_enter Fahg.func24, Fahg.ntmps24
  go_wp2_with fail
  go_quiet (fail)
  have HB0 : Hid (Below w.heap.size w (w.drewN nq)) := below_drewN' (Below.refl _ _) _
  have y1 : (w.drewN nq).cell? ⟨tb, 0, none⟩ = some (.slice a 0 cap) := ht
  have y2 : (w.drewN nq).cell? ⟨tb, 1, none⟩ = some (.int .i16 (-1)) := ht2
  generalize w.drewN nq = w0 at *
  go_wp2_with fail
  go_loopg [37] 0 (fun k I wr => I = .int .i64 0 ∧ Hid (Below w.heap.size w wr))
  case atStart => exact ⟨rfl, HB0⟩
  obtain ⟨rfl, HB⟩ := hrel
  have t1 := Below.kept HB.out ht
  have t2 := Below.kept HB.out ht2
  clear y1 y2 HB0
  go_wp2_with fail
  refine (plinks_zero tb cap a wr t1).mono ?_
  rintro e w1 ⟨rfl, hb1⟩
  have HB1 : Hid (Below w.heap.size w w1) := HB.out.trans (hb1.mono HB.out.size)
  have t3 := Below.kept HB1.out ht2
  clear hb1 t1 t2
  go_wp2_with fail
  go_ret
  exact ⟨rfl, HB1.out⟩
end Go.Proofs.Ygcfah
