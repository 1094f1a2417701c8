/- law.EmptyNil: Open at the frame of the empty text. -/
import Derived.Test.YgcfahEn
import Derived.Deep.AppendSrc
import Derived.Deep.RegionHeld3
import Derived.Laws.Cover3
import Derived.Deep.QuietTactic
namespace Go.Proofs.Ygcfah
open Go.RowKit
set_option linter.unusedVariables false
set_option linter.unusedSimpArgs false
theorem an0 : bits .andNot .u16 0 1 = 0 := by kernel_rfl
theorem an1 : bits .andNot .u16 1 1 = 0 := by kernel_rfl
set_option maxRecDepth 100000 in
set_option maxHeartbeats 4000000 in
theorem open_f (g : Nat) (w : World) (hg : g < w.heap.size) (hc : ∀ o, w.cell? ⟨g, o, none⟩ = #[.int .u8 87, .int .u8 87, .int .u8 86, .int .u8 49, .int .u8 1, .int .u8 0, .int .u8 0, .int .u8 0, .int .u8 0, .int .u8 0, .int .u8 0, .int .u8 0, .int .u8 197, .int .u8 157, .int .u8 28, .int .u8 129][o]?) :
    Calls Fahg.prog 19 #[.slice (some ⟨g, 0, none⟩) 16 16] w fun e w' => e = .returned (.tuple #[.slice none 0 0, .int .u8 0]) ∧ Below w.heap.size w w' := by
  have HH := header_f g w hg hc
  have an := an0
  clear hc
  go_enter Fahg.func19, Fahg.ntmps19
  go_wp2_with fail
  refine Calls.mono HH ?_; rintro e w1 ⟨rfl, hb1⟩
  clear HH
  go_wp2_with fail
  go_quiet ((go_at_call 69; exact Calls.quiet_of_same (sum_empty _ _ _)))
  go_wp2_with fail
  refine (words_f _ _ _).mono ?_; rintro e w2 ⟨rfl, hb2⟩
  have hh : w2.cell? ⟨w1.heap.size, 3, none⟩ = some (.int .u32 0) := by
    rw [hb2.cell (p := ⟨w1.heap.size, 3, none⟩) (by simp)]
    simp [go_sem]
  have hbb : Below w.heap.size w w2 := by
    refine Below.trans ?_ (hb2.mono ?_)
    · exact below_drewN' (below_alloc hb1 (Nat.le_refl _) _) _
    · have := hb1.size; simp; omega
  clear hb2
  go_wp2_with fail
  go_ret2
  exact ⟨rfl, hbb⟩
set_option maxRecDepth 100000 in
set_option maxHeartbeats 4000000 in
theorem open_t (g : Nat) (w : World) (hg : g < w.heap.size) (hc : ∀ o, w.cell? ⟨g, o, none⟩ = #[.int .u8 87, .int .u8 87, .int .u8 86, .int .u8 49, .int .u8 1, .int .u8 0, .int .u8 1, .int .u8 0, .int .u8 0, .int .u8 0, .int .u8 0, .int .u8 0, .int .u8 197, .int .u8 157, .int .u8 28, .int .u8 129][o]?) :
    Calls Fahg.prog 19 #[.slice (some ⟨g, 0, none⟩) 16 16] w fun e w' => e = .returned (.tuple #[.slice none 0 0, .int .u8 0]) ∧ Below w.heap.size w w' := by
  have HH := header_t g w hg hc
  have an := an1
  clear hc
  go_enter Fahg.func19, Fahg.ntmps19
  go_wp2_with fail
  refine Calls.mono HH ?_; rintro e w1 ⟨rfl, hb1⟩
  clear HH
  go_wp2_with fail
  go_quiet ((go_at_call 69; exact Calls.quiet_of_same (sum_empty _ _ _)))
  go_wp2_with fail
  refine (words_t _ _ _).mono ?_; rintro e w2 ⟨rfl, hb2⟩
  have hh : w2.cell? ⟨w1.heap.size, 3, none⟩ = some (.int .u32 0) := by
    rw [hb2.cell (p := ⟨w1.heap.size, 3, none⟩) (by simp)]
    simp [go_sem]
  have hbb : Below w.heap.size w w2 := by
    refine Below.trans ?_ (hb2.mono ?_)
    · exact below_drewN' (below_alloc hb1 (Nat.le_refl _) _) _
    · have := hb1.size; simp; omega
  clear hb2
  go_wp2_with fail
  go_ret2
  exact ⟨rfl, hbb⟩
end Go.Proofs.Ygcfah
