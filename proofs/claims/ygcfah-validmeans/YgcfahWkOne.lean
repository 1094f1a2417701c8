/- The object of a wide walk, word 0 taken. -/
import Derived.Test.YgcfahWk
namespace Go.Proofs.Ygcfah
open Go.RowKit
set_option linter.unusedVariables false
set_option linter.unusedSimpArgs false

theorem Wlk.set0 {w : World} {g : Nat} {v : Value} {n : Nat} {st : Nat → Nat × Nat} {L : Int} (h : Wlk w g v (fun _ => false) st n L) :
    Wlk (w.setCell ⟨g, 1, none⟩ (.int .u64 1)) g v (fun i => i == 0) st n L := by
  obtain ⟨s, hs, hr⟩ := h.s
  have hc0 : (w.cell? ⟨g, 1 + 0, none⟩).isSome = true := by rw [hs.c 0 (by omega)]; rfl
  have hp : Set4 (w.setCell ⟨g, 1, none⟩ (.int .u64 1)) g 1 (put s 0 1) := hs.put 0 (by omega) 1
  refine ⟨(World.cell?_setCell_other _ _ _ _ (by intro e; injection e; omega)).trans h.a, ⟨_, hp, ⟨fun q hq => ?_, fun i hi => ?_⟩⟩,
    ⟨fun i hi => (World.cell?_setCell_other _ _ _ _ (by intro e; injection e; omega)).trans (h.k.at_ i hi), fun i hi => (World.cell?_setCell_other _ _ _ _ (by intro e; injection e; omega)).trans (h.k.dp i hi), fun j h1 h2 => by simp [go_sem, h.k.f j h1 h2], (World.cell?_setCell_other _ _ _ _ (by intro e; injection e; omega)).trans h.k.n⟩,
    ⟨(World.cell?_setCell_other _ _ _ _ (by intro e; injection e; omega)).trans h.l.c, by simp [go_sem, h.l.f]⟩⟩
  · unfold put; split
    · decide
    · exact hr.lt q hq
  · unfold put
    by_cases k : i / 64 = 0
    · rw [if_pos k]
      have : i % 64 = i := by omega
      rw [this]
      by_cases e : i = 0
      · subst e; rfl
      · have h1 : (2 ^ 1 - 1 : Nat).testBit i = decide (i < 1) := Nat.testBit_two_pow_sub_one 1 i
        rw [show (1 : Nat) = 2 ^ 1 - 1 from rfl, h1]
        simp [e]
    · rw [if_neg k, hr.bit i hi]
      simp; omega
end Go.Proofs.Ygcfah
