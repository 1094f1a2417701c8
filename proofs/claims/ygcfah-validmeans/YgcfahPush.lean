/- wide.walk.push. -/
import Derived.Test.YgcfahClaim
import Derived.Test.YgcfahFollow
namespace Go.Proofs.Ygcfah
open Go.RowKit
set_option linter.unusedVariables false
set_option linter.unusedSimpArgs false

/-- The stack of a walk: the slots, and how many are in use. -/
structure Stk (w : World) (g : Nat) (st : Nat → Nat × Nat) (n : Nat) : Prop where
  at_ : ∀ i, i < 256 → w.cell? ⟨g, 5 + i * 2, none⟩ = some (.int .u16 (st i).1)
  dp : ∀ i, i < 256 → w.cell? ⟨g, 5 + i * 2 + 1, none⟩ = some (.int .u8 (st i).2)
  f : ∀ j, 5 ≤ j → j < 518 → w.frozen? ⟨g, j, none⟩ = false
  n : w.cell? ⟨g, 517, none⟩ = some (.int .u16 n)

def pushed (st : Nat → Nat × Nat) (n0 a dep i : Nat) : Nat → Nat × Nat := fun j => if n0 ≤ j ∧ j < n0 + i then (a + (j - n0), dep) else st j

theorem pushed0 (st : Nat → Nat × Nat) (n0 a dep : Nat) : pushed st n0 a dep 0 = st := by
  funext j; unfold pushed; rw [if_neg (by omega)]

set_option maxRecDepth 100000 in
set_option maxHeartbeats 1000000 in
theorem push_any (g a n dep n0 : Nat) (st : Nat → Nat × Nat) (w : World) (hs : Stk w g st n0) (h0 : n0 + n ≤ 256) (h1 : a + n ≤ 65535) (h2 : dep ≤ 255) :
    Calls Fahg.prog 105 #[.pointer (some ⟨g, 0, none⟩), .int .u16 a, .int .u16 n, .int .u8 dep] w fun e w' => e = .returned (.tuple #[]) ∧ Within g 5 518 w w' ∧ Stk w' g (pushed st n0 a dep n) (n0 + n) := by
  go_enter Fahg.func105, Fahg.ntmps105
  go_wp2_with fail
  go_loopg [8] n (fun k I wr => ∃ i : Nat, i + k = n ∧ I = .int .u16 (i : Nat) ∧ Within g 5 518 w wr ∧ Stk wr g (pushed st n0 a dep i) (n0 + i))
  case atStart => exact ⟨0, by omega, rfl, Within.refl _ _ _ _, by simpa [pushed0] using hs⟩
  case round =>
    obtain ⟨i, hd, rfl, hW, hS⟩ := hrel
    by_cases hk : gk = 0
    · have e : i = n := by omega
      subst hk
      clear hd
      subst e
      go_wp2_with fail
      exact bodyPost_end (v := .tuple #[]) (by simp [results, Fahg.results105]) rfl ⟨rfl, hW, hS⟩
    · have k0 : i < n := by omega
      have c1 := hS.n
      have c2 := hS.at_ (n0 + i) (by omega)
      have c3 := hS.dp (n0 + i) (by omega)
      have f1 := hS.f 517 (by omega) (by omega)
      have f2 := hS.f (5 + (n0 + i) * 2) (by omega) (by omega)
      have f3 := hS.f (5 + (n0 + i) * 2 + 1) (by omega) (by omega)
      have HW : Hid _ := hW
      have HS : Hid _ := hS
      have HD : Hid (i + gk = n) := hd
      generalize (pushed st n0 a dep i (n0 + i)).1 = x1 at c2
      generalize (pushed st n0 a dep i (n0 + i)).2 = x2 at c3
      have hN : n0 + i < 256 := by omega
      obtain ⟨N, hN'⟩ : ∃ N, N = n0 + i := ⟨_, rfl⟩
      rw [← hN'] at c1 c2 c3 f2 f3 hN
      have HN : Hid _ := hN'
      have ha : a + i ≤ 65535 := by omega
      clear hW hS hd hN' hs hk h0 h1
      go_wp2_with fail
      go_region
      go_wp2_with fail
      have eN := HN.out
      have eD := HD.out
      have eS := HS.out
      go_roundg (gk - 1)
      case rel =>
        refine ⟨i + 1, by omega, ?_, ?_, ?_⟩
        · simp only [Value.int.injEq, true_and, IntKind.wrap_u16]; omega
        · exact (((HW.out.set (by omega) (by omega) _).set (by omega) (by omega) _).set (by omega) (by omega) _).drew
        · refine ⟨fun j hj => ?_, fun j hj => ?_, fun j h1 h2 => ?_, ?_⟩
          · show World.cell? (((wr.setCell _ _).setCell _ _).setCell _ _) _ = _
            rw [World.cell?_setCell_other _ _ _ _ (by intro e; injection e; omega), World.cell?_setCell_other _ _ _ _ (by intro e; injection e; omega)]
            unfold pushed
            by_cases e : j = N
            · subst e
              rw [World.cell?_setCell_same' _ _ _ (by rw [c2]; rfl), if_pos (by omega)]
              simp only [Option.some.injEq, Value.int.injEq, true_and]; omega
            · rw [World.cell?_setCell_other _ _ _ _ (by intro e; injection e; omega), eS.at_ j hj]
              unfold pushed
              by_cases e2 : n0 ≤ j ∧ j < n0 + i
              · rw [if_pos e2, if_pos (by omega)]
              · rw [if_neg e2, if_neg (by omega)]
          · show World.cell? (((wr.setCell _ _).setCell _ _).setCell _ _) _ = _
            rw [World.cell?_setCell_other _ _ _ _ (by intro e; injection e; omega)]
            unfold pushed
            by_cases e : j = N
            · subst e
              rw [World.cell?_setCell_same' _ _ _ (by rw [World.cell?_setCell_other _ _ _ _ (by intro e; injection e; omega), c3]; rfl), if_pos (by omega)]
            · rw [World.cell?_setCell_other _ _ _ _ (by intro e; injection e; omega), World.cell?_setCell_other _ _ _ _ (by intro e; injection e; omega), eS.dp j hj]
              unfold pushed
              by_cases e2 : n0 ≤ j ∧ j < n0 + i
              · rw [if_pos e2, if_pos (by omega)]
              · rw [if_neg e2, if_neg (by omega)]
          · simp [go_sem, eS.f j h1 h2]
          · show World.cell? (((wr.setCell _ _).setCell _ _).setCell _ _) _ = _
            rw [World.cell?_setCell_same' _ _ _ (by rw [World.cell?_setCell_other _ _ _ _ (by intro e; injection e; omega), World.cell?_setCell_other _ _ _ _ (by intro e; injection e; omega), c1]; rfl)]
            simp only [Option.some.injEq, Value.int.injEq, true_and]; omega
      case measure => omega
end Go.Proofs.Ygcfah
