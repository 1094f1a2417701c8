/- law.sameData. -/
import Derived.Test.YgcfahTsz
namespace Go.Proofs.Ygcfah
open Go.RowKit
set_option linter.unusedVariables false
set_option linter.unusedSimpArgs false
set_option maxRecDepth 100000 in
set_option maxHeartbeats 1000000 in
theorem samedata_true (b1 o1 b2 o2 : Nat) (xA yA : Option Addr) (xL xC yL yC M : Nat) (xz yz : Nat → Int) (w : World) (hx : w.cell? ⟨b1, o1 + 2, none⟩ = some (.slice xA xL xC)) (hy : w.cell? ⟨b2, o2 + 2, none⟩ = some (.slice yA yL yC))
    (hxr : IRow w .u64 xA xL xz) (hyr : IRow w .u64 yA yL yz) (hx8 : xL ≤ 128) (hy8 : yL ≤ 128) (heq : ∀ k, szw xz xL k = szw yz yL k) (hM : (xL < yL ∧ M = yL) ∨ (¬xL < yL ∧ M = xL)) :
    Calls Fahg.prog 86 #[.pointer (some ⟨b1, o1, none⟩), .pointer (some ⟨b2, o2, none⟩)] w fun e w' => e = .returned (.bool true) ∧ ∃ nq, w' = w.drewN nq := by
  have HX : Hid _ := hxr
  have HY : Hid _ := hyr
  have HE : Hid _ := heq
  have HM : Hid (xL ≤ M ∧ yL ≤ M) := by show _ ∧ _; omega
  clear hxr hyr heq
  rcases hM with ⟨hM, hMM⟩ | ⟨hM, hMM⟩
  all_goals
    have HMM : Hid _ := hMM
    go_enter Fahg.func86, Fahg.ntmps86
    go_wp2_with fail
    go_quiet (fail)
    have HB0 : Hid (Below w.heap.size w (w.drewN nq)) := below_drewN' (Below.refl _ _) _
    have HQ0 : Hid (∃ nq', w.drewN nq = w.drewN nq') := ⟨nq, rfl⟩
    generalize w.drewN nq = w0 at *
    go_wp2_with fail
    go_loopg [19] M (fun k I wr => ∃ j : Nat, j + k = M ∧ I = .int .i64 (j : Nat) ∧ wr = w0)
    case atStart => exact ⟨0, by omega, rfl, rfl⟩
    obtain ⟨j, hjk, rfl, rfl⟩ := hrel
    have HB := HB0
    clear HB0
    have x1 := Below.kept HB.out hx
    have y1 := Below.kept HB.out hy
    by_cases hjl : j < M
    case neg =>
      go_wp2_with fail
      go_ret
      exact ⟨rfl, HQ0.out⟩
    have he := HE.out j
    by_cases hjx : j < xL <;> by_cases hjy : j < yL
    · rcases HX.out with h0 | ⟨c1, p1, e1, hc1⟩
      · omega
      rcases HY.out with h0 | ⟨c2, p2, e2, hc2⟩
      · omega
      have v1 := Below.kept HB.out (hc1 j hjx).1
      have v2 := Below.kept HB.out (hc2 j hjy).1
      rw [e1] at x1
      rw [e2] at y1
      simp only [szw, hjx, hjy, if_true] at he
      rw [he] at v1
      clear hc1 hc2 e1 e2 he
      go_wp2_with fail
      go_roundg (gk - 1)
      case rel => exact ⟨j + 1, by omega, by simp, rfl⟩
      case measure => omega
    · first
      | (exfalso; omega)
      | (rcases HX.out with h0 | ⟨c1, p1, e1, hc1⟩
         · omega
         have v1 := Below.kept HB.out (hc1 j hjx).1
         rw [e1] at x1
         simp only [szw, hjx, hjy, if_true, if_false] at he
         rw [he] at v1
         clear hc1 e1 he
         go_wp2_with fail
         go_roundg (gk - 1)
         case rel => exact ⟨j + 1, by omega, by simp, rfl⟩
         case measure => omega)
    · first
      | (exfalso; omega)
      | (rcases HY.out with h0 | ⟨c2, p2, e2, hc2⟩
         · omega
         have v2 := Below.kept HB.out (hc2 j hjy).1
         rw [e2] at y1
         simp only [szw, hjx, hjy, if_true, if_false] at he
         rw [← he] at v2
         clear hc2 e2 he
         go_wp2_with fail
         go_roundg (gk - 1)
         case rel => exact ⟨j + 1, by omega, by simp, rfl⟩
         case measure => omega)
    · omega
end Go.Proofs.Ygcfah
