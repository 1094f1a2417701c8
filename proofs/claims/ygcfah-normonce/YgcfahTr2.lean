/- law.trim. -/
import Derived.Test.YgcfahTrim
namespace Go.Proofs.Ygcfah
open Go.RowKit
set_option linter.unusedVariables false
set_option linter.unusedSimpArgs false
set_option maxRecDepth 100000 in
set_option maxHeartbeats 1000000 in
theorem ltrim_any (b o : Nat) (nd : NodeC) (w : World) (hn : NodeOk w nd) (hd4 : nd.dL ≤ 4611686018427387904) (hk4 : nd.kL ≤ 4611686018427387904) (h2 : w.cell? ⟨b, o + 2, none⟩ = some (.slice nd.dA nd.dL nd.dC)) (h3 : w.cell? ⟨b, o + 3, none⟩ = some (.slice nd.kA nd.kL nd.kC)) :
    Calls Fahg.prog 87 #[.pointer (some ⟨b, o, none⟩)] w fun e w' => e = .returned (.tuple #[.int .i64 (trimC 0 nd.dz nd.dL), .int .i64 (trimC (-1) nd.kz nd.kL)]) ∧ Below w.heap.size w w' := by
  obtain ⟨kind, code, dA, dL, dC, kA, kL, kC, dz, kz⟩ := nd
  have HD : Hid _ := hn.d
  have HK : Hid _ := hn.i
  simp only at h2 h3 hd4 hk4
  clear hn
  go_enter Fahg.func87, Fahg.ntmps87
  go_wp2_with fail
  go_loopg [2, 13] dL (fun k D I wr => ∃ i : Nat, i + k = dL ∧ D = .int .i64 (trimC 0 dz i : Nat) ∧ I = .int .i64 (i : Nat) ∧ wr = w)
  case atStart => exact ⟨0, by omega, rfl, rfl, rfl⟩
  obtain ⟨i, hi, rfl, rfl, rfl⟩ := hrel
  by_cases hlt : i < dL
  case pos =>
    rcases HD.out with h0 | ⟨b2, off2, e2, hc2⟩
    · omega
    subst e2
    have c9 := (hc2 i (by omega)).1
    have hnx : trimC 0 dz (i + 1) = if dz i = 0 then trimC 0 dz i else i + 1 := rfl
    have HNX : Hid _ := hnx
    clear hnx
    by_cases hv : dz i = 0
    · have hv2 : (dz i != 0) = false := by simpa using hv
      have HVV : Hid _ := hv
      clear hv
      go_wp2_with fail
      go_roundg (gk - 1)
      case rel => exact ⟨i + 1, by omega, by rw [HNX.out, if_pos HVV.out], by simp, rfl⟩
      case measure => omega
    · have hv2 : (dz i != 0) = true := by simpa using hv
      have HVV : Hid _ := hv
      clear hv
      go_wp2_with fail
      go_roundg (gk - 1)
      case rel => exact ⟨i + 1, by omega, by rw [HNX.out, if_neg HVV.out]; simp, by simp, rfl⟩
      case measure => omega
  have hie : i = dL := by omega
  subst hie
  obtain ⟨w0, hw0⟩ : ∃ w0, w0 = wr := ⟨_, rfl⟩
  subst hw0
  go_wp2_with fail
  go_loopg [3, 28] kL (fun k D I wx => ∃ j : Nat, j + k = kL ∧ D = .int .i64 (trimC (-1) kz j : Nat) ∧ I = .int .i64 (j : Nat) ∧ wx = w0)
  case atStart => exact ⟨0, by omega, rfl, rfl, rfl⟩
  obtain ⟨j, hj, rfl, rfl, rfl⟩ := hrel
  by_cases hlt2 : j < kL
  case pos =>
    rcases HK.out with h0 | ⟨b2, off2, e2, hc2⟩
    · omega
    subst e2
    have c9 := (hc2 j (by omega)).1
    have hnx : trimC (-1) kz (j + 1) = if kz j = -1 then trimC (-1) kz j else j + 1 := rfl
    have HNX : Hid _ := hnx
    clear hnx
    by_cases hv : kz j = -1
    · have hv2 : (kz j != -1) = false := by simpa using hv
      have HVV : Hid _ := hv
      clear hv
      go_wp2_with fail
      go_roundg (gk - 1)
      case rel => exact ⟨j + 1, by omega, by rw [HNX.out, if_pos HVV.out], by simp, rfl⟩
      case measure => omega
    · have hv2 : (kz j != -1) = true := by simpa using hv
      have HVV : Hid _ := hv
      clear hv
      go_wp2_with fail
      go_roundg (gk - 1)
      case rel => exact ⟨j + 1, by omega, by rw [HNX.out, if_neg HVV.out]; simp, by simp, rfl⟩
      case measure => omega
  have hje : j = kL := by omega
  subst hje
  go_wp2_with fail
  exact bodyPost_ret (v := .tuple #[.int .i64 (trimC 0 dz i), .int .i64 (trimC (-1) kz j)]) (by simp [results, Fahg.results87]) rfl ⟨rfl, Below.refl _ _⟩
end Go.Proofs.Ygcfah
