/- tree.Node.trimmed. -/
import Derived.Test.YgcfahTree
import Derived.Deep.LoopGhost
import Derived.Deep.QuietTactic
import Derived.BigQuiet
namespace Go.Proofs.Ygcfah
open Go.RowKit
set_option linter.unusedVariables false
set_option linter.unusedSimpArgs false
/-- How many of the first n are left when those equal to c at the end are dropped. -/
def trimC (c : Int) (z : Nat → Int) : Nat → Nat
  | 0 => 0
  | n + 1 => if z n = c then trimC c z n else n + 1
theorem trimC_le (c : Int) (z : Nat → Int) (n : Nat) : trimC c z n ≤ n := by
  induction n with
  | zero => simp [trimC]
  | succ n ih => rw [trimC]; split <;> omega
set_option maxRecDepth 100000 in
set_option maxHeartbeats 1000000 in
theorem trimmed_any (b o : Nat) (nd : NodeC) (w : World) (hn : NodeOk w nd) (hd4 : nd.dL ≤ 4611686018427387904) (hk4 : nd.kL ≤ 4611686018427387904) (h2 : w.cell? ⟨b, o + 2, none⟩ = some (.slice nd.dA nd.dL nd.dC)) (h3 : w.cell? ⟨b, o + 3, none⟩ = some (.slice nd.kA nd.kL nd.kC)) :
    Calls Fahg.prog 82 #[.pointer (some ⟨b, o, none⟩)] w fun e w' => e = .returned (.tuple #[.int .i64 (trimC 0 nd.dz nd.dL), .int .i64 (trimC (-1) nd.kz nd.kL)]) ∧ Below w.heap.size w w' := by
  obtain ⟨kind, code, dA, dL, dC, kA, kL, kC, dz, kz⟩ := nd
  have HD : Hid _ := hn.d
  have HK : Hid _ := hn.i
  simp only at h2 h3 hd4 hk4
  clear hn
  go_enter Fahg.func82, Fahg.ntmps82
  go_wp2_with fail
  go_region
  go_wp2_with fail
  go_loopg [2] dL (fun k I wr => I = .int .i64 (k : Nat) ∧ k ≤ dL ∧ wr = w.drew ∧ trimC 0 dz k = trimC 0 dz dL)
  case atStart => exact ⟨rfl, Nat.le_refl _, rfl, rfl⟩
  obtain ⟨rfl, hk, rfl, ht⟩ := hrel
  have HT : Hid _ := ht
  clear ht
  by_cases hcon : ∃ m, gk = m + 1 ∧ dz m = 0
  case pos =>
    obtain ⟨m, rfl, hm⟩ := hcon
    rcases HD.out with h0 | ⟨b', off', e', hc'⟩
    · omega
    subst e'
    have c1 := (hc' m (by omega)).1
    rw [hm] at c1
    go_wp2_with fail
    go_roundg m
    case rel => exact ⟨by simp, by omega, rfl, by have e := HT.out; rw [trimC, if_pos hm] at e; exact e⟩
    case measure => omega
  have hgk : gk = trimC 0 dz dL := by
    rw [← HT.out]
    cases gk with
    | zero => rfl
    | succ m => rw [trimC, if_neg fun h => hcon ⟨m, rfl, h⟩]
  have HG : Hid _ := hgk
  have hcon' : gk = 0 ∨ ∃ m b' off', gk = m + 1 ∧ dA = some ⟨b', off', none⟩ ∧ w.cell? ⟨b', off' + m, none⟩ = some (.int .u64 (dz m)) ∧ (dz m == 0) = false ∧ m < dL := by
    cases gk with
    | zero => exact .inl rfl
    | succ m =>
      right
      rcases HD.out with h0 | ⟨b', off', e', hc'⟩
      · omega
      exact ⟨m, b', off', rfl, e', (hc' m (by omega)).1, by simpa using fun h => hcon ⟨m, rfl, h⟩, by omega⟩
  clear hcon hgk HT
  rcases hcon' with rfl | ⟨m, b', off', rfl, rfl, c1, c2, c3⟩
  · go_wp2_with fail
    go_loopg [3] kL (fun k I wr => I = .int .i64 (k : Nat) ∧ k ≤ kL ∧ wr = w.drew ∧ trimC (-1) kz k = trimC (-1) kz kL)
    case atStart => exact ⟨rfl, Nat.le_refl _, rfl, rfl⟩
    obtain ⟨rfl, hk2, rfl, ht⟩ := hrel
    have HT : Hid _ := ht
    clear ht
    by_cases hcon : ∃ n, gk = n + 1 ∧ kz n = -1
    case pos =>
      obtain ⟨n, rfl, hm⟩ := hcon
      rcases HK.out with h0 | ⟨b2, off2, e2, hc2⟩
      · omega
      subst e2
      have c9 := (hc2 n (by omega)).1
      rw [hm] at c9
      go_wp2_with fail
      go_roundg n
      case rel => exact ⟨by simp, by omega, rfl, by have e := HT.out; rw [trimC, if_pos hm] at e; exact e⟩
      case measure => omega
    have hgk : gk = trimC (-1) kz kL := by
      rw [← HT.out]
      cases gk with
      | zero => rfl
      | succ n => rw [trimC, if_neg fun h => hcon ⟨n, rfl, h⟩]
    have HG2 : Hid _ := hgk
    have hcon2 : gk = 0 ∨ ∃ n b2 off2, gk = n + 1 ∧ kA = some ⟨b2, off2, none⟩ ∧ w.cell? ⟨b2, off2 + n, none⟩ = some (.int .i16 (kz n)) ∧ (kz n == -1) = false ∧ n < kL := by
      cases gk with
      | zero => exact .inl rfl
      | succ n =>
        right
        rcases HK.out with h0 | ⟨b2, off2, e2, hc2⟩
        · omega
        exact ⟨n, b2, off2, rfl, e2, (hc2 n (by omega)).1, by simpa using fun h => hcon ⟨n, rfl, h⟩, by omega⟩
    clear hcon hgk HT
    rcases hcon2 with rfl | ⟨n, b2, off2, rfl, rfl, k1, k2, k3⟩
    · go_wp2_with fail
      refine bodyPost_ret (v := .tuple #[.int .i64 0, .int .i64 0]) (by simp [results, Fahg.results82]) rfl ⟨?_, Below.drew (Below.refl _ _)⟩
      have e1 := HG.out
      have e2 := HG2.out
      rw [← e1, ← e2]; simp
    · go_wp2_with fail
      refine bodyPost_ret (v := .tuple #[.int .i64 0, .int .i64 ((n : Int) + 1)]) (by simp [results, Fahg.results82]) rfl ⟨?_, Below.drew (Below.refl _ _)⟩
      have e1 := HG.out
      have e2 := HG2.out
      rw [← e1, ← e2]; simp
  · go_wp2_with fail
    go_loopg [3] kL (fun k I wr => I = .int .i64 (k : Nat) ∧ k ≤ kL ∧ wr = w.drew ∧ trimC (-1) kz k = trimC (-1) kz kL)
    case atStart => exact ⟨rfl, Nat.le_refl _, rfl, rfl⟩
    obtain ⟨rfl, hk2, rfl, ht⟩ := hrel
    have HT : Hid _ := ht
    clear ht
    by_cases hcon : ∃ n, gk = n + 1 ∧ kz n = -1
    case pos =>
      obtain ⟨n, rfl, hm⟩ := hcon
      rcases HK.out with h0 | ⟨b2, off2, e2, hc2⟩
      · omega
      subst e2
      have c9 := (hc2 n (by omega)).1
      rw [hm] at c9
      go_wp2_with fail
      go_roundg n
      case rel => exact ⟨by simp, by omega, rfl, by have e := HT.out; rw [trimC, if_pos hm] at e; exact e⟩
      case measure => omega
    have hgk : gk = trimC (-1) kz kL := by
      rw [← HT.out]
      cases gk with
      | zero => rfl
      | succ n => rw [trimC, if_neg fun h => hcon ⟨n, rfl, h⟩]
    have HG2 : Hid _ := hgk
    have hcon2 : gk = 0 ∨ ∃ n b2 off2, gk = n + 1 ∧ kA = some ⟨b2, off2, none⟩ ∧ w.cell? ⟨b2, off2 + n, none⟩ = some (.int .i16 (kz n)) ∧ (kz n == -1) = false ∧ n < kL := by
      cases gk with
      | zero => exact .inl rfl
      | succ n =>
        right
        rcases HK.out with h0 | ⟨b2, off2, e2, hc2⟩
        · omega
        exact ⟨n, b2, off2, rfl, e2, (hc2 n (by omega)).1, by simpa using fun h => hcon ⟨n, rfl, h⟩, by omega⟩
    clear hcon hgk HT
    rcases hcon2 with rfl | ⟨n, b2, off2, rfl, rfl, k1, k2, k3⟩
    · go_wp2_with fail
      refine bodyPost_ret (v := .tuple #[.int .i64 ((m : Int) + 1), .int .i64 0]) (by simp [results, Fahg.results82]) rfl ⟨?_, Below.drew (Below.refl _ _)⟩
      have e1 := HG.out
      have e2 := HG2.out
      rw [← e1, ← e2]; simp
    · go_wp2_with fail
      refine bodyPost_ret (v := .tuple #[.int .i64 ((m : Int) + 1), .int .i64 ((n : Int) + 1)]) (by simp [results, Fahg.results82]) rfl ⟨?_, Below.drew (Below.refl _ _)⟩
      have e1 := HG.out
      have e2 := HG2.out
      rw [← e1, ← e2]; simp
end Go.Proofs.Ygcfah
