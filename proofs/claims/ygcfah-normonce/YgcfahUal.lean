/- tree.alike of two nodes that look the same; law.swapped. -/
import Derived.Test.YgcfahUqu
import Derived.BigQuiet
namespace Go.Proofs.Ygcfah
open Go.RowKit
set_option linter.unusedVariables false
set_option linter.unusedSimpArgs false
set_option maxRecDepth 100000 in
set_option maxHeartbeats 1000000 in
theorem alike_any (b1 o1 b2 o2 : Nat) (kind code : Int) (xA yA xK yK : Option Addr) (dL kL xC yC xD yD : Nat) (xz yz : Nat → Int) (w : World) (x0 : w.cell? ⟨b1, o1, none⟩ = some (.int .u8 kind)) (x1 : w.cell? ⟨b1, o1 + 1, none⟩ = some (.int .u8 code)) (x2 : w.cell? ⟨b1, o1 + 2, none⟩ = some (.slice xA dL xC)) (x3 : w.cell? ⟨b1, o1 + 3, none⟩ = some (.slice xK kL xD))
    (y0 : w.cell? ⟨b2, o2, none⟩ = some (.int .u8 kind)) (y1 : w.cell? ⟨b2, o2 + 1, none⟩ = some (.int .u8 code)) (y2 : w.cell? ⟨b2, o2 + 2, none⟩ = some (.slice yA dL yC)) (y3 : w.cell? ⟨b2, o2 + 3, none⟩ = some (.slice yK kL yD))
    (hxr : IRow w .u64 xA dL xz) (hyr : IRow w .u64 yA dL yz) (hd : dL ≤ 128) (heq : ∀ k, k < dL → yz k = xz k) :
    Calls Fahg.prog 85 #[.pointer (some ⟨b1, o1, none⟩), .pointer (some ⟨b2, o2, none⟩)] w fun e w' => e = .returned (.bool true) ∧ Below w.heap.size w w' := by
  have HX : Hid _ := hxr
  have HY : Hid _ := hyr
  have HE : Hid _ := heq
  clear hxr hyr heq
  go_enter Fahg.func85, Fahg.ntmps85
  go_wp2_with fail
  go_quiet (fail)
  have HB0 : Hid (Below w.heap.size w (w.drewN nq)) := below_drewN' (Below.refl _ _) _
  generalize w.drewN nq = w0 at *
  clear x0 x1 y0 y1 x3 y3
  have t1 := Below.kept HB0.out x2
  go_wp2_with fail
  go_loopg [57] dL (fun k I wr => ∃ j : Nat, j + k = dL ∧ I = .int .i64 (j : Nat) ∧ Hid (Below w.heap.size w wr))
  case atStart => exact ⟨0, by omega, rfl, HB0⟩
  obtain ⟨j, hjk, rfl, HB⟩ := hrel
  clear HB0 t1
  have u1 := Below.kept HB.out x2
  have u2 := Below.kept HB.out y2
  clear x2 y2
  by_cases hjl : j < dL
  case neg =>
    go_wp2_with fail
    go_ret
    exact ⟨rfl, HB.out⟩
  rcases HX.out with h0 | ⟨c1, p1, e1, hc1⟩
  · omega
  rcases HY.out with h0 | ⟨c2, p2, e2, hc2⟩
  · omega
  have v1 := Below.kept HB.out (hc1 j hjl).1
  have v2 := Below.kept HB.out (hc2 j hjl).1
  have he := HE.out j hjl
  rw [e1] at u1
  rw [e2] at u2
  rw [he] at v2
  clear hc1 hc2 e1 e2 he
  go_wp2_with fail
  go_quiet (fail)
  have HB2 : Hid (Below w.heap.size w (wr.drewN nq)) := below_drewN' HB.out _
  generalize wr.drewN nq = w2 at *
  go_wp2_with fail
  go_roundg (gk - 1)
  case rel => exact ⟨j + 1, by omega, by simp, HB2⟩
  case measure => omega
set_option maxRecDepth 100000 in
set_option maxHeartbeats 1000000 in
theorem swapped_any (k : Nat) (x : Int) (hk : k + 1 ≤ 512) (w : World) :
    Calls Fahg.prog 27 #[.int .i16 x, .int .i16 ((k : Nat) : Int)] w fun e w' => e = .returned (.int .i16 (swI k x)) ∧ w' = w := by
  by_cases h1 : x = (k : Nat)
  · have HS : Hid (swI k x = ((k : Nat) : Int) + 1) := by show swI k x = _; unfold swI; rw [if_pos h1]
    have d1 : (x == ((k : Nat) : Int)) = true := by simp [h1]
    clear h1
    go_enter Fahg.func27, Fahg.ntmps27
    go_wp2_with fail
    go_ret
    exact ⟨by rw [HS.out]; rfl, rfl⟩
  · by_cases h2 : x = (k : Nat) + 1
    · have HS : Hid (swI k x = ((k : Nat) : Int)) := by show swI k x = _; unfold swI; rw [if_neg h1, if_pos h2]
      have d1 : (x == ((k : Nat) : Int)) = false := by simp [h1]
      have d2 : (x == ((k : Nat) : Int) + 1) = true := by simp [h2]
      clear h1 h2
      go_enter Fahg.func27, Fahg.ntmps27
      go_wp2_with fail
      go_ret
      exact ⟨by rw [HS.out]; rfl, rfl⟩
    · have HS : Hid (swI k x = x) := by show swI k x = _; unfold swI; rw [if_neg h1, if_neg h2]
      have d1 : (x == ((k : Nat) : Int)) = false := by simp [h1]
      have d2 : (x == ((k : Nat) : Int) + 1) = false := by simp [h2]
      clear h1 h2
      go_enter Fahg.func27, Fahg.ntmps27
      go_wp2_with fail
      go_ret
      exact ⟨by rw [HS.out]; rfl, rfl⟩
end Go.Proofs.Ygcfah
