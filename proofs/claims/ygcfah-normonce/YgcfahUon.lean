/- law.NormOnce: trees that do not pass Check; trees of less than two nodes. -/
import Derived.Test.YgcfahUgd
import Derived.Test.YgcfahTnn
namespace Go.Proofs.Ygcfah
open Go.RowKit
set_option linter.unusedVariables false
set_option linter.unusedSimpArgs false
set_option maxRecDepth 100000 in
set_option maxHeartbeats 4000000 in
/-- Check says no. -/
theorem once_no (a : Option Addr) (n cap : Nat) (root iv : Int) (w : World) (hck : Hid (∀ tb w', w'.cell? ⟨tb, 0, none⟩ = some (.slice a n cap) → w'.cell? ⟨tb, 1, none⟩ = some (.int .i16 root) → Below w.heap.size w w' → Calls Fahg.prog 23 #[.pointer (some ⟨tb, 0, none⟩)] w' fun e w'' => e = .returned (.bool false) ∧ Below w'.heap.size w' w'')) :
    Calls Fahg.prog 6 #[.agg #[.slice a n cap, .int .i16 root], .int .u16 iv] w fun e w' => e = .returned (.bool true) ∧ Below w.heap.size w w' := by
  obtain ⟨w1, hw1⟩ : ∃ w1, w1 = w.alloc (.cells #[.slice a n cap, .int .i16 root] 53) := ⟨_, rfl⟩
  have hb1 : Below w.heap.size w w1 := by rw [hw1]; exact below_alloc (Below.refl _ _) (Nat.le_refl _) _
  have g0 : w1.cell? ⟨w.heap.size, 0, none⟩ = some (.slice a n cap) := by rw [hw1]; simp [go_sem]
  have g1 : w1.cell? ⟨w.heap.size, 1, none⟩ = some (.int .i16 root) := by rw [hw1]; simp [go_sem]
  have HB1 : Hid _ := hb1
  have HW1 : Hid _ := hw1
  clear hb1 hw1
  go_enter Fahg.func6, Fahg.ntmps6
  go_wp2_with fail
  rw [← HW1.out]
  have HN : Hid _ := norm_null w.heap.size (.slice a n cap) root false w1 g1 (hck.out w.heap.size w1 g0 g1 HB1.out) (.inl rfl)
  refine Calls.mono HN.out ?_
  rintro e w2 ⟨hres, hb2⟩
  have HB2 : Hid (Below w.heap.size w w2) := HB1.out.trans (hb2.mono HB1.out.size)
  have k0 := Below.kept hb2 g0
  have k1 := Below.kept hb2 g1
  clear hb2 HN g0 g1
  cases hres with
  | mk ub u0 u1' =>
    have y0 := u0
    have y1 := u1'
    clear u0 u1'
    go_wp2_with fail
    refine Calls.mono (hck.out w.heap.size w2 k0 k1 HB2.out) ?_
    rintro e w3 ⟨rfl, hb3⟩
    have HB3 : Hid (Below w.heap.size w w3) := HB2.out.trans (hb3.mono HB2.out.size)
    have m0 := Below.kept hb3 k0
    have m1 := Below.kept hb3 k1
    have z0 := Below.kept hb3 y0
    have z1 := Below.kept hb3 y1
    clear hb3 k0 k1 y0 y1
    go_wp2_with fail
    refine Calls.mono (equal_no w.heap.size w.heap.size w3 (hck.out w.heap.size w3 m0 m1 HB3.out)) ?_
    rintro e w4 ⟨rfl, hb4⟩
    have HB4 : Hid (Below w.heap.size w w4) := HB3.out.trans (hb4.mono HB3.out.size)
    clear hb4
    go_wp2_with fail
    go_ret
    exact ⟨rfl, HB4.out⟩
set_option maxRecDepth 100000 in
set_option maxHeartbeats 4000000 in
/-- Check says yes; less than two nodes. -/
theorem once_few (a : Option Addr) (n cap : Nat) (root iv : Int) (w : World) (hn : n < 2) (hck : Hid (∀ tb w', w'.cell? ⟨tb, 0, none⟩ = some (.slice a n cap) → w'.cell? ⟨tb, 1, none⟩ = some (.int .i16 root) → Below w.heap.size w w' → (Calls Fahg.prog 23 #[.pointer (some ⟨tb, 0, none⟩)] w' fun e w'' => e = .returned (.bool true) ∧ Below w'.heap.size w' w'') ∧ (Calls Fahg.prog 25 #[.pointer (some ⟨tb, 0, none⟩)] w' fun e w'' => ∃ ub, e = .returned (.pointer (some ⟨ub, 0, none⟩)) ∧ Below w'.heap.size w' w'' ∧ NormGood w'' ub) ∧ (Calls Fahg.prog 26 #[.pointer (some ⟨tb, 0, none⟩), .pointer (some ⟨tb, 0, none⟩)] w' fun e w'' => e = .returned (.bool true) ∧ Below w'.heap.size w' w''))) :
    Calls Fahg.prog 6 #[.agg #[.slice a n cap, .int .i16 root], .int .u16 iv] w fun e w' => e = .returned (.bool true) ∧ Below w.heap.size w w' := by
  obtain ⟨w1, hw1⟩ : ∃ w1, w1 = w.alloc (.cells #[.slice a n cap, .int .i16 root] 53) := ⟨_, rfl⟩
  have hb1 : Below w.heap.size w w1 := by rw [hw1]; exact below_alloc (Below.refl _ _) (Nat.le_refl _) _
  have g0 : w1.cell? ⟨w.heap.size, 0, none⟩ = some (.slice a n cap) := by rw [hw1]; simp [go_sem]
  have g1 : w1.cell? ⟨w.heap.size, 1, none⟩ = some (.int .i16 root) := by rw [hw1]; simp [go_sem]
  have HB1 : Hid _ := hb1
  have HW1 : Hid _ := hw1
  clear hb1 hw1
  go_enter Fahg.func6, Fahg.ntmps6
  go_wp2_with fail
  rw [← HW1.out]
  refine Calls.mono (hck.out w.heap.size w1 g0 g1 HB1.out).2.1 ?_
  rintro e w2 ⟨ub, rfl, hb2, hG⟩
  have HB2 : Hid (Below w.heap.size w w2) := HB1.out.trans (hb2.mono HB1.out.size)
  have HG : Hid _ := hG
  have k0 := Below.kept hb2 g0
  have k1 := Below.kept hb2 g1
  clear hb2 g0 g1 hG
  go_wp2_with fail
  refine Calls.mono (hck.out w.heap.size w2 k0 k1 HB2.out).1 ?_
  rintro e w3 ⟨rfl, hb3⟩
  have HB3 : Hid (Below w.heap.size w w3) := HB2.out.trans (hb3.mono HB2.out.size)
  have HC3 : Hid (Below w2.heap.size w2 w3) := hb3
  have m0 := Below.kept hb3 k0
  have m1 := Below.kept hb3 k1
  clear hb3 k0 k1
  go_wp2_with fail
  refine Calls.mono (HG.out.1 w3 HC3.out) ?_
  rintro e w4 ⟨rfl, hb4⟩
  have HB4 : Hid (Below w.heap.size w w4) := HB3.out.trans (hb4.mono HB3.out.size)
  have HC4 : Hid (Below w2.heap.size w2 w4) := HC3.out.trans (hb4.mono HC3.out.size)
  have k0 := Below.kept hb4 m0
  have k1 := Below.kept hb4 m1
  clear hb4 m0 m1
  go_wp2_with fail
  refine Calls.mono (HG.out.2 w4 HC4.out) ?_
  rintro e w5 ⟨vb, rfl, hb5, hE⟩
  have HB5 : Hid (Below w.heap.size w w5) := HB4.out.trans (hb5.mono HB4.out.size)
  have HE : Hid _ := hE
  have m0 := Below.kept hb5 k0
  have m1 := Below.kept hb5 k1
  clear hb5 hE k0 k1
  go_wp2_with fail
  refine Calls.mono (HE.out w5 (Below.refl _ _)) ?_
  rintro e w6 ⟨rfl, hb6⟩
  have HB6 : Hid (Below w.heap.size w w6) := HB5.out.trans (hb6.mono HB5.out.size)
  have k0 := Below.kept hb6 m0
  have k1 := Below.kept hb6 m1
  clear hb6 m0 m1 HE HG HC3 HC4
  go_wp2_with fail
  refine Calls.mono (hck.out w.heap.size w6 k0 k1 HB6.out).2.2 ?_
  rintro e w7 ⟨rfl, hb7⟩
  have HB7 : Hid (Below w.heap.size w w7) := HB6.out.trans (hb7.mono HB6.out.size)
  have m0 := Below.kept hb7 k0
  have m1 := Below.kept hb7 k1
  clear hb7 k0 k1
  go_wp2_with fail
  go_ret
  exact ⟨rfl, HB7.out⟩
end Go.Proofs.Ygcfah
