/- law.evenElements. -/
import Derived.Test.YgcfahTarr
namespace Go.Proofs.Ygcfah
open Go.RowKit
set_option linter.unusedVariables false
set_option linter.unusedSimpArgs false
set_option maxRecDepth 100000 in
set_option maxHeartbeats 1000000 in
theorem even_true (tb b off n cap : Nat) (nd : Nat → NodeC) (i D P : Nat) (w : World) (ht : w.cell? ⟨tb, 0, none⟩ = some (.slice (some ⟨b, off, none⟩) n cap)) (hr : NCells w b off n nd) (hi : i < n) (hn : n ≤ 512)
    (hk : ∀ j, j < (nd i).kL → 0 ≤ (nd i).kz j ∧ (nd i).kz j < n ∧ (nd ((nd i).kz j).toNat).dL = D ∧ (nd ((nd i).kz j).toNat).kL = P) (hkl : (nd i).kL ≤ 128) (hD : D ≤ 8) (hP : P ≤ 8)
    (hz : 0 < (nd i).kL → evD nd (nd i).kz (nd i).kL = 0 → evP nd (nd i).kz (nd i).kL = 0 → D = 1 ∧ P = 0)
    (hnz : ¬(evD nd (nd i).kz (nd i).kL = 0 ∧ evP nd (nd i).kz (nd i).kL = 0) → evD nd (nd i).kz (nd i).kL = D ∧ evP nd (nd i).kz (nd i).kL = P) :
    Calls Fahg.prog 89 #[.pointer (some ⟨tb, 0, none⟩), .pointer (some ⟨b, off + i * 4, none⟩)] w fun e w' => e = .returned (.bool true) ∧ Below w.heap.size w w' := by
  have HR : Hid (NCells w b off n nd) := hr
  have HK : Hid _ := hk
  obtain ⟨h0, h1, h2, h3, h4⟩ := hr i hi
  have HKI : Hid _ := h0.i
  have HZ : Hid _ := hz
  have HNZ : Hid _ := hnz
  have HD : Hid (∀ m, evD nd (nd i).kz (m + 1) = max (evD nd (nd i).kz m) (trimC 0 (nd ((nd i).kz m).toNat).dz (nd ((nd i).kz m).toNat).dL)) := fun m => rfl
  have HPP : Hid (∀ m, evP nd (nd i).kz (m + 1) = max (evP nd (nd i).kz m) (trimC (-1) (nd ((nd i).kz m).toNat).kz (nd ((nd i).kz m).toNat).kL)) := fun m => rfl
  have HD8 : Hid (∀ m, m ≤ (nd i).kL → evD nd (nd i).kz m ≤ 8 ∧ evP nd (nd i).kz m ≤ 8) := fun m hm => ⟨evD_le _ _ _ _ fun j hj => by have := (hk j (by omega)).2.2.1; omega, evP_le _ _ _ _ fun j hj => by have := (hk j (by omega)).2.2.2; omega⟩
  have HF0 : Hid (evD nd (nd i).kz 0 = 0 ∧ evP nd (nd i).kz 0 = 0) := ⟨rfl, rfl⟩
  clear hr hk h0 hz hnz
  generalize hKL : (nd i).kL = kL at *
  generalize hKA : (nd i).kA = kA at *
  generalize hKC : (nd i).kC = kC at *
  generalize hKZ : (nd i).kz = kz at *
  generalize evD nd kz = fD at *
  generalize evP nd kz = fP at *
  by_cases hk0 : kL = 0
  · have d1 : ((kL : Int) == 0) = true := by simp; omega
    clear hk0
    go_enter Fahg.func89, Fahg.ntmps89
    go_wp2_with fail
    go_ret
    exact ⟨rfl, Below.refl _ _⟩
  have d1 : ((kL : Int) == 0) = false := by simp; omega
  rcases HKI.out with h0 | ⟨b2, off2, e2, hc2⟩
  · omega
  subst e2
  have c0 := (hc2 0 (by omega)).1
  rw [Nat.add_zero] at c0
  obtain ⟨k0, k1, k2, k3⟩ := HK.out 0 (by omega)
  obtain ⟨z0, hz0⟩ : ∃ z : Nat, kz 0 = z := ⟨(kz 0).toNat, by omega⟩
  rw [hz0] at c0 k0 k1 k2 k3
  rw [Int.toNat_natCast] at k2 k3
  obtain ⟨q0, q1, q2, q3, q4⟩ := HR.out z0 (by omega)
  rw [k2] at q3
  rw [k3] at q4
  have HC2 : Hid _ := hc2
  clear hc2 q0
  go_enter Fahg.func89, Fahg.ntmps89
  go_wp2_with fail
  go_quiet (fail)
  have HB0 : Hid (Below w.heap.size w (w.drewN nq)) := below_drewN' (Below.refl _ _) _
  have y1 : (w.drewN nq).cell? ⟨b, off + i * 4 + 3, none⟩ = some (.slice (some ⟨b2, off2, none⟩) kL kC) := h4
  generalize w.drewN nq = w0 at *
  go_wp2_with fail
  go_loopg [5, 6, 53] kL (fun k X Y I wr => ∃ j : Nat, j + k = kL ∧ X = .int .i64 (fD j : Nat) ∧ Y = .int .i64 (fP j : Nat) ∧ I = .int .i64 (j : Nat) ∧ Hid (Below w.heap.size w wr))
  case atStart => exact ⟨0, by omega, by rw [HF0.out.1]; rfl, by rw [HF0.out.2]; rfl, rfl, HB0⟩
  obtain ⟨j, hj, rfl, rfl, rfl, HB⟩ := hrel
  clear HB0 y1
  by_cases hlt : j < kL
  case pos =>
    have c9 := Below.kept HB.out (HC2.out j hlt).1
    obtain ⟨k0', k1', k2', k3'⟩ := HK.out j hlt
    obtain ⟨z, hz⟩ : ∃ z : Nat, kz j = z := ⟨(kz j).toNat, by omega⟩
    rw [hz] at c9 k0' k1' k2' k3'
    rw [Int.toNat_natCast] at k2' k3'
    have ht1 := Below.kept HB.out ht
    obtain ⟨r0, r1, r2, r3, r4⟩ := NCells.below HR.out HB.out z (by omega)
    have HT : Hid _ := ltrim_any b (off + z * 4) (nd z) wr r0 (by omega) (by omega) r3 r4
    rw [k2'] at r3
    rw [k3'] at r4
    have t1 := trimC_le 0 (nd z).dz (nd z).dL
    have t2 := trimC_le (-1) (nd z).kz (nd z).kL
    have f1 := HD.out j
    have f2 := HPP.out j
    rw [hz, Int.toNat_natCast] at f1 f2
    obtain ⟨g1, g2⟩ := HD8.out j (by omega)
    generalize trimC 0 (nd z).dz (nd z).dL = d at *
    generalize trimC (-1) (nd z).kz (nd z).kL = p at *
    have F1 : Hid _ := f1
    have F2 : Hid _ := f2
    have hd8 : d ≤ 8 := by omega
    have hp8 : p ≤ 8 := by omega
    clear f1 f2 hz r0 t1 t2 k2' k3'
    go_wp2_with fail
    refine Calls.mono HT.out ?_
    rintro e w1 ⟨rfl, hb1⟩
    have HB1 : Hid (Below w.heap.size w w1) := HB.out.trans (hb1.mono HB.out.size)
    clear hb1 HT r1 r2 r3 r4 ht1 c9
    by_cases m1 : fD j < d <;> by_cases m2 : fP j < p
    all_goals
      go_wp2_with fail
      go_roundg (gk - 1)
      case rel => exact ⟨j + 1, by omega, by rw [F1.out]; simp; omega, by rw [F2.out]; simp; omega, by simp, HB1⟩
      case measure => omega
  have hje : j = kL := by omega
  subst hje
  obtain ⟨g1, g2⟩ := HD8.out j (by omega)
  by_cases hd0 : fD j = 0
  · have e1 : (((fD j : Nat) : Int) == 0) = true := by simp; omega
    by_cases hp0 : fP j = 0
    · have e2 : (((fP j : Nat) : Int) == 0) = true := by simp; omega
      obtain ⟨rfl, rfl⟩ := HZ.out (by omega) hd0 hp0
      clear hd0 hp0
      go_wp2_with fail
      go_ret
      exact ⟨rfl, HB.out⟩
    · have e2 : (((fP j : Nat) : Int) == 0) = false := by simp; omega
      obtain ⟨x1, x2⟩ := HNZ.out (by omega)
      have e3 : (((fD j : Nat) : Int) == (D : Nat)) = true := by rw [x1]; simp
      have e4 : (((fP j : Nat) : Int) == (P : Nat)) = true := by rw [x2]; simp
      clear hd0 hp0 x1 x2
      go_wp2_with fail
      go_ret
      exact ⟨ret_bool (by simp_all), HB.out⟩
  · have e1 : (((fD j : Nat) : Int) == 0) = false := by simp; omega
    obtain ⟨x1, x2⟩ := HNZ.out (by omega)
    have e3 : (((fD j : Nat) : Int) == (D : Nat)) = true := by rw [x1]; simp
    have e4 : (((fP j : Nat) : Int) == (P : Nat)) = true := by rw [x2]; simp
    clear hd0 x1 x2
    go_wp2_with fail
    go_ret
    exact ⟨ret_bool (by simp_all), HB.out⟩
end Go.Proofs.Ygcfah
