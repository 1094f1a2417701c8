/- tree.Tree.evened, tree.Tree.words. -/
import Derived.Test.YgcfahTlaw
namespace Go.Proofs.Ygcfah
open Go.RowKit
set_option linter.unusedVariables false
set_option linter.unusedSimpArgs false
theorem evD_le (nd : Nat → NodeC) (kz : Nat → Int) (m : Nat) (B : Nat) (h : ∀ j, j < m → (nd (kz j).toNat).dL ≤ B) : evD nd kz m ≤ B := by
  induction m with
  | zero => simp [evD]
  | succ m ih =>
    rw [evD]
    have h1 := ih fun j hj => h j (by omega)
    have h2 := trimC_le 0 (nd (kz m).toNat).dz (nd (kz m).toNat).dL
    have h3 := h m (by omega)
    omega
theorem evP_le (nd : Nat → NodeC) (kz : Nat → Int) (m : Nat) (B : Nat) (h : ∀ j, j < m → (nd (kz j).toNat).kL ≤ B) : evP nd kz m ≤ B := by
  induction m with
  | zero => simp [evP]
  | succ m ih =>
    rw [evP]
    have h1 := ih fun j hj => h j (by omega)
    have h2 := trimC_le (-1) (nd (kz m).toNat).kz (nd (kz m).toNat).kL
    have h3 := h m (by omega)
    omega
/-- The data words that the elements of a list are given. -/
def ev2 (nd : Nat → NodeC) (i : Nat) : Nat := if 0 < (nd i).kL ∧ evD nd (nd i).kz (nd i).kL + evP nd (nd i).kz (nd i).kL = 0 then 1 else evD nd (nd i).kz (nd i).kL
theorem ev2_sum (nd : Nat → NodeC) (i : Nat) : ev2 nd i + evP nd (nd i).kz (nd i).kL = evSum nd i := by
  unfold ev2 evSum
  split <;> omega
set_option maxRecDepth 100000 in
set_option maxHeartbeats 1000000 in
theorem evened_any (tb b off n cap : Nat) (nd : Nat → NodeC) (i : Nat) (w : World) (ht : w.cell? ⟨tb, 0, none⟩ = some (.slice (some ⟨b, off, none⟩) n cap)) (hr : NCells w b off n nd) (hi : i < n) (hn : n ≤ 512)
    (hk : ∀ j, j < (nd i).kL → 0 ≤ (nd i).kz j ∧ (nd i).kz j < n ∧ (nd ((nd i).kz j).toNat).dL ≤ 8 ∧ (nd ((nd i).kz j).toNat).kL ≤ 8) (hkl : (nd i).kL ≤ 128) :
    Calls Fahg.prog 84 #[.pointer (some ⟨tb, 0, none⟩), .pointer (some ⟨b, off + i * 4, none⟩)] w fun e w' => e = .returned (.tuple #[.int .i64 (ev2 nd i : Nat), .int .i64 (evP nd (nd i).kz (nd i).kL : Nat)]) ∧ Below w.heap.size w w' := by
  have HR : Hid (NCells w b off n nd) := hr
  have HK : Hid _ := hk
  obtain ⟨h0, h1, h2, h3, h4⟩ := hr i hi
  have HKI : Hid _ := h0.i
  have HE : Hid _ := ev2_sum nd i
  have HE2 : Hid (ev2 nd i = if 0 < (nd i).kL ∧ evD nd (nd i).kz (nd i).kL + evP nd (nd i).kz (nd i).kL = 0 then 1 else evD nd (nd i).kz (nd i).kL) := rfl
  have HD : Hid (∀ m, evD nd (nd i).kz (m + 1) = max (evD nd (nd i).kz m) (trimC 0 (nd ((nd i).kz m).toNat).dz (nd ((nd i).kz m).toNat).dL)) := fun m => rfl
  have HP : Hid (∀ m, evP nd (nd i).kz (m + 1) = max (evP nd (nd i).kz m) (trimC (-1) (nd ((nd i).kz m).toNat).kz (nd ((nd i).kz m).toNat).kL)) := fun m => rfl
  have HD8 : Hid (∀ m, m ≤ (nd i).kL → evD nd (nd i).kz m ≤ 8 ∧ evP nd (nd i).kz m ≤ 8) := fun m hm => ⟨evD_le _ _ _ _ fun j hj => (hk j (by omega)).2.2.1, evP_le _ _ _ _ fun j hj => (hk j (by omega)).2.2.2⟩
  clear hr hk h0
  generalize hKL : (nd i).kL = kL at *
  generalize hKA : (nd i).kA = kA at *
  generalize hKC : (nd i).kC = kC at *
  generalize hKZ : (nd i).kz = kz at *
  have HF0 : Hid (evD nd kz 0 = 0 ∧ evP nd kz 0 = 0) := ⟨rfl, rfl⟩
  generalize evD nd kz = fD at *
  generalize evP nd kz = fP at *
  go_enter Fahg.func84, Fahg.ntmps84
  go_wp2_with fail
  go_loopg [4, 5, 15] kL (fun k D P I wr => ∃ j : Nat, j + k = kL ∧ D = .int .i64 (fD j : Nat) ∧ P = .int .i64 (fP j : Nat) ∧ I = .int .i64 (j : Nat) ∧ Below w.heap.size w wr)
  case atStart => exact ⟨0, by omega, by rw [HF0.out.1]; rfl, by rw [HF0.out.2]; rfl, rfl, Below.refl _ _⟩
  obtain ⟨j, hj, rfl, rfl, rfl, hb⟩ := hrel
  by_cases hlt : j < kL
  case pos =>
    rcases HKI.out with h0 | ⟨b2, off2, e2, hc2⟩
    · omega
    subst e2
    have c9 := Below.kept hb (hc2 j hlt).1
    obtain ⟨k0, k1, k2, k3⟩ := HK.out j hlt
    obtain ⟨z, hz⟩ : ∃ z : Nat, kz j = z := ⟨(kz j).toNat, by omega⟩
    rw [hz] at c9 k0 k1 k2 k3
    rw [Int.toNat_natCast] at k2 k3
    have ht1 := Below.kept hb ht
    obtain ⟨q0, q1, q2, q3, q4⟩ := NCells.below HR.out hb z (by omega)
    go_wp2_with fail
    have HT : Hid _ := trimmed_any b (off + z * 4) (nd z) wr q0 (by omega) (by omega) q3 q4
    have t1 := trimC_le 0 (nd z).dz (nd z).dL
    have t2 := trimC_le (-1) (nd z).kz (nd z).kL
    have f1 := HD.out j
    have f2 := HP.out j
    rw [hz, Int.toNat_natCast] at f1 f2
    obtain ⟨g1, g2⟩ := HD8.out j (by omega)
    have HB : Hid _ := hb
    generalize trimC 0 (nd z).dz (nd z).dL = d at *
    generalize trimC (-1) (nd z).kz (nd z).kL = p at *
    have F1 : Hid _ := f1
    have F2 : Hid _ := f2
    clear f1 f2 hb
    refine Calls.mono HT.out ?_
    rintro e w1 ⟨rfl, hb1⟩
    have HB1 : Hid (Below w.heap.size w w1) := HB.out.trans (hb1.mono HB.out.size)
    clear hb1 HB HT q0 q1 q2 q3 q4 ht1 c9
    by_cases m1 : fD j < d <;> by_cases m2 : fP j < p
    all_goals
      go_wp2_with fail
      go_roundg (gk - 1)
      case rel => exact ⟨j + 1, by omega, by rw [F1.out]; simp; omega, by rw [F2.out]; simp; omega, by simp, HB1.out⟩
      case measure => omega
  have hje : j = kL := by omega
  subst hje
  obtain ⟨g1, g2⟩ := HD8.out j (by omega)
  have h41 := Below.kept hb h4
  have HB : Hid _ := hb
  clear hb
  by_cases hc : 0 < j ∧ fD j + fP j = 0
  · have HX : Hid (ev2 nd i = 1) := by have := HE2.out; rw [if_pos hc] at this; exact this
    have e1 : fD j = 0 := by omega
    have e2 : fP j = 0 := by omega
    rw [e1, e2]
    have HY : Hid (fP j = 0) := e2
    clear e1 e2
    have hj1 : decide ((0 : Int) < j) = true := by simp; omega
    go_wp2_with fail
    exact bodyPost_ret (v := .tuple #[.int .i64 1, .int .i64 0]) (by simp [results, Fahg.results84]) rfl ⟨by rw [HX.out, HY.out]; rfl, HB.out⟩
  · have HX : Hid (ev2 nd i = fD j) := by have := HE2.out; rw [if_neg hc] at this; exact this
    by_cases hj0 : j = 0
    · subst hj0
      go_wp2_with fail
      exact bodyPost_ret (v := .tuple #[.int .i64 (fD 0 : Nat), .int .i64 (fP 0 : Nat)]) (by simp [results, Fahg.results84]) rfl ⟨by rw [HX.out], HB.out⟩
    · have hj1 : decide ((0 : Int) < j) = true := by simp; omega
      have hj2 : (((fD j : Nat) : Int) + (fP j : Nat) == 0) = false := by simp; omega
      go_wp2_with fail
      exact bodyPost_ret (v := .tuple #[.int .i64 (fD j : Nat), .int .i64 (fP j : Nat)]) (by simp [results, Fahg.results84]) rfl ⟨by rw [HX.out], HB.out⟩
theorem Tok.el {n : Nat} {nd : Nat → NodeC} (h : Tok n nd) {i : Nat} (hi : i < n) (h2 : (nd i).kind = 2) (h7 : (nd i).code = 7) (j : Nat) (hj : j < (nd i).kL) :
    0 ≤ (nd i).kz j ∧ (nd i).kz j < n ∧ (nd ((nd i).kz j).toNat).dL ≤ 8 ∧ (nd ((nd i).kz j).toNat).kL ≤ 8 := by
  have hs := h.shp i hi
  unfold Shp at hs
  have h1 : (nd i).kz j ≠ -1 ∧ (nd ((nd i).kz j).toNat).kind = 1 := by
    rcases hs with hs | ⟨_, _, _, hs | hs | hs⟩
    · omega
    · omega
    · omega
    · exact hs.2.2 j hj
  have hk := h.kab i hi j hj h1.1
  have hs2 := h.shp ((nd i).kz j).toNat (by omega)
  unfold Shp at hs2
  rcases hs2 with hs2 | hs2
  · omega
  · omega
theorem Tok.kl {n : Nat} {nd : Nat → NodeC} (h : Tok n nd) {i : Nat} (hi : i < n) : (nd i).kL ≤ 128 ∧ (nd i).dL ≤ 128 := by
  have hs := h.shp i hi
  unfold Shp at hs
  omega
theorem evSum_le {n : Nat} {nd : Nat → NodeC} (h : Tok n nd) {i : Nat} (hi : i < n) (h2 : (nd i).kind = 2) (h7 : (nd i).code = 7) : evSum nd i ≤ 16 := by
  have h1 := evD_le nd (nd i).kz (nd i).kL 8 fun j hj => (h.el hi h2 h7 j hj).2.2.1
  have h3 := evP_le nd (nd i).kz (nd i).kL 8 fun j hj => (h.el hi h2 h7 j hj).2.2.2
  unfold evSum
  split <;> omega
set_option maxRecDepth 100000 in
set_option maxHeartbeats 1000000 in
theorem twords_any (tb b off n cap : Nat) (nd : Nat → NodeC) (i : Nat) (w : World) (ht : w.cell? ⟨tb, 0, none⟩ = some (.slice (some ⟨b, off, none⟩) n cap)) (hr : NCells w b off n nd) (hi : i < n) (hn : n ≤ 512) (hT : Tok n nd) :
    Calls Fahg.prog 141 #[.pointer (some ⟨tb, 0, none⟩), .pointer (some ⟨b, off + i * 4, none⟩)] w fun e w' => e = .returned (.int .i64 (wds nd i : Nat)) ∧ Below w.heap.size w w' := by
  obtain ⟨h0, h1, h2, h3, h4⟩ := hr i hi
  have hkl := hT.kl hi
  have hs := hT.shp i hi
  unfold Shp at hs
  have HW : Hid (wds nd i = if (nd i).kind = 1 then trimC 0 (nd i).dz (nd i).dL + trimC (-1) (nd i).kz (nd i).kL
  else if (nd i).code = 6 then (nd i).kL
  else if (nd i).code = 7 then 1 + (nd i).kL * evSum nd i
  else ((nd i).dL * elW (nd i).code + 7) / 8) := rfl
  have HTR : Hid _ := trimmed_any b (off + i * 4) (nd i) w h0 (by omega) (by omega) h3 h4
  rcases hs with ⟨s1, _⟩ | ⟨s1, _, _, s2⟩
  · rw [s1] at h1
    have HS1 : Hid _ := s1
    have t1 := trimC_le 0 (nd i).dz (nd i).dL
    have t2 := trimC_le (-1) (nd i).kz (nd i).kL
    generalize trimC 0 (nd i).dz (nd i).dL = d at *
    generalize trimC (-1) (nd i).kz (nd i).kL = p at *
    clear s1
    go_enter Fahg.func141, Fahg.ntmps141
    go_wp2_with fail
    refine Calls.mono HTR.out ?_
    rintro e w1 ⟨rfl, hb⟩
    go_wp2_with fail
    go_ret
    exact ⟨ret_int (by rw [HW.out, if_pos HS1.out]; omega), hb⟩
  · have s3 : ((nd i).kind == 1) = false := by simp; omega
    have HS1 : Hid _ := s1
    have n1 : Hid ((nd i).kind ≠ 1) := by intro h; omega
    clear HTR
    rcases s2 with ⟨c0, c1, _, _⟩ | ⟨c0, _⟩ | ⟨c0, _⟩
    · have e6 : ((nd i).code == 6) = false := by simp; omega
      have e7 : ((nd i).code == 7) = false := by simp; omega
      have HW2 : Hid (wds nd i = ((nd i).dL * elW (nd i).code + 7) / 8) := (by rw [HW.out, if_neg n1.out, if_neg (by omega), if_neg (by omega)] : wds nd i = ((nd i).dL * elW (nd i).code + 7) / 8)
      have hc : (nd i).code = 2 ∨ (nd i).code = 3 ∨ (nd i).code = 4 ∨ (nd i).code = 5 := by omega
      clear s1 HW c0 c1 n1 HS1
      rcases hc with hc | hc | hc | hc
      all_goals
        rw [hc] at h2
        have HW3 : Hid (wds nd i = ((nd i).dL * elW (nd i).code + 7) / 8 ∧ (nd i).code = _) := ⟨HW2.out, hc⟩
        clear hc HW2 e6 e7
        go_enter Fahg.func141, Fahg.ntmps141
        go_wp2_with fail
        go_quiet (fail)
        go_wp2_with fail
        go_ret
        refine ⟨ret_int ?_, below_drewN' (Below.refl _ _) _⟩
        rw [HW3.out.1, HW3.out.2]
        simp [elW]
        try omega
    · have e6 : ((nd i).code == 6) = true := by simp [c0]
      have HW2 : Hid (wds nd i = (nd i).kL) := (by rw [HW.out, if_neg n1.out, if_pos c0] : wds nd i = (nd i).kL)
      clear s1 c0 HW n1 HS1
      go_enter Fahg.func141, Fahg.ntmps141
      go_wp2_with fail
      go_ret
      exact ⟨ret_int (by rw [HW2.out]), Below.refl _ _⟩
    · have e6 : ((nd i).code == 6) = false := by simp [c0]
      have e7 : ((nd i).code == 7) = true := by simp [c0]
      have HW2 : Hid (wds nd i = 1 + (nd i).kL * evSum nd i) := (by rw [HW.out, if_neg n1.out, if_neg (by omega), if_pos c0] : wds nd i = 1 + (nd i).kL * evSum nd i)
      have HEV : Hid _ := evened_any tb b off n cap nd i w ht hr hi hn (hT.el hi s1 c0) hkl.1
      have HL := evSum_le hT hi s1 c0
      have HS := ev2_sum nd i
      have hdp : ev2 nd i + evP nd (nd i).kz (nd i).kL ≤ 16 := by omega
      generalize hE2 : ev2 nd i = d at *
      generalize hEP : evP nd (nd i).kz (nd i).kL = p at *
      have hmul : (nd i).kL * (d + p) ≤ 128 * 16 := Nat.mul_le_mul hkl.1 (by omega)
      generalize hM : (nd i).kL * (d + p) = M at *
      have HM : Hid _ := hM
      have hM2 : (((nd i).kL : Nat) : Int) * ((d : Nat) + (p : Nat) : Int) = (M : Nat) := by rw [← hM]; simp
      have HSS : Hid _ := HS
      clear s1 c0 HW n1 HS1 hE2 hEP hM HS hT hr
      go_enter Fahg.func141, Fahg.ntmps141
      go_wp2_with fail
      refine Calls.mono HEV.out ?_
      rintro e w1 ⟨rfl, hb1⟩
      have h41 := Below.kept hb1 h4
      have HB1 : Hid _ := hb1
      clear hb1
      go_wp2_with fail
      go_ret
      exact ⟨ret_int (by rw [HW2.out, ← HSS.out, HM.out]; omega), HB1.out⟩
end Go.Proofs.Ygcfah
