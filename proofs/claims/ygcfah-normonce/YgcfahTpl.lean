/- law.plainLinks. -/
import Derived.Test.YgcfahTarr
import Derived.Deep.OwnRows
namespace Go.Proofs.Ygcfah
open Go.RowKit
set_option linter.unusedVariables false
set_option linter.unusedSimpArgs false
def PLinks (n : Nat) (root : Int) (nd : Nat → NodeC) : Prop := (∀ i, i < n → Kab n nd i) ∧ Links n root nd
theorem info3 : (Fahg.prog.info? 3).map (fun i => (i.zero, i.size, i.bytes)) = some (some (.int .i64 0), 1, 8) := by kernel_rfl
theorem occN_le (kz : Nat → Int) (k : Int) (m : Nat) : occN kz k m ≤ m := by
  induction m with
  | zero => simp [occN]
  | succ m ih => simp only [occN]; split <;> omega
theorem occ_le (nd : Nat → NodeC) (k : Int) (i : Nat) (h : ∀ x, x < i → (nd x).kL ≤ 128) : occ nd k i ≤ 128 * i := by
  induction i with
  | zero => simp [occ]
  | succ i ih =>
    have h1 := ih fun x hx => h x (by omega)
    have h2 := occN_le (nd i).kz k (nd i).kL
    have h3 := h i (by omega)
    simp only [occ]
    omega
theorem occN_no (kz : Nat → Int) (k : Nat) (j : Nat) (h : kz j = -1) : occN kz k (j + 1) = occN kz k j := by
  simp only [occN]
  rw [if_neg (by omega)]
  omega
set_option maxRecDepth 100000 in
set_option maxHeartbeats 1000000 in
theorem plinks_any (tb b off n cap : Nat) (root : Int) (nd : Nat → NodeC) (w : World) (ht : w.cell? ⟨tb, 0, none⟩ = some (.slice (some ⟨b, off, none⟩) n cap)) (ht2 : w.cell? ⟨tb, 1, none⟩ = some (.int .i16 root)) (hr : NCells w b off n nd) (hn : n ≤ 512) (hr1 : -1 ≤ root) (hr2 : root < n) (hkl : ∀ i, i < n → (nd i).kL ≤ 128) :
    Calls Fahg.prog 80 #[.pointer (some ⟨tb, 0, none⟩)] w fun e w' => e = .returned (.bool (pB (PLinks n root nd))) ∧ Below w.heap.size w w' := by
  have HR : Hid (NCells w b off n nd) := hr
  have HANS : Hid ((PLinks n root nd → pB (PLinks n root nd) = true) ∧ (¬PLinks n root nd → pB (PLinks n root nd) = false)) := ⟨pB_true, pB_false⟩
  clear hr
  have htb : tb < w.heap.size := World.block_lt_of_cell? w _ ht
  generalize pB (PLinks n root nd) = ANS at *
  have HKL : Hid _ := hkl
  clear hkl
  have hmk := run_make_row' (P := Fahg.prog) 249 3 (.int .i64 0) 8 Fahg.underlying249 info3 rfl .i64 .i64 n (by omega) (by omega)
  go_enter Fahg.func80, Fahg.ntmps80
  go_wp2_with fail
  go_loopg [20] n (fun k I wr => ∃ i : Nat, i + k = n ∧ I = .int .i64 (i : Nat) ∧ Hid (Arr wr w.heap.size n (fun x => .int .i64 (occ nd x i : Nat))) ∧ Hid (Below w.heap.size w wr) ∧ Hid (∀ x, x < i → Kab n nd x))
  case atStart =>
    refine ⟨0, by omega, rfl, ?_, ?_, fun x hx => absurd hx (by omega)⟩
    · refine arr_new w _ 3 n _ fun k hk => ?_
      have e := toList_madeCells_one (.int .i64 0) n
      rw [← Array.getElem?_toList, e, List.getElem?_replicate, if_pos hk]
      rfl
    · exact below_alloc (Below.refl _ _) (Nat.le_refl _) _
  clear hmk
  obtain ⟨i, hik, rfl, HAS, HB, HSH⟩ := hrel
  have t1 := Below.kept HB.out ht
  have t2 := Below.kept HB.out ht2
  by_cases hlt : i < n
  case pos =>
    obtain ⟨q0, q1, q2, q3, q4⟩ := NCells.below HR.out HB.out i hlt
    have HKI : Hid (IRow w .i16 (nd i).kA (nd i).kL (nd i).kz) := (HR.out i hlt).1.i
    have hk8 := HKL.out i hlt
    have HOX : Hid (∀ k : Int, occ nd k (i + 1) = occ nd k i + occN (nd i).kz k (nd i).kL) := fun k => rfl
    generalize (nd i).kA = kA at *
    clear q0
    go_wp2_with fail
    go_loopg [32] (nd i).kL (fun k J wx => ∃ j : Nat, j + k = (nd i).kL ∧ J = .int .i64 (j : Nat) ∧ Hid (Arr wx w.heap.size n (fun x => .int .i64 ((occ nd x i + occN (nd i).kz x j : Nat) : Int))) ∧ Hid (Below w.heap.size w wx) ∧ Hid (∀ y, y < j → (nd i).kz y ≠ -1 → (i : Int) < (nd i).kz y ∧ (nd i).kz y < n))
    case atStart => exact ⟨0, by omega, rfl, HAS, HB, fun y hy => absurd hy (by omega)⟩
    obtain ⟨j, hjk, rfl, HAX, HBX, HJX⟩ := hrel
    have x1 := Below.kept HBX.out ht
    by_cases hjl : j < (nd i).kL
    case neg =>
      have hje : j = (nd i).kL := by omega
      subst hje
      go_wp2_with fail
      go_roundg (n - (i + 1))
      case rel =>
        refine ⟨i + 1, by omega, by simp, HAX, HBX, ?_⟩
        intro x hx
        by_cases hxi : x = i
        · subst hxi; exact HJX.out
        · exact HSH.out x (by omega)
      case measure => omega
    rcases HKI.out with h0 | ⟨b2, off2, e2, hc2⟩
    · omega
    subst e2
    have c9 := Below.kept HBX.out (hc2 j hjl).1
    obtain ⟨hbd1, hbd2⟩ := bnd_i16 (hc2 j hjl).2
    clear hc2
    by_cases hm : (nd i).kz j = -1
    · rw [hm] at c9
      have HKS : Hid (∀ k : Nat, occN (nd i).kz k (j + 1) = occN (nd i).kz k j) := fun k => occN_no _ _ _ hm
      have HMM : Hid _ := hm
      clear hm hbd1 hbd2
      go_wp2_with fail
      go_roundg (gk - 1)
      case rel =>
        refine ⟨j + 1, by omega, by simp, HAX.out.congr fun k hk => by rw [HKS.out], HBX, ?_⟩
        intro y hy hne
        by_cases hyj : y = j
        · subst hyj; exact absurd HMM.out hne
        · exact HJX.out y (by omega) hne
      case measure => omega
    generalize hK : (nd i).kz j = K at *
    have HKE : Hid _ := hK
    have hm1 : (K == -1) = false := by simp; exact hm
    have HBAD : Hid (¬((i : Int) < K ∧ K < n) → ANS = false) := by
      intro h
      refine HANS.out.2 fun h2 => h ?_
      have := h2.1 i hlt j hjl (by rw [hK]; exact hm)
      rwa [hK] at this
    clear hK hm
    by_cases hK1 : K ≤ i
    · have d1 : decide (K ≤ (i : Int)) = true := by simp; omega
      have HE : Hid (ANS = false) := HBAD.out (by omega)
      go_wp2_with fail
      go_ret
      exact ⟨ret_bool HE.out.symm, HBX.out⟩
    have d1 : decide (K ≤ (i : Int)) = false := by simp; omega
    by_cases hK2 : (n : Int) ≤ K
    · have d2 : decide ((n : Int) ≤ K) = true := by simp; omega
      have HE : Hid (ANS = false) := HBAD.out (by omega)
      go_wp2_with fail
      go_ret
      exact ⟨ret_bool HE.out.symm, HBX.out⟩
    obtain ⟨z, hz⟩ : ∃ z : Nat, K = z := ⟨K.toNat, by omega⟩
    subst hz
    have d2 : decide ((n : Int) ≤ (z : Int)) = false := by simp; omega
    have hzn : z < n := by omega
    have hzi : i < z := by omega
    have aZ := HAX.out.c z hzn
    have fZ := HAX.out.z z hzn
    have HKS : Hid (∀ k : Nat, occN (nd i).kz k (j + 1) = occN (nd i).kz k j + (if k = z then 1 else 0)) := by
      intro k
      simp only [occN, HKE.out]
      by_cases h : k = z
      · simp [h]
      · rw [if_neg h, if_neg (by omega)]
    have hb1 := occ_le nd z i fun x hx => HKL.out x (by omega)
    have hb2 := occN_le (nd i).kz z j
    generalize hcc : occ nd z i + occN (nd i).kz z j = cc at *
    have HCC : Hid _ := hcc
    have hcb : cc ≤ 100000 := by omega
    clear hcc hb1 hb2
    go_wp2_with fail
    go_roundg (gk - 1)
    case rel =>
      refine ⟨j + 1, by omega, by simp, ?_, ?_, ?_⟩
      · refine (HAX.out.set hzn _).congr fun k hk => ?_
        unfold putF
        rw [HKS.out k]
        by_cases hkz : k = z
        · subst hkz
          have := HCC.out
          simp
          omega
        · simp [hkz]
      · exact HBX.out.setCell (Nat.le_refl _) _
      · intro y hy hne
        by_cases hyj : y = j
        · subst hyj; rw [HKE.out]; omega
        · exact HJX.out y (by omega) hne
    case measure => omega
  have hin : i = n := by omega
  subst hin
  obtain ⟨W2, hW2⟩ : ∃ W2, W2 = wr := ⟨_, rfl⟩
  subst hW2
  go_wp2_with fail
  go_loopg [62] i (fun k I wx => ∃ x : Nat, x + k = i ∧ I = .int .i64 (x : Nat) ∧ wx = W2 ∧ Hid (∀ y : Nat, y < x → occ nd y i ≤ 1 ∧ ((y : Int) = root → occ nd y i = 0)))
  case atStart => exact ⟨0, by omega, rfl, rfl, fun y hy => absurd hy (by omega)⟩
  obtain ⟨x, hxk, rfl, rfl, HX⟩ := hrel
  by_cases hxl : x < i
  case neg =>
    have hxe : x = i := by omega
    subst hxe
    have HE : Hid (ANS = true) := HANS.out.1 ⟨HSH.out, HX.out⟩
    go_wp2_with fail
    go_ret
    exact ⟨ret_bool HE.out.symm, HB.out⟩
  have aX := HAS.out.c x hxl
  have hb1 := occ_le nd x i fun y hy => HKL.out y (by omega)
  generalize hcc : occ nd x i = cc at *
  have HCC : Hid _ := hcc
  clear hcc
  have HBAD : Hid (¬(cc ≤ 1 ∧ ((x : Int) = root → cc = 0)) → ANS = false) := by
    intro h
    refine HANS.out.2 fun h2 => h ?_
    have := h2.2 x hxl
    rwa [HCC.out] at this
  by_cases hc1 : 1 < cc
  · have d1 : decide ((1 : Int) < cc) = true := by simp; omega
    have HE : Hid (ANS = false) := HBAD.out (by omega)
    go_wp2_with fail
    go_ret
    exact ⟨ret_bool HE.out.symm, HB.out⟩
  have d1 : decide ((1 : Int) < cc) = false := by simp; omega
  by_cases hc0 : 0 < cc
  · have d2 : decide ((0 : Int) < cc) = true := by simp; omega
    by_cases hxr : (x : Int) = root
    · have d3 : ((x : Int) == root) = true := by simp [hxr]
      have HE : Hid (ANS = false) := HBAD.out (by omega)
      clear hxr
      go_wp2_with fail
      go_ret
      exact ⟨ret_bool HE.out.symm, HB.out⟩
    · have d3 : ((x : Int) == root) = false := by simp [hxr]
      have HXR : Hid _ := hxr
      clear hxr
      go_wp2_with fail
      go_roundg (gk - 1)
      case rel =>
        refine ⟨x + 1, by omega, by simp, rfl, ?_⟩
        intro y hy
        by_cases hyx : y = x
        · subst hyx; rw [HCC.out]; exact ⟨by omega, fun h => absurd h HXR.out⟩
        · exact HX.out y (by omega)
      case measure => omega
  · have d2 : decide ((0 : Int) < cc) = false := by simp; omega
    go_wp2_with fail
    go_roundg (gk - 1)
    case rel =>
      refine ⟨x + 1, by omega, by simp, rfl, ?_⟩
      intro y hy
      by_cases hyx : y = x
      · subst hyx; rw [HCC.out]; exact ⟨by omega, fun h => by omega⟩
      · exact HX.out y (by omega)
    case measure => omega
end Go.Proofs.Ygcfah
