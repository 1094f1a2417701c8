/- tree.Tree.shaped. -/
import Derived.Test.YgcfahTlaw
namespace Go.Proofs.Ygcfah
open Go.RowKit
set_option linter.unusedVariables false
set_option linter.unusedSimpArgs false
set_option maxRecDepth 100000 in
set_option maxHeartbeats 1000000 in
theorem shaped_any (tb b off n cap : Nat) (nd : Nat → NodeC) (i : Nat) (w : World) (ht : w.cell? ⟨tb, 0, none⟩ = some (.slice (some ⟨b, off, none⟩) n cap)) (hr : NCells w b off n nd) (hi : i < n) (hn : n ≤ 512) :
    Calls Fahg.prog 77 #[.pointer (some ⟨tb, 0, none⟩), .int .i64 (i : Nat)] w fun e w' => e = .returned (.bool (pB (Kab n nd i ∧ Shp nd i))) ∧ w' = w := by
  have HR : Hid _ := hr
  obtain ⟨h0, h1, h2, h3, h4⟩ := hr i hi
  have HKI : Hid _ := h0.i
  have HDI : Hid _ := h0.d
  have hkm := h0.km
  have hkl := h0.kl
  have hdm := h0.dm
  have hdl := h0.dl
  have HKB : Hid _ := h0.k
  have HCB : Hid _ := h0.c
  clear hr h0
  generalize hKA : (nd i).kA = kA at *
  generalize hDA : (nd i).dA = dA at *
  clear hKA hDA
  generalize hANS : pB (Kab n nd i ∧ Shp nd i) = ANS
  have HANS : Hid _ := hANS
  clear hANS
  go_enter Fahg.func77, Fahg.ntmps77
  go_wp2_with fail
  go_loopg [23] (nd i).kL (fun k I wr => ∃ j : Nat, j + k = (nd i).kL ∧ I = .int .i64 (j : Nat) ∧ wr = w ∧ Hid (∀ x, x < j → (nd i).kz x ≠ -1 → (i : Int) < (nd i).kz x ∧ (nd i).kz x < n))
  case atStart => exact ⟨0, by omega, rfl, rfl, fun x hx => absurd hx (by omega)⟩
  obtain ⟨j, hj, rfl, rfl, HJ⟩ := hrel
  by_cases hlt : j < (nd i).kL
  case pos =>
    rcases HKI.out with h0 | ⟨b2, off2, e2, hc2⟩
    · omega
    subst e2
    have c9 := (hc2 j hlt).1
    obtain ⟨hbd1, hbd2⟩ := bnd_i16 (hc2 j hlt).2
    clear hc2
    by_cases hm : (nd i).kz j = -1
    · rw [hm] at c9
      go_wp2_with fail
      go_roundg (gk - 1)
      case rel =>
        refine ⟨j + 1, by omega, by simp, rfl, ?_⟩
        intro x hx hne
        by_cases hxj : x = j
        · subst hxj; exact absurd hm hne
        · exact HJ.out x (by omega) hne
      case measure => omega
    · generalize hK : (nd i).kz j = K at *
      have hm1 : (K != -1) = true := by simp; exact hm
      have hbad : ¬((i : Int) < K ∧ K < n) → ANS = false := by
        intro h
        rw [← HANS.out]
        refine pB_false fun h2 => h ?_
        have := h2.1 j hlt (by rw [hK]; exact hm)
        rwa [hK] at this
      have HBAD : Hid _ := hbad
      have HKE : Hid _ := hK
      clear hbad hK
      by_cases hK1 : K ≤ i
      · have d1 : decide (K ≤ (i : Int)) = true := by simp; omega
        go_wp2_with fail
        go_ret
        exact ⟨ret_bool (HBAD.out (by omega)).symm, rfl⟩
      · have d1 : decide (K ≤ (i : Int)) = false := by simp; omega
        by_cases hK2 : (n : Int) ≤ K
        · have d2 : decide ((n : Int) ≤ K) = true := by simp; omega
          go_wp2_with fail
          go_ret
          exact ⟨ret_bool (HBAD.out (by omega)).symm, rfl⟩
        · have d2 : decide ((n : Int) ≤ K) = false := by simp; omega
          go_wp2_with fail
          go_roundg (gk - 1)
          case rel =>
            refine ⟨j + 1, by omega, by simp, rfl, ?_⟩
            intro x hx hne
            by_cases hxj : x = j
            · subst hxj; rw [HKE.out]; omega
            · exact HJ.out x (by omega) hne
          case measure => omega
  have hje : j = (nd i).kL := by omega
  subst hje
  have HKAB : Hid (Kab n nd i) := fun x hx hne => HJ.out x hx hne
  have HA : Hid ((Shp nd i → ANS = true) ∧ (¬Shp nd i → ANS = false)) := ⟨fun h => by rw [← HANS.out]; exact pB_true ⟨HKAB.out, h⟩, fun h => by rw [← HANS.out]; exact pB_false fun h2 => h h2.2⟩
  clear HANS HJ
  by_cases hk1 : (nd i).kind = 1
  · have d1 : ((nd i).kind == 1) = true := by simp [hk1]
    by_cases hc0 : (nd i).code = 0
    · have d2 : ((nd i).code == 0) = true := by simp [hc0]
      by_cases hd8 : (nd i).dL ≤ 8
      · have d3 : decide (((nd i).dL : Int) ≤ 8) = true := by simp; omega
        by_cases hk8 : (nd i).kL ≤ 8
        · have d4 : decide (((nd i).kL : Int) ≤ 8) = true := by simp; omega
          have HE : Hid (ANS = true) := HA.out.1 (.inl ⟨hk1, hc0, hd8, hk8⟩)
          clear hk1 hc0
          go_wp2_with fail
          go_ret
          exact ⟨ret_bool HE.out.symm, rfl⟩
        · have d4 : decide (((nd i).kL : Int) ≤ 8) = false := by simp; omega
          have HE : Hid (ANS = false) := HA.out.2 (by unfold Shp; omega)
          clear hk1 hc0
          go_wp2_with fail
          go_ret
          exact ⟨ret_bool HE.out.symm, rfl⟩
      · have d3 : decide (((nd i).dL : Int) ≤ 8) = false := by simp; omega
        have HE : Hid (ANS = false) := HA.out.2 (by unfold Shp; omega)
        clear hk1 hc0
        go_wp2_with fail
        go_ret
        exact ⟨ret_bool HE.out.symm, rfl⟩
    · have d2 : ((nd i).code == 0) = false := by simp [hc0]
      have HE : Hid (ANS = false) := HA.out.2 (by unfold Shp; omega)
      clear hk1 hc0
      go_wp2_with fail
      go_ret
      exact ⟨ret_bool HE.out.symm, rfl⟩
  have d1 : ((nd i).kind == 1) = false := by simp [hk1]
  by_cases hk2 : (nd i).kind = 2
  case neg =>
    have d2 : ((nd i).kind != 2) = true := by simp [hk2]
    have HE : Hid (ANS = false) := HA.out.2 (by unfold Shp; omega)
    clear hk1 hk2
    go_wp2_with fail
    go_ret
    exact ⟨ret_bool HE.out.symm, rfl⟩
  have d2 : ((nd i).kind != 2) = false := by simp [hk2]
  by_cases hd : (nd i).dL ≤ 128
  case neg =>
    have d3 : decide ((128 : Int) < (nd i).dL) = true := by simp; omega
    have HE : Hid (ANS = false) := HA.out.2 (by unfold Shp; omega)
    clear hk1 hk2
    go_wp2_with fail
    go_ret
    exact ⟨ret_bool HE.out.symm, rfl⟩
  have d3 : decide ((128 : Int) < (nd i).dL) = false := by simp; omega
  by_cases hk : (nd i).kL ≤ 128
  case neg =>
    have d4 : decide ((128 : Int) < (nd i).kL) = true := by simp; omega
    have HE : Hid (ANS = false) := HA.out.2 (by unfold Shp; omega)
    clear hk1 hk2
    go_wp2_with fail
    go_ret
    exact ⟨ret_bool HE.out.symm, rfl⟩
  have d4 : decide ((128 : Int) < (nd i).kL) = false := by simp; omega
  have HK2 : Hid _ := hk2
  have HK1 : Hid _ := hk1
  clear hk1 hk2
  by_cases hc25 : 2 ≤ (nd i).code ∧ (nd i).code ≤ 5
  case pos =>
    have hc : (nd i).code = 2 ∨ (nd i).code = 3 ∨ (nd i).code = 4 ∨ (nd i).code = 5 := by omega
    have HTOP : ∀ T, elTop (nd i).code = T → Hid (((∀ x, x < (nd i).dL → (nd i).dz x < T) → (nd i).kL = 0 → ANS = true) ∧ ((nd i).kL ≠ 0 → ANS = false) ∧ (∀ x, x < (nd i).dL → ¬(nd i).dz x < T → ANS = false)) := by
      rintro T rfl
      refine ⟨fun h hk => HA.out.1 (.inr ⟨HK2.out, hd, hk.symm ▸ by omega, .inl ⟨hc25.1, hc25.2, hk, h⟩⟩), fun hk => HA.out.2 ?_, fun x hx hno => HA.out.2 ?_⟩
      · have h2 := HK2.out
        unfold Shp
        rintro (h | ⟨_, _, _, h | h | h⟩)
        · omega
        · exact hk h.2.2.1
        · omega
        · omega
      · have h2 := HK2.out
        unfold Shp
        rintro (h | ⟨_, _, _, h | h | h⟩)
        · omega
        · exact hno (h.2.2.2 x hx)
        · omega
        · omega
    clear hc25 HA
    rcases hc with hc | hc | hc | hc
    · have HTO := HTOP 256 (by rw [hc]; rfl)
      rw [hc] at h2
      clear hc HTOP
      go_wp2_with fail
      go_loopg [113] (nd i).dL (fun k I wx => ∃ j : Nat, j + k = (nd i).dL ∧ I = .int .i64 (j : Nat) ∧ wx = wr ∧ Hid (∀ x, x < j → (nd i).dz x < 256))
      case atStart => exact ⟨0, by omega, rfl, rfl, fun x hx => absurd hx (by omega)⟩
      obtain ⟨x, hx, rfl, rfl, HX⟩ := hrel
      by_cases hlt : x < (nd i).dL
      case pos =>
        rcases HDI.out with h0 | ⟨b2, off2, e2, hc2⟩
        · omega
        subst e2
        have c9 := (hc2 x hlt).1
        obtain ⟨hbd1, hbd2⟩ := bnd_u64 (hc2 x hlt).2
        clear hc2
        generalize hV : (nd i).dz x = V at *
        have HV : Hid _ := hV
        clear hV
        by_cases hgt : V < 256
        · have d9 : decide ((255 : Int) < V) = false := by simp; omega
          go_wp2_with fail
          go_roundg (gk - 1)
          case rel =>
            refine ⟨x + 1, by omega, by simp, rfl, ?_⟩
            intro y hy
            by_cases hyx : y = x
            · subst hyx; rw [HV.out]; exact hgt
            · exact HX.out y (by omega)
          case measure => omega
        · have d9 : decide ((255 : Int) < V) = true := by simp; omega
          go_wp2_with fail
          go_ret
          exact ⟨ret_bool (HTO.out.2.2 x hlt (by rw [HV.out]; exact hgt)).symm, rfl⟩
      have hxe : x = (nd i).dL := by omega
      subst hxe
      by_cases hk0 : (nd i).kL = 0
      · have HE : Hid (ANS = true) := HTO.out.1 HX.out hk0
        have d9 : (((nd i).kL : Int) == 0) = true := by simp; omega
        clear hk0
        go_wp2_with fail
        go_ret
        exact ⟨ret_bool HE.out.symm, rfl⟩
      · have HE : Hid (ANS = false) := HTO.out.2.1 hk0
        have d9 : (((nd i).kL : Int) == 0) = false := by simp; omega
        clear hk0
        go_wp2_with fail
        go_ret
        exact ⟨ret_bool HE.out.symm, rfl⟩
    · have HTO := HTOP 65536 (by rw [hc]; rfl)
      rw [hc] at h2
      clear hc HTOP
      go_wp2_with fail
      go_loopg [113] (nd i).dL (fun k I wx => ∃ j : Nat, j + k = (nd i).dL ∧ I = .int .i64 (j : Nat) ∧ wx = wr ∧ Hid (∀ x, x < j → (nd i).dz x < 65536))
      case atStart => exact ⟨0, by omega, rfl, rfl, fun x hx => absurd hx (by omega)⟩
      obtain ⟨x, hx, rfl, rfl, HX⟩ := hrel
      by_cases hlt : x < (nd i).dL
      case pos =>
        rcases HDI.out with h0 | ⟨b2, off2, e2, hc2⟩
        · omega
        subst e2
        have c9 := (hc2 x hlt).1
        obtain ⟨hbd1, hbd2⟩ := bnd_u64 (hc2 x hlt).2
        clear hc2
        generalize hV : (nd i).dz x = V at *
        have HV : Hid _ := hV
        clear hV
        by_cases hgt : V < 65536
        · have d9 : decide ((65535 : Int) < V) = false := by simp; omega
          go_wp2_with fail
          go_roundg (gk - 1)
          case rel =>
            refine ⟨x + 1, by omega, by simp, rfl, ?_⟩
            intro y hy
            by_cases hyx : y = x
            · subst hyx; rw [HV.out]; exact hgt
            · exact HX.out y (by omega)
          case measure => omega
        · have d9 : decide ((65535 : Int) < V) = true := by simp; omega
          go_wp2_with fail
          go_ret
          exact ⟨ret_bool (HTO.out.2.2 x hlt (by rw [HV.out]; exact hgt)).symm, rfl⟩
      have hxe : x = (nd i).dL := by omega
      subst hxe
      by_cases hk0 : (nd i).kL = 0
      · have HE : Hid (ANS = true) := HTO.out.1 HX.out hk0
        have d9 : (((nd i).kL : Int) == 0) = true := by simp; omega
        clear hk0
        go_wp2_with fail
        go_ret
        exact ⟨ret_bool HE.out.symm, rfl⟩
      · have HE : Hid (ANS = false) := HTO.out.2.1 hk0
        have d9 : (((nd i).kL : Int) == 0) = false := by simp; omega
        clear hk0
        go_wp2_with fail
        go_ret
        exact ⟨ret_bool HE.out.symm, rfl⟩
    · have HTO := HTOP 4294967296 (by rw [hc]; rfl)
      rw [hc] at h2
      clear hc HTOP
      go_wp2_with fail
      go_loopg [113] (nd i).dL (fun k I wx => ∃ j : Nat, j + k = (nd i).dL ∧ I = .int .i64 (j : Nat) ∧ wx = wr ∧ Hid (∀ x, x < j → (nd i).dz x < 4294967296))
      case atStart => exact ⟨0, by omega, rfl, rfl, fun x hx => absurd hx (by omega)⟩
      obtain ⟨x, hx, rfl, rfl, HX⟩ := hrel
      by_cases hlt : x < (nd i).dL
      case pos =>
        rcases HDI.out with h0 | ⟨b2, off2, e2, hc2⟩
        · omega
        subst e2
        have c9 := (hc2 x hlt).1
        obtain ⟨hbd1, hbd2⟩ := bnd_u64 (hc2 x hlt).2
        clear hc2
        generalize hV : (nd i).dz x = V at *
        have HV : Hid _ := hV
        clear hV
        by_cases hgt : V < 4294967296
        · have d9 : decide ((4294967295 : Int) < V) = false := by simp; omega
          go_wp2_with fail
          go_roundg (gk - 1)
          case rel =>
            refine ⟨x + 1, by omega, by simp, rfl, ?_⟩
            intro y hy
            by_cases hyx : y = x
            · subst hyx; rw [HV.out]; exact hgt
            · exact HX.out y (by omega)
          case measure => omega
        · have d9 : decide ((4294967295 : Int) < V) = true := by simp; omega
          go_wp2_with fail
          go_ret
          exact ⟨ret_bool (HTO.out.2.2 x hlt (by rw [HV.out]; exact hgt)).symm, rfl⟩
      have hxe : x = (nd i).dL := by omega
      subst hxe
      by_cases hk0 : (nd i).kL = 0
      · have HE : Hid (ANS = true) := HTO.out.1 HX.out hk0
        have d9 : (((nd i).kL : Int) == 0) = true := by simp; omega
        clear hk0
        go_wp2_with fail
        go_ret
        exact ⟨ret_bool HE.out.symm, rfl⟩
      · have HE : Hid (ANS = false) := HTO.out.2.1 hk0
        have d9 : (((nd i).kL : Int) == 0) = false := by simp; omega
        clear hk0
        go_wp2_with fail
        go_ret
        exact ⟨ret_bool HE.out.symm, rfl⟩
    · have HTO := HTOP 18446744073709551616 (by rw [hc]; rfl)
      rw [hc] at h2
      clear hc HTOP
      go_wp2_with fail
      go_loopg [113] (nd i).dL (fun k I wx => ∃ j : Nat, j + k = (nd i).dL ∧ I = .int .i64 (j : Nat) ∧ wx = wr ∧ Hid (∀ x, x < j → (nd i).dz x < 18446744073709551616))
      case atStart => exact ⟨0, by omega, rfl, rfl, fun x hx => absurd hx (by omega)⟩
      obtain ⟨x, hx, rfl, rfl, HX⟩ := hrel
      by_cases hlt : x < (nd i).dL
      case pos =>
        rcases HDI.out with h0 | ⟨b2, off2, e2, hc2⟩
        · omega
        subst e2
        have c9 := (hc2 x hlt).1
        obtain ⟨hbd1, hbd2⟩ := bnd_u64 (hc2 x hlt).2
        clear hc2
        generalize hV : (nd i).dz x = V at *
        have HV : Hid _ := hV
        clear hV
        by_cases hgt : V < 18446744073709551616
        · have d9 : decide ((18446744073709551615 : Int) < V) = false := by simp; omega
          go_wp2_with fail
          go_roundg (gk - 1)
          case rel =>
            refine ⟨x + 1, by omega, by simp, rfl, ?_⟩
            intro y hy
            by_cases hyx : y = x
            · subst hyx; rw [HV.out]; exact hgt
            · exact HX.out y (by omega)
          case measure => omega
        · exact absurd hbd2 hgt
      have hxe : x = (nd i).dL := by omega
      subst hxe
      by_cases hk0 : (nd i).kL = 0
      · have HE : Hid (ANS = true) := HTO.out.1 HX.out hk0
        have d9 : (((nd i).kL : Int) == 0) = true := by simp; omega
        clear hk0
        go_wp2_with fail
        go_ret
        exact ⟨ret_bool HE.out.symm, rfl⟩
      · have HE : Hid (ANS = false) := HTO.out.2.1 hk0
        have d9 : (((nd i).kL : Int) == 0) = false := by simp; omega
        clear hk0
        go_wp2_with fail
        go_ret
        exact ⟨ret_bool HE.out.symm, rfl⟩
  have h7no : (nd i).code ≠ 6 → (nd i).code ≠ 7 → ¬Shp nd i := by
    intro h6 h7
    have h2 := HK2.out
    unfold Shp
    omega
  have d7 : ∃ q1 q2 : Bool, decide ((2 : Int) ≤ (nd i).code) = q1 ∧ decide ((nd i).code ≤ (5 : Int)) = q2 ∧ (q1 && q2) = false := ⟨_, _, rfl, rfl, by simp; omega⟩
  by_cases hc7 : (nd i).code = 7
  · have HC7 : Hid _ := hc7
    have e7 : ((nd i).code == 7) = true := by simp [hc7]
    have e6 : ((nd i).code == 6) = false := by simp [hc7]
    have e2 : decide ((2 : Int) ≤ (nd i).code) = true := by simp [hc7]
    have e5 : decide ((nd i).code ≤ (5 : Int)) = false := by simp [hc7]
    clear d7 h7no hc25 hc7
    have HF : Hid (∀ x, x < (nd i).kL → ¬((nd i).kz x ≠ -1 ∧ (nd ((nd i).kz x).toNat).kind = 1) → ANS = false) := by
      intro x hx hno
      refine HA.out.2 ?_
      have h2 := HK2.out
      have h7 := HC7.out
      unfold Shp
      rintro (h | ⟨_, _, _, h | h | h⟩)
      · omega
      · omega
      · omega
      · exact hno (h.2.2 x hx)
    go_wp2_with fail
    go_loopg [145] (nd i).kL (fun k I wx => ∃ j : Nat, j + k = (nd i).kL ∧ I = .int .i64 (j : Nat) ∧ wx = wr ∧ Hid (∀ x, x < j → (nd i).kz x ≠ -1 ∧ (nd ((nd i).kz x).toNat).kind = 1))
    case atStart => exact ⟨0, by omega, rfl, rfl, fun x hx => absurd hx (by omega)⟩
    obtain ⟨x, hx, rfl, rfl, HX⟩ := hrel
    by_cases hlt : x < (nd i).kL
    case pos =>
      rcases HKI.out with h0 | ⟨b2, off2, e2, hc2⟩
      · omega
      subst e2
      have c9 := (hc2 x hlt).1
      clear hc2
      by_cases hm : (nd i).kz x = -1
      · rw [hm] at c9
        have HE : Hid (ANS = false) := HF.out x hlt fun h => h.1 hm
        clear hm
        go_wp2_with fail
        go_ret
        exact ⟨ret_bool HE.out.symm, rfl⟩
      · obtain ⟨k1, k2⟩ := HKAB.out x hlt hm
        obtain ⟨z, hz⟩ : ∃ z : Nat, (nd i).kz x = z := ⟨((nd i).kz x).toNat, by omega⟩
        have HZ : Hid _ := hz
        rw [hz] at c9 k1 k2
        obtain ⟨q0, q1, q2, q3, q4⟩ := HR.out z (by omega)
        have hz1 : ((z : Int) == -1) = false := by simp
        have HQ : Hid (∀ K, (nd z).kind = K → (nd ((nd i).kz x).toNat).kind = K) := by intro K hK; rw [HZ.out, Int.toNat_natCast]; exact hK
        have HM : Hid _ := hm
        clear hm hz q0
        by_cases hK : (nd z).kind = 1
        · have d9 : ((nd z).kind != 1) = false := by simp [hK]
          have HE : Hid _ := HQ.out 1 hK
          clear hK
          go_wp2_with fail
          go_roundg (gk - 1)
          case rel =>
            refine ⟨x + 1, by omega, by simp, rfl, ?_⟩
            intro y hy
            by_cases hyx : y = x
            · subst hyx; exact ⟨HM.out, HE.out⟩
            · exact HX.out y (by omega)
          case measure => omega
        · have d9 : ((nd z).kind != 1) = true := by simp [hK]
          have HE : Hid (ANS = false) := HF.out x hlt fun h => hK (by have := h.2; rwa [HQ.out _ rfl] at this)
          clear hK
          go_wp2_with fail
          go_ret
          exact ⟨ret_bool HE.out.symm, rfl⟩
    have hxe : x = (nd i).kL := by omega
    subst hxe
    by_cases hd0 : (nd i).dL = 0
    · have HE : Hid (ANS = true) := HA.out.1 (.inr ⟨HK2.out, hd, hk, .inr (.inr ⟨HC7.out, hd0, HX.out⟩)⟩)
      have e0 : (((nd i).dL : Int) == 0) = true := by simp; omega
      clear hd0
      go_wp2_with fail
      go_ret
      exact ⟨ret_bool HE.out.symm, rfl⟩
    · have HE : Hid (ANS = false) := HA.out.2 (by have h2 := HK2.out; have h7 := HC7.out; unfold Shp; omega)
      have e0 : (((nd i).dL : Int) == 0) = false := by simp; omega
      clear hd0
      go_wp2_with fail
      go_ret
      exact ⟨ret_bool HE.out.symm, rfl⟩
  · have e7 : ((nd i).code == 7) = false := by simp [hc7]
    by_cases hc6 : (nd i).code = 6
    · have e6 : ((nd i).code == 6) = true := by simp [hc6]
      have e2 : decide ((2 : Int) ≤ (nd i).code) = true := by simp [hc6]
      have e5 : decide ((nd i).code ≤ (5 : Int)) = false := by simp [hc6]
      by_cases hd0 : (nd i).dL = 0
      · have HE : Hid (ANS = true) := HA.out.1 (.inr ⟨HK2.out, hd, hk, .inr (.inl ⟨hc6, hd0⟩)⟩)
        have e0 : (((nd i).dL : Int) == 0) = true := by simp; omega
        clear hd0 hc6 hc7 hc25 h7no d7
        go_wp2_with fail
        go_ret
        exact ⟨ret_bool HE.out.symm, rfl⟩
      · have HE : Hid (ANS = false) := HA.out.2 (by have h2 := HK2.out; unfold Shp; omega)
        have e0 : (((nd i).dL : Int) == 0) = false := by simp; omega
        clear hd0 hc6 hc7 hc25 h7no d7
        go_wp2_with fail
        go_ret
        exact ⟨ret_bool HE.out.symm, rfl⟩
    · have e6 : ((nd i).code == 6) = false := by simp [hc6]
      have HE : Hid (ANS = false) := HA.out.2 (h7no hc6 hc7)
      by_cases h2 : 2 ≤ (nd i).code
      · have e2 : decide ((2 : Int) ≤ (nd i).code) = true := by simp [h2]
        have e5 : decide ((nd i).code ≤ (5 : Int)) = false := by simp; omega
        clear h2 hc6 hc7 hc25 h7no d7
        go_wp2_with fail
        go_ret
        exact ⟨ret_bool HE.out.symm, rfl⟩
      · have e2 : decide ((2 : Int) ≤ (nd i).code) = false := by simp; omega
        clear h2 hc6 hc7 hc25 h7no d7
        go_wp2_with fail
        go_ret
        exact ⟨ret_bool HE.out.symm, rfl⟩
end Go.Proofs.Ygcfah
