/- law.plainNode. -/
import Derived.Test.YgcfahTlaw
import Derived.Laws.Bits64b
namespace Go.Proofs.Ygcfah
open Go.RowKit
set_option linter.unusedVariables false
set_option linter.unusedSimpArgs false
theorem bits_lt (s v : Nat) (hs : s ≤ 64) (hv : v < 18446744073709551616) (h : ∀ y, s ≤ y → y < 64 → v.testBit y = false) : v < 2 ^ s := by
  apply Nat.lt_pow_two_of_testBit
  intro i hi
  by_cases h6 : i < 64
  · exact h i hi h6
  · apply Nat.testBit_lt_two_pow
    have h1 : (2 : Nat) ^ 64 ≤ 2 ^ i := Nat.pow_le_pow_right (by omega) (by omega)
    have h3 : (2 : Nat) ^ 64 = 18446744073709551616 := by decide
    omega
theorem bits_ge (s v c : Nat) (h : s ≤ c) (hb : v.testBit c = true) : 2 ^ s ≤ v :=
  Nat.le_trans (Nat.pow_le_pow_right (by omega) h) (Nat.ge_two_pow_of_testBit hb)
theorem shr_bit (v c : Nat) (hv : v < 18446744073709551616) : (bits .and .u64 ((v : Int) / 2 ^ c) 1 != 0) = v.testBit c := by
  have h1 : v / 2 ^ c ≤ v := Nat.div_le_self _ _
  have := bits_and_u64_nat (v / 2 ^ c) 1 (by omega) (by omega)
  have e : ((v : Int) / 2 ^ c) = ((v / 2 ^ c : Nat) : Int) := by simp
  rw [e, show (1 : Int) = ((1 : Nat) : Int) from rfl, this, Nat.and_one_is_mod, Nat.testBit_eq_decide_div_mod_eq]
  rcases Nat.mod_two_eq_zero_or_one (v / 2 ^ c) with h | h <;> simp [h]
set_option maxRecDepth 100000 in
set_option maxHeartbeats 1000000 in
theorem pnode_any (tb b off n cap : Nat) (nd : Nat → NodeC) (i : Nat) (w : World) (ht : w.cell? ⟨tb, 0, none⟩ = some (.slice (some ⟨b, off, none⟩) n cap)) (hr : NCells w b off n nd) (hi : i < n) (hn : n ≤ 512) :
    Calls Fahg.prog 79 #[.pointer (some ⟨tb, 0, none⟩), .int .i64 (i : Nat)] w fun e w' => e = .returned (.bool (pB (PShp n nd i))) ∧ Below w.heap.size w w' := by
  have HR : Hid (NCells w b off n nd) := hr
  obtain ⟨h0, h1, h2, h3, h4⟩ := hr i hi
  have HKI : Hid _ := h0.i
  have HDI : Hid _ := h0.d
  have hkm := h0.km
  have hkl := h0.kl
  have hdm := h0.dm
  have hdl := h0.dl
  obtain ⟨kb1, kb2⟩ := h0.k
  obtain ⟨cb1, cb2⟩ := h0.c
  clear hr h0
  generalize hKA : (nd i).kA = kA at *
  generalize hDA : (nd i).dA = dA at *
  clear hKA hDA
  have HA : Hid ((PShp n nd i → pB (PShp n nd i) = true) ∧ (¬PShp n nd i → pB (PShp n nd i) = false)) := ⟨pB_true, pB_false⟩
  generalize pB (PShp n nd i) = ANS at *
  have htb : tb < w.heap.size := World.block_lt_of_cell? w _ ht
  have hbel : ∀ c, Below w.heap.size w (w.alloc (.cells c 61)) := fun c => below_alloc (Below.refl _ _) (Nat.le_refl _) _
  have HBEL : Hid _ := hbel
  clear hbel
  by_cases hk1 : (nd i).kind = 1
  · have HK1 : Hid _ := hk1
    rw [hk1] at h1
    clear hk1
    go_enter Fahg.func79, Fahg.ntmps79
    go_wp2_with fail
    all_goals go_ret
    all_goals go_light
    all_goals refine ⟨ret_bool ?_, HBEL.out _⟩
    all_goals have h := HK1.out
    · symm
      by_cases h8 : (nd i).kL ≤ 8
      · rw [HA.out.1 (.inl ⟨h, by assumption, by omega, h8⟩)]; simp; omega
      · rw [HA.out.2 (by unfold PShp; omega)]; simp; omega
    · exact (HA.out.2 (by unfold PShp; omega)).symm
    · exact (HA.out.2 (by unfold PShp; omega)).symm
  have HK1 : Hid _ := hk1
  have d1 : ((nd i).kind == 1) = false := by simp [hk1]
  by_cases hbad : (nd i).kind ≠ 2 ∨ (nd i).code < 2 ∨ 7 < (nd i).code
  · have HE : Hid (ANS = false) := HA.out.2 (by unfold PShp; omega)
    clear hk1
    go_enter Fahg.func79, Fahg.ntmps79
    go_wp2_with fail
    all_goals try omega
    all_goals go_ret
    all_goals go_light
    all_goals exact ⟨ret_bool HE.out.symm, HBEL.out _⟩
  have hk2 : (nd i).kind = 2 := by omega
  have HK2 : Hid _ := hk2
  rw [hk2] at h1
  have hc1 : 2 ≤ (nd i).code := by omega
  have hc2 : (nd i).code ≤ 7 := by omega
  clear hk1 hk2 hbad d1
  --CUT
  by_cases hc5 : (nd i).code ≤ 5
  case pos =>
    have hc : (nd i).code = 2 ∨ (nd i).code = 3 ∨ (nd i).code = 4 ∨ (nd i).code = 5 := by omega
    have HTOP : ∀ T, elTop (nd i).code = T → Hid (((∀ x, x < (nd i).dL → (nd i).dz x < T) → (nd i).dL ≤ 128 → (nd i).kL = 0 → ANS = true) ∧ ((nd i).kL ≠ 0 → ANS = false) ∧ (128 < (nd i).dL → ANS = false) ∧ (∀ x, x < (nd i).dL → ¬(nd i).dz x < T → ANS = false)) := by
      rintro T rfl
      have h2 := HK2.out
      refine ⟨fun h hd hk => HA.out.1 (.inr ⟨h2, hd, hk.symm ▸ by omega, .inl ⟨hc1, hc5, hk, h⟩⟩), fun hk => HA.out.2 (by unfold PShp; omega), fun hd => HA.out.2 (by unfold PShp; omega), fun x hx hno => HA.out.2 ?_⟩
      unfold PShp
      rintro (h | ⟨_, _, _, h | h | h⟩)
      · omega
      · exact hno (h.2.2.2 x hx)
      · omega
      · omega
    clear hc1 hc2 hc5 HA
    rcases hc with hc | hc | hc | hc
    · have HTO := HTOP 256 (by rw [hc]; rfl)
      rw [hc] at h2
      have HC : Hid _ := hc
      clear hc HTOP
      obtain ⟨W1, hW1⟩ : ∃ W1, W1 = w.alloc (.cells #[.int .u8 2, .int .u8 2, .slice dA (nd i).dL (nd i).dC, .slice kA (nd i).kL (nd i).kC] 61) := ⟨_, rfl⟩
      have HB1 : Hid (Below w.heap.size w W1) := by rw [hW1]; exact HBEL.out _
      have g0 : W1.cell? ⟨w.heap.size, 1, none⟩ = some (.int .u8 2) := by rw [hW1]; simp [go_sem]
      have g2 : W1.cell? ⟨w.heap.size, 2, none⟩ = some (.slice dA (nd i).dL (nd i).dC) := by rw [hW1]; simp [go_sem]
      have g3 : W1.cell? ⟨w.heap.size, 3, none⟩ = some (.slice kA (nd i).kL (nd i).kC) := by rw [hW1]; simp [go_sem]
      have HW1 : Hid _ := hW1
      clear hW1
      go_enter Fahg.func79, Fahg.ntmps79
      go_wp2_with fail
      go_loopg [58] (nd i).dL (fun k I wx => ∃ x : Nat, x + k = (nd i).dL ∧ I = .int .i64 (x : Nat) ∧ wx = W1 ∧ Hid (∀ y, y < x → (nd i).dz y < 256))
      case atStart => exact ⟨0, by omega, rfl, HW1.out.symm, fun x hx => absurd hx (by omega)⟩
      obtain ⟨x, hx, rfl, rfl, HX⟩ := hrel
      clear HW1
      by_cases hlt : x < (nd i).dL
      case pos =>
        rcases HDI.out with h0 | ⟨b2, off2, e2, hc2⟩
        · omega
        subst e2
        have c9 := Below.kept HB1.out (hc2 x hlt).1
        obtain ⟨hbd1, hbd2⟩ := bnd_u64 (hc2 x hlt).2
        clear hc2
        obtain ⟨v, hv⟩ : ∃ v : Nat, (nd i).dz x = v := ⟨((nd i).dz x).toNat, by omega⟩
        have HV : Hid _ := hv
        rw [hv] at c9 hbd2
        have hv2 : v < 18446744073709551616 := by omega
        clear hv hbd1 hbd2
        obtain ⟨W2, hW2⟩ : ∃ W2, W2 = wr := ⟨_, rfl⟩
        subst hW2
        go_wp2_with fail
        go_loopg [8] 56 (fun k I wy => ∃ x : Nat, x + k = 64 ∧ 8 ≤ x ∧ I = .int .i64 (x : Nat) ∧ wy = W2 ∧ Hid (∀ y, 8 ≤ y → y < x → v.testBit y = false))
        case atStart => exact ⟨8, by omega, by omega, rfl, rfl, fun y h1 h2 => absurd h1 (by omega)⟩
        obtain ⟨c, hck, hc8, rfl, rfl, HCC⟩ := hrel
        by_cases hc64 : c < 64
        case neg =>
          have hce : c = 64 := by omega
          have HLT : Hid ((nd i).dz x < 256) := by
            have := bits_lt 8 v (by omega) hv2 (fun y h1 h2 => HCC.out y h1 (by omega))
            have h3 : (2 : Nat) ^ 8 = 256 := by decide
            rw [h3] at this
            show _ < _
            rw [HV.out]
            omega
          have d9 : decide ((c : Int) < 64) = false := by simp; omega
          clear hce
          go_wp2_with fail
          go_roundg ((nd i).dL - (x + 1))
          case rel =>
            refine ⟨x + 1, by omega, by simp, rfl, ?_⟩
            intro y hy
            by_cases hyx : y = x
            · subst hyx; exact HLT.out
            · exact HX.out y (by omega)
          case measure => omega
        have HSB : Hid _ := bits_ge 8 v c
        have hsb := shr_bit v c hv2
        have d9 : decide ((c : Int) < 64) = true := by simp; omega
        cases hbit : v.testBit c
        · have HBIT : Hid _ := hbit
          rw [hbit] at hsb
          clear hbit
          go_wp2_with fail
          go_roundg (gk - 1)
          case rel =>
            refine ⟨c + 1, by omega, by omega, by simp, rfl, ?_⟩
            intro y h1 h2
            by_cases hyc : y = c
            · subst hyc; exact HBIT.out
            · exact HCC.out y h1 (by omega)
          case measure => omega
        · rw [hbit] at hsb
          have HE : Hid (ANS = false) := by
            refine HTO.out.2.2.2 x hlt ?_
            have := HSB.out hc8 hbit
            have h3 : (2 : Nat) ^ 8 = 256 := by decide
            rw [h3] at this
            rw [HV.out]
            omega
          clear hbit
          go_wp2_with fail
          go_ret
          exact ⟨ret_bool HE.out.symm, HB1.out⟩
      have hxe : x = (nd i).dL := by omega
      subst hxe
      by_cases hd : (nd i).dL ≤ 128
      · have d9 : decide (((nd i).dL : Int) ≤ 128) = true := by simp; omega
        by_cases hk0 : (nd i).kL = 0
        · have HE : Hid (ANS = true) := HTO.out.1 HX.out hd hk0
          have d8 : (((nd i).kL : Int) == 0) = true := by simp; omega
          clear hk0
          go_wp2_with fail
          go_ret
          exact ⟨ret_bool HE.out.symm, HB1.out⟩
        · have HE : Hid (ANS = false) := HTO.out.2.1 hk0
          have d8 : (((nd i).kL : Int) == 0) = false := by simp; omega
          clear hk0
          go_wp2_with fail
          go_ret
          exact ⟨ret_bool HE.out.symm, HB1.out⟩
      · have d9 : decide (((nd i).dL : Int) ≤ 128) = false := by simp; omega
        have HE : Hid (ANS = false) := HTO.out.2.2.1 (by omega)
        go_wp2_with fail
        go_ret
        exact ⟨ret_bool HE.out.symm, HB1.out⟩
    · have HTO := HTOP 65536 (by rw [hc]; rfl)
      rw [hc] at h2
      have HC : Hid _ := hc
      clear hc HTOP
      obtain ⟨W1, hW1⟩ : ∃ W1, W1 = w.alloc (.cells #[.int .u8 2, .int .u8 3, .slice dA (nd i).dL (nd i).dC, .slice kA (nd i).kL (nd i).kC] 61) := ⟨_, rfl⟩
      have HB1 : Hid (Below w.heap.size w W1) := by rw [hW1]; exact HBEL.out _
      have g0 : W1.cell? ⟨w.heap.size, 1, none⟩ = some (.int .u8 3) := by rw [hW1]; simp [go_sem]
      have g2 : W1.cell? ⟨w.heap.size, 2, none⟩ = some (.slice dA (nd i).dL (nd i).dC) := by rw [hW1]; simp [go_sem]
      have g3 : W1.cell? ⟨w.heap.size, 3, none⟩ = some (.slice kA (nd i).kL (nd i).kC) := by rw [hW1]; simp [go_sem]
      have HW1 : Hid _ := hW1
      clear hW1
      go_enter Fahg.func79, Fahg.ntmps79
      go_wp2_with fail
      go_loopg [58] (nd i).dL (fun k I wx => ∃ x : Nat, x + k = (nd i).dL ∧ I = .int .i64 (x : Nat) ∧ wx = W1 ∧ Hid (∀ y, y < x → (nd i).dz y < 65536))
      case atStart => exact ⟨0, by omega, rfl, HW1.out.symm, fun x hx => absurd hx (by omega)⟩
      obtain ⟨x, hx, rfl, rfl, HX⟩ := hrel
      clear HW1
      by_cases hlt : x < (nd i).dL
      case pos =>
        rcases HDI.out with h0 | ⟨b2, off2, e2, hc2⟩
        · omega
        subst e2
        have c9 := Below.kept HB1.out (hc2 x hlt).1
        obtain ⟨hbd1, hbd2⟩ := bnd_u64 (hc2 x hlt).2
        clear hc2
        obtain ⟨v, hv⟩ : ∃ v : Nat, (nd i).dz x = v := ⟨((nd i).dz x).toNat, by omega⟩
        have HV : Hid _ := hv
        rw [hv] at c9 hbd2
        have hv2 : v < 18446744073709551616 := by omega
        clear hv hbd1 hbd2
        obtain ⟨W2, hW2⟩ : ∃ W2, W2 = wr := ⟨_, rfl⟩
        subst hW2
        go_wp2_with fail
        go_loopg [8] 48 (fun k I wy => ∃ x : Nat, x + k = 64 ∧ 16 ≤ x ∧ I = .int .i64 (x : Nat) ∧ wy = W2 ∧ Hid (∀ y, 16 ≤ y → y < x → v.testBit y = false))
        case atStart => exact ⟨16, by omega, by omega, rfl, rfl, fun y h1 h2 => absurd h1 (by omega)⟩
        obtain ⟨c, hck, hc8, rfl, rfl, HCC⟩ := hrel
        by_cases hc64 : c < 64
        case neg =>
          have hce : c = 64 := by omega
          have HLT : Hid ((nd i).dz x < 65536) := by
            have := bits_lt 16 v (by omega) hv2 (fun y h1 h2 => HCC.out y h1 (by omega))
            have h3 : (2 : Nat) ^ 16 = 65536 := by decide
            rw [h3] at this
            show _ < _
            rw [HV.out]
            omega
          have d9 : decide ((c : Int) < 64) = false := by simp; omega
          clear hce
          go_wp2_with fail
          go_roundg ((nd i).dL - (x + 1))
          case rel =>
            refine ⟨x + 1, by omega, by simp, rfl, ?_⟩
            intro y hy
            by_cases hyx : y = x
            · subst hyx; exact HLT.out
            · exact HX.out y (by omega)
          case measure => omega
        have HSB : Hid _ := bits_ge 16 v c
        have hsb := shr_bit v c hv2
        have d9 : decide ((c : Int) < 64) = true := by simp; omega
        cases hbit : v.testBit c
        · have HBIT : Hid _ := hbit
          rw [hbit] at hsb
          clear hbit
          go_wp2_with fail
          go_roundg (gk - 1)
          case rel =>
            refine ⟨c + 1, by omega, by omega, by simp, rfl, ?_⟩
            intro y h1 h2
            by_cases hyc : y = c
            · subst hyc; exact HBIT.out
            · exact HCC.out y h1 (by omega)
          case measure => omega
        · rw [hbit] at hsb
          have HE : Hid (ANS = false) := by
            refine HTO.out.2.2.2 x hlt ?_
            have := HSB.out hc8 hbit
            have h3 : (2 : Nat) ^ 16 = 65536 := by decide
            rw [h3] at this
            rw [HV.out]
            omega
          clear hbit
          go_wp2_with fail
          go_ret
          exact ⟨ret_bool HE.out.symm, HB1.out⟩
      have hxe : x = (nd i).dL := by omega
      subst hxe
      by_cases hd : (nd i).dL ≤ 128
      · have d9 : decide (((nd i).dL : Int) ≤ 128) = true := by simp; omega
        by_cases hk0 : (nd i).kL = 0
        · have HE : Hid (ANS = true) := HTO.out.1 HX.out hd hk0
          have d8 : (((nd i).kL : Int) == 0) = true := by simp; omega
          clear hk0
          go_wp2_with fail
          go_ret
          exact ⟨ret_bool HE.out.symm, HB1.out⟩
        · have HE : Hid (ANS = false) := HTO.out.2.1 hk0
          have d8 : (((nd i).kL : Int) == 0) = false := by simp; omega
          clear hk0
          go_wp2_with fail
          go_ret
          exact ⟨ret_bool HE.out.symm, HB1.out⟩
      · have d9 : decide (((nd i).dL : Int) ≤ 128) = false := by simp; omega
        have HE : Hid (ANS = false) := HTO.out.2.2.1 (by omega)
        go_wp2_with fail
        go_ret
        exact ⟨ret_bool HE.out.symm, HB1.out⟩
    · have HTO := HTOP 4294967296 (by rw [hc]; rfl)
      rw [hc] at h2
      have HC : Hid _ := hc
      clear hc HTOP
      obtain ⟨W1, hW1⟩ : ∃ W1, W1 = w.alloc (.cells #[.int .u8 2, .int .u8 4, .slice dA (nd i).dL (nd i).dC, .slice kA (nd i).kL (nd i).kC] 61) := ⟨_, rfl⟩
      have HB1 : Hid (Below w.heap.size w W1) := by rw [hW1]; exact HBEL.out _
      have g0 : W1.cell? ⟨w.heap.size, 1, none⟩ = some (.int .u8 4) := by rw [hW1]; simp [go_sem]
      have g2 : W1.cell? ⟨w.heap.size, 2, none⟩ = some (.slice dA (nd i).dL (nd i).dC) := by rw [hW1]; simp [go_sem]
      have g3 : W1.cell? ⟨w.heap.size, 3, none⟩ = some (.slice kA (nd i).kL (nd i).kC) := by rw [hW1]; simp [go_sem]
      have HW1 : Hid _ := hW1
      clear hW1
      go_enter Fahg.func79, Fahg.ntmps79
      go_wp2_with fail
      go_loopg [58] (nd i).dL (fun k I wx => ∃ x : Nat, x + k = (nd i).dL ∧ I = .int .i64 (x : Nat) ∧ wx = W1 ∧ Hid (∀ y, y < x → (nd i).dz y < 4294967296))
      case atStart => exact ⟨0, by omega, rfl, HW1.out.symm, fun x hx => absurd hx (by omega)⟩
      obtain ⟨x, hx, rfl, rfl, HX⟩ := hrel
      clear HW1
      by_cases hlt : x < (nd i).dL
      case pos =>
        rcases HDI.out with h0 | ⟨b2, off2, e2, hc2⟩
        · omega
        subst e2
        have c9 := Below.kept HB1.out (hc2 x hlt).1
        obtain ⟨hbd1, hbd2⟩ := bnd_u64 (hc2 x hlt).2
        clear hc2
        obtain ⟨v, hv⟩ : ∃ v : Nat, (nd i).dz x = v := ⟨((nd i).dz x).toNat, by omega⟩
        have HV : Hid _ := hv
        rw [hv] at c9 hbd2
        have hv2 : v < 18446744073709551616 := by omega
        clear hv hbd1 hbd2
        obtain ⟨W2, hW2⟩ : ∃ W2, W2 = wr := ⟨_, rfl⟩
        subst hW2
        go_wp2_with fail
        go_loopg [8] 32 (fun k I wy => ∃ x : Nat, x + k = 64 ∧ 32 ≤ x ∧ I = .int .i64 (x : Nat) ∧ wy = W2 ∧ Hid (∀ y, 32 ≤ y → y < x → v.testBit y = false))
        case atStart => exact ⟨32, by omega, by omega, rfl, rfl, fun y h1 h2 => absurd h1 (by omega)⟩
        obtain ⟨c, hck, hc8, rfl, rfl, HCC⟩ := hrel
        by_cases hc64 : c < 64
        case neg =>
          have hce : c = 64 := by omega
          have HLT : Hid ((nd i).dz x < 4294967296) := by
            have := bits_lt 32 v (by omega) hv2 (fun y h1 h2 => HCC.out y h1 (by omega))
            have h3 : (2 : Nat) ^ 32 = 4294967296 := by decide
            rw [h3] at this
            show _ < _
            rw [HV.out]
            omega
          have d9 : decide ((c : Int) < 64) = false := by simp; omega
          clear hce
          go_wp2_with fail
          go_roundg ((nd i).dL - (x + 1))
          case rel =>
            refine ⟨x + 1, by omega, by simp, rfl, ?_⟩
            intro y hy
            by_cases hyx : y = x
            · subst hyx; exact HLT.out
            · exact HX.out y (by omega)
          case measure => omega
        have HSB : Hid _ := bits_ge 32 v c
        have hsb := shr_bit v c hv2
        have d9 : decide ((c : Int) < 64) = true := by simp; omega
        cases hbit : v.testBit c
        · have HBIT : Hid _ := hbit
          rw [hbit] at hsb
          clear hbit
          go_wp2_with fail
          go_roundg (gk - 1)
          case rel =>
            refine ⟨c + 1, by omega, by omega, by simp, rfl, ?_⟩
            intro y h1 h2
            by_cases hyc : y = c
            · subst hyc; exact HBIT.out
            · exact HCC.out y h1 (by omega)
          case measure => omega
        · rw [hbit] at hsb
          have HE : Hid (ANS = false) := by
            refine HTO.out.2.2.2 x hlt ?_
            have := HSB.out hc8 hbit
            have h3 : (2 : Nat) ^ 32 = 4294967296 := by decide
            rw [h3] at this
            rw [HV.out]
            omega
          clear hbit
          go_wp2_with fail
          go_ret
          exact ⟨ret_bool HE.out.symm, HB1.out⟩
      have hxe : x = (nd i).dL := by omega
      subst hxe
      by_cases hd : (nd i).dL ≤ 128
      · have d9 : decide (((nd i).dL : Int) ≤ 128) = true := by simp; omega
        by_cases hk0 : (nd i).kL = 0
        · have HE : Hid (ANS = true) := HTO.out.1 HX.out hd hk0
          have d8 : (((nd i).kL : Int) == 0) = true := by simp; omega
          clear hk0
          go_wp2_with fail
          go_ret
          exact ⟨ret_bool HE.out.symm, HB1.out⟩
        · have HE : Hid (ANS = false) := HTO.out.2.1 hk0
          have d8 : (((nd i).kL : Int) == 0) = false := by simp; omega
          clear hk0
          go_wp2_with fail
          go_ret
          exact ⟨ret_bool HE.out.symm, HB1.out⟩
      · have d9 : decide (((nd i).dL : Int) ≤ 128) = false := by simp; omega
        have HE : Hid (ANS = false) := HTO.out.2.2.1 (by omega)
        go_wp2_with fail
        go_ret
        exact ⟨ret_bool HE.out.symm, HB1.out⟩
    · have HTO := HTOP 18446744073709551616 (by rw [hc]; rfl)
      rw [hc] at h2
      have HC : Hid _ := hc
      clear hc HTOP
      obtain ⟨W1, hW1⟩ : ∃ W1, W1 = w.alloc (.cells #[.int .u8 2, .int .u8 5, .slice dA (nd i).dL (nd i).dC, .slice kA (nd i).kL (nd i).kC] 61) := ⟨_, rfl⟩
      have HB1 : Hid (Below w.heap.size w W1) := by rw [hW1]; exact HBEL.out _
      have g0 : W1.cell? ⟨w.heap.size, 1, none⟩ = some (.int .u8 5) := by rw [hW1]; simp [go_sem]
      have g2 : W1.cell? ⟨w.heap.size, 2, none⟩ = some (.slice dA (nd i).dL (nd i).dC) := by rw [hW1]; simp [go_sem]
      have g3 : W1.cell? ⟨w.heap.size, 3, none⟩ = some (.slice kA (nd i).kL (nd i).kC) := by rw [hW1]; simp [go_sem]
      have HW1 : Hid _ := hW1
      clear hW1
      go_enter Fahg.func79, Fahg.ntmps79
      go_wp2_with fail
      go_loopg [58] (nd i).dL (fun k I wx => ∃ x : Nat, x + k = (nd i).dL ∧ I = .int .i64 (x : Nat) ∧ wx = W1 ∧ Hid (∀ y, y < x → (nd i).dz y < 18446744073709551616))
      case atStart => exact ⟨0, by omega, rfl, HW1.out.symm, fun x hx => absurd hx (by omega)⟩
      obtain ⟨x, hx, rfl, rfl, HX⟩ := hrel
      clear HW1
      by_cases hlt : x < (nd i).dL
      case pos =>
        rcases HDI.out with h0 | ⟨b2, off2, e2, hc2⟩
        · omega
        subst e2
        have c9 := Below.kept HB1.out (hc2 x hlt).1
        obtain ⟨hbd1, hbd2⟩ := bnd_u64 (hc2 x hlt).2
        clear hc2
        obtain ⟨v, hv⟩ : ∃ v : Nat, (nd i).dz x = v := ⟨((nd i).dz x).toNat, by omega⟩
        have HV : Hid _ := hv
        rw [hv] at c9 hbd2
        have hv2 : v < 18446744073709551616 := by omega
        clear hv hbd1 hbd2
        obtain ⟨W2, hW2⟩ : ∃ W2, W2 = wr := ⟨_, rfl⟩
        subst hW2
        go_wp2_with fail
        go_loopg [8] 0 (fun k I wy => ∃ x : Nat, x + k = 64 ∧ 64 ≤ x ∧ I = .int .i64 (x : Nat) ∧ wy = W2 ∧ Hid (∀ y, 64 ≤ y → y < x → v.testBit y = false))
        case atStart => exact ⟨64, by omega, by omega, rfl, rfl, fun y h1 h2 => absurd h1 (by omega)⟩
        obtain ⟨c, hck, hc8, rfl, rfl, HCC⟩ := hrel
        by_cases hc64 : c < 64
        case neg =>
          have hce : c = 64 := by omega
          have HLT : Hid ((nd i).dz x < 18446744073709551616) := by
            have := bits_lt 64 v (by omega) hv2 (fun y h1 h2 => HCC.out y h1 (by omega))
            have h3 : (2 : Nat) ^ 64 = 18446744073709551616 := by decide
            rw [h3] at this
            show _ < _
            rw [HV.out]
            omega
          have d9 : decide ((c : Int) < 64) = false := by simp; omega
          clear hce
          go_wp2_with fail
          go_roundg ((nd i).dL - (x + 1))
          case rel =>
            refine ⟨x + 1, by omega, by simp, rfl, ?_⟩
            intro y hy
            by_cases hyx : y = x
            · subst hyx; exact HLT.out
            · exact HX.out y (by omega)
          case measure => omega
        have HSB : Hid _ := bits_ge 64 v c
        have hsb := shr_bit v c hv2
        have d9 : decide ((c : Int) < 64) = true := by simp; omega
        cases hbit : v.testBit c
        · have HBIT : Hid _ := hbit
          rw [hbit] at hsb
          clear hbit
          go_wp2_with fail
          go_roundg (gk - 1)
          case rel =>
            refine ⟨c + 1, by omega, by omega, by simp, rfl, ?_⟩
            intro y h1 h2
            by_cases hyc : y = c
            · subst hyc; exact HBIT.out
            · exact HCC.out y h1 (by omega)
          case measure => omega
        · rw [hbit] at hsb
          have HE : Hid (ANS = false) := by
            refine HTO.out.2.2.2 x hlt ?_
            have := HSB.out hc8 hbit
            have h3 : (2 : Nat) ^ 64 = 18446744073709551616 := by decide
            rw [h3] at this
            rw [HV.out]
            omega
          clear hbit
          go_wp2_with fail
          go_ret
          exact ⟨ret_bool HE.out.symm, HB1.out⟩
      have hxe : x = (nd i).dL := by omega
      subst hxe
      by_cases hd : (nd i).dL ≤ 128
      · have d9 : decide (((nd i).dL : Int) ≤ 128) = true := by simp; omega
        by_cases hk0 : (nd i).kL = 0
        · have HE : Hid (ANS = true) := HTO.out.1 HX.out hd hk0
          have d8 : (((nd i).kL : Int) == 0) = true := by simp; omega
          clear hk0
          go_wp2_with fail
          go_ret
          exact ⟨ret_bool HE.out.symm, HB1.out⟩
        · have HE : Hid (ANS = false) := HTO.out.2.1 hk0
          have d8 : (((nd i).kL : Int) == 0) = false := by simp; omega
          clear hk0
          go_wp2_with fail
          go_ret
          exact ⟨ret_bool HE.out.symm, HB1.out⟩
      · have d9 : decide (((nd i).dL : Int) ≤ 128) = false := by simp; omega
        have HE : Hid (ANS = false) := HTO.out.2.2.1 (by omega)
        go_wp2_with fail
        go_ret
        exact ⟨ret_bool HE.out.symm, HB1.out⟩
  by_cases hc6 : (nd i).code = 6
  case pos =>
    have HC : Hid _ := hc6
    rw [hc6] at h2
    clear hc6 hc1 hc2 hc5
    obtain ⟨W1, hW1⟩ : ∃ W1, W1 = w.alloc (.cells #[.int .u8 2, .int .u8 6, .slice dA (nd i).dL (nd i).dC, .slice kA (nd i).kL (nd i).kC] 61) := ⟨_, rfl⟩
    have HB1 : Hid (Below w.heap.size w W1) := by rw [hW1]; exact HBEL.out _
    have g0 : W1.cell? ⟨w.heap.size, 1, none⟩ = some (.int .u8 6) := by rw [hW1]; simp [go_sem]
    have g2 : W1.cell? ⟨w.heap.size, 2, none⟩ = some (.slice dA (nd i).dL (nd i).dC) := by rw [hW1]; simp [go_sem]
    have g3 : W1.cell? ⟨w.heap.size, 3, none⟩ = some (.slice kA (nd i).kL (nd i).kC) := by rw [hW1]; simp [go_sem]
    have HW1 : Hid _ := hW1
    clear hW1
    go_enter Fahg.func79, Fahg.ntmps79
    go_wp2_with fail
    go_loopg [89] (nd i).kL (fun k I wx => ∃ x : Nat, x + k = (nd i).kL ∧ I = .int .i64 (x : Nat) ∧ wx = W1)
    case atStart => exact ⟨0, by omega, rfl, HW1.out.symm⟩
    obtain ⟨x, hx, rfl, rfl⟩ := hrel
    clear HW1
    by_cases hlt : x < (nd i).kL
    case pos =>
      rcases HKI.out with h0 | ⟨b2, off2, e2, hc2⟩
      · omega
      subst e2
      have c9 := Below.kept HB1.out (hc2 x hlt).1
      clear hc2
      go_wp2_with fail
      go_roundg (gk - 1)
      case rel => exact ⟨x + 1, by omega, by simp, rfl⟩
      case measure => omega
    have hxe : x = (nd i).kL := by omega
    subst hxe
    by_cases hd : (nd i).kL ≤ 128
    · have d9 : decide (((nd i).kL : Int) ≤ 128) = true := by simp; omega
      by_cases hd0 : (nd i).dL = 0
      · have HE : Hid (ANS = true) := HA.out.1 (.inr ⟨HK2.out, by omega, hd, .inr (.inl ⟨HC.out, hd0⟩)⟩)
        have d8 : (((nd i).dL : Int) == 0) = true := by simp; omega
        clear hd0
        go_wp2_with fail
        go_ret
        exact ⟨ret_bool HE.out.symm, HB1.out⟩
      · have HE : Hid (ANS = false) := HA.out.2 (by have h2 := HK2.out; have h6 := HC.out; unfold PShp; omega)
        have d8 : (((nd i).dL : Int) == 0) = false := by simp; omega
        clear hd0
        go_wp2_with fail
        go_ret
        exact ⟨ret_bool HE.out.symm, HB1.out⟩
    · have d9 : decide (((nd i).kL : Int) ≤ 128) = false := by simp; omega
      have HE : Hid (ANS = false) := HA.out.2 (by have h2 := HK2.out; have h6 := HC.out; unfold PShp; omega)
      go_wp2_with fail
      go_ret
      exact ⟨ret_bool HE.out.symm, HB1.out⟩
  have hc7 : (nd i).code = 7 := by omega
  · have HC : Hid _ := hc7
    rw [hc7] at h2
    clear hc7 hc6 hc1 hc2 hc5
    have HF : Hid (∀ x, x < (nd i).kL → ¬(0 ≤ (nd i).kz x ∧ (nd i).kz x < n ∧ (nd ((nd i).kz x).toNat).kind = 1) → ANS = false) := by
      intro x hx hno
      refine HA.out.2 ?_
      have h2 := HK2.out
      have h7 := HC.out
      unfold PShp
      rintro (h | ⟨_, _, _, h | h | h⟩)
      · omega
      · omega
      · omega
      · exact hno (h.2.2 x hx)
    obtain ⟨W1, hW1⟩ : ∃ W1, W1 = w.alloc (.cells #[.int .u8 2, .int .u8 7, .slice dA (nd i).dL (nd i).dC, .slice kA (nd i).kL (nd i).kC] 61) := ⟨_, rfl⟩
    have HB1 : Hid (Below w.heap.size w W1) := by rw [hW1]; exact HBEL.out _
    have g0 : W1.cell? ⟨w.heap.size, 1, none⟩ = some (.int .u8 7) := by rw [hW1]; simp [go_sem]
    have g2 : W1.cell? ⟨w.heap.size, 2, none⟩ = some (.slice dA (nd i).dL (nd i).dC) := by rw [hW1]; simp [go_sem]
    have g3 : W1.cell? ⟨w.heap.size, 3, none⟩ = some (.slice kA (nd i).kL (nd i).kC) := by rw [hW1]; simp [go_sem]
    have HW1 : Hid _ := hW1
    clear hW1
    go_enter Fahg.func79, Fahg.ntmps79
    go_wp2_with fail
    go_loopg [89] (nd i).kL (fun k I wx => ∃ x : Nat, x + k = (nd i).kL ∧ I = .int .i64 (x : Nat) ∧ wx = W1 ∧ Hid (∀ y, y < x → 0 ≤ (nd i).kz y ∧ (nd i).kz y < n ∧ (nd ((nd i).kz y).toNat).kind = 1))
    case atStart => exact ⟨0, by omega, rfl, HW1.out.symm, fun y hy => absurd hy (by omega)⟩
    obtain ⟨x, hx, rfl, rfl, HX⟩ := hrel
    clear HW1
    have y1 := Below.kept HB1.out ht
    by_cases hlt : x < (nd i).kL
    case pos =>
      rcases HKI.out with h0 | ⟨b2, off2, e2, hc2⟩
      · omega
      subst e2
      have c9 := Below.kept HB1.out (hc2 x hlt).1
      obtain ⟨hbd1, hbd2⟩ := bnd_i16 (hc2 x hlt).2
      clear hc2
      generalize hK : (nd i).kz x = K at *
      have HKE : Hid _ := hK
      have HFX : Hid (¬(0 ≤ K ∧ K < n ∧ (nd K.toNat).kind = 1) → ANS = false) := by intro h; exact HF.out x hlt (by rw [HKE.out]; exact h)
      clear hK
      by_cases hK0 : K < 0
      · have d9 : decide (K < 0) = true := by simp; omega
        have HE : Hid (ANS = false) := HFX.out (by omega)
        go_wp2_with fail
        go_ret
        exact ⟨ret_bool HE.out.symm, HB1.out⟩
      have d9 : decide (K < 0) = false := by simp; omega
      by_cases hKn : (n : Int) ≤ K
      · have d8 : decide ((n : Int) ≤ K) = true := by simp; omega
        have HE : Hid (ANS = false) := HFX.out (by omega)
        go_wp2_with fail
        go_ret
        exact ⟨ret_bool HE.out.symm, HB1.out⟩
      obtain ⟨z, hz⟩ : ∃ z : Nat, K = z := ⟨K.toNat, by omega⟩
      subst hz
      have d8 : decide ((n : Int) ≤ (z : Int)) = false := by simp; omega
      have hzn : z < n := by omega
      have q1 := Below.kept HB1.out (HR.out z hzn).2.1
      rw [Int.toNat_natCast] at HFX
      by_cases hk1 : (nd z).kind = 1
      · have d7 : ((nd z).kind != 1) = false := by simp [hk1]
        have HZ1 : Hid _ := hk1
        clear hk1
        go_wp2_with fail
        go_roundg (gk - 1)
        case rel =>
          refine ⟨x + 1, by omega, by simp, rfl, ?_⟩
          intro y hy
          by_cases hyx : y = x
          · subst hyx; rw [HKE.out, Int.toNat_natCast]; exact ⟨by omega, by omega, HZ1.out⟩
          · exact HX.out y (by omega)
        case measure => omega
      · have d7 : ((nd z).kind != 1) = true := by simp [hk1]
        have HE : Hid (ANS = false) := HFX.out fun h => hk1 h.2.2
        clear hk1
        go_wp2_with fail
        go_ret
        exact ⟨ret_bool HE.out.symm, HB1.out⟩
    have hxe : x = (nd i).kL := by omega
    subst hxe
    by_cases hd : (nd i).kL ≤ 128
    · have d9 : decide (((nd i).kL : Int) ≤ 128) = true := by simp; omega
      by_cases hd0 : (nd i).dL = 0
      · have HE : Hid (ANS = true) := HA.out.1 (.inr ⟨HK2.out, by omega, hd, .inr (.inr ⟨HC.out, hd0, HX.out⟩)⟩)
        have d8 : (((nd i).dL : Int) == 0) = true := by simp; omega
        clear hd0
        go_wp2_with fail
        go_ret
        exact ⟨ret_bool HE.out.symm, HB1.out⟩
      · have HE : Hid (ANS = false) := HA.out.2 (by have h2 := HK2.out; have h6 := HC.out; unfold PShp; omega)
        have d8 : (((nd i).dL : Int) == 0) = false := by simp; omega
        clear hd0
        go_wp2_with fail
        go_ret
        exact ⟨ret_bool HE.out.symm, HB1.out⟩
    · have d9 : decide (((nd i).kL : Int) ≤ 128) = false := by simp; omega
      have HE : Hid (ANS = false) := HA.out.2 (by have h2 := HK2.out; have h6 := HC.out; unfold PShp; omega)
      go_wp2_with fail
      go_ret
      exact ⟨ret_bool HE.out.symm, HB1.out⟩
end Go.Proofs.Ygcfah
