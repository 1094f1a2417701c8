/- vmodel.zeroTail. -/
import Derived.Test.YgcfahNmst
import Derived.Test.YgcfahVsb
import Derived.Deep.LoopGhost
namespace Go.Proofs.Ygcfah
open Go.RowKit
set_option linter.unusedVariables false
set_option linter.unusedSimpArgs false
theorem byte_zero (x m : Nat) (h : x / 2 ^ m % 256 = 0) : decide (x / 2 ^ m = 0) = decide (x / 2 ^ (m + 8) = 0) := by
  rw [Nat.pow_add, ← Nat.div_div_eq_div_mul]
  generalize x / 2 ^ m = y at *
  exact decide_eq_decide.2 (by omega)
theorem ne_cond (y : Nat) (h : ¬ y = 0) : (((y : Nat) : Int) != 0) = true := by simp; omega
theorem u8_nat (x m : Nat) : IntKind.u8.wrap ((x : Int) / 2 ^ m) = ((x / 2 ^ m % 256 : Nat) : Int) := by
  have e : ((x : Int) / 2 ^ m) = ((x / 2 ^ m : Nat) : Int) := by push_cast; rfl
  rw [e, IntKind.wrap_u8]
  generalize x / 2 ^ m = y
  omega

set_option maxRecDepth 100000 in
set_option maxHeartbeats 1000000 in
theorem ztail2 (b off len cap : Nat) (z : Int → Int) (A N W x : Nat) (hl2 : len ≤ 256) (hN : N ≤ 128) (PB : Bool) (hx : x < 18446744073709551616)
    (HW : Hid (∀ w, Calls Fahg.prog 95 #[WP.nval ⟨2, A, 0, 0, 2, N⟩] w fun e w' => e = .returned (.int .u16 W) ∧ ∃ c nq, w' = (w.alloc (.cells c 34)).drewN nq))
    (hW1 : N ≤ 8 * W) (hW2 : 8 * W < N + 8) (hA : A + W ≤ len) (HX0 : Hid (W = 0 → x = 0)) (HXC : Hid (0 < W → z ((A + W - 1 : Nat) : Int) = x)) (HPB : Hid (PB = decide (x / 2 ^ (8 * (N - 8 * (W - 1))) = 0))) (w : World) (hz : Row w b off len z) (hb : b < w.heap.size) :
    Calls Fahg.prog 144 #[.slice (some ⟨b, off, none⟩) len cap, WP.nval ⟨2, A, 0, 0, 2, N⟩] w fun e w' => e = .returned (.bool PB) ∧ Below w.heap.size w w' := by
  simp only [WP.nval] at HW ⊢
  have HR : Hid _ := hz
  clear hz
  go_enter Fahg.func144, Fahg.ntmps144
  go_wp2_with fail
  obtain ⟨w0, hw0⟩ : ∃ w0, w0 = w.alloc (.cells #[.int .u8 2, .int .u16 A, .int .u8 0, .int .u8 0, .int .u8 2, .int .u16 N] 34) := ⟨_, rfl⟩
  rw [← hw0]
  have k : ∀ o, w0.cell? ⟨w.heap.size, o, none⟩ = #[Value.int .u8 2, .int .u16 A, .int .u8 0, .int .u8 0, .int .u8 2, .int .u16 N][o]? := fun o => by rw [hw0]; exact World.cell?_alloc_at _ _ _ _ rfl
  have HK : Hid _ := k
  have hB0 : Below w.heap.size w w0 := by rw [hw0]; exact below_alloc (Below.refl _ _) (Nat.le_refl _) _
  have HB0 : Hid _ := hB0
  have hz0 : w.heap.size < w0.heap.size := by rw [hw0]; simp
  clear hw0 k hB0
  go_loopg [6] (8 * W : Nat) (fun k I wr => ∃ bb : Nat, k ≤ 8 * W ∧ bb + k = 8 * W + N ∧ I = .int .i64 (bb : Nat) ∧ Below w0.heap.size w0 wr ∧ N ≤ bb ∧ bb ≤ 8 * W ∧ PB = decide (x / 2 ^ (8 * (bb - 8 * (W - 1))) = 0))
  case atStart => exact ⟨N, by omega, by omega, by simp, Below.refl _ _, by omega, by omega, HPB.out⟩
  case round =>
    obtain ⟨bb, hk0, hk1, rfl, hB, hk2, hk3, hPB⟩ := hrel
    have HPB2 : Hid _ := hPB
    have HB : Hid _ := hB
    have HBB : Hid (Below w.heap.size w wr) := HB0.out.trans (hB.mono (by omega))
    have r := fun o => (hB.cell (p := ⟨w.heap.size, o, none⟩) hz0).trans (HK.out o)
    have r1 := r 0
    have r2 := r 1
    have r3 := r 2
    have r4 := r 3
    have r5 := r 4
    have r6 := r 5
    simp only [six0, six1, six2, six3, six4, six5] at r1 r2 r3 r4 r5 r6
    clear hPB hB r
    by_cases hlt0 : bb < 8 * W
    · have hW3 : 0 < W := by omega
      have hcz := (Row.below HR.out HBB.out hb) ((A + W - 1 : Nat) : Int) (by omega) (by omega)
      rw [HXC.out hW3, Int.toNat_natCast] at hcz
      have hcx : wr.cell? ⟨b, off + (A + bb / 8), none⟩ = some (.int .u64 x) := by rw [show A + bb / 8 = A + W - 1 by omega]; exact hcz.1
      have hbw : b < wr.heap.size := World.block_lt_of_cell? wr _ hcx
      have hmm : 8 * (bb - 8 * (W - 1)) = bb % 8 * 8 := by omega
      have hu8 := u8_nat x (bb % 8 * 8)
      clear hcz
      go_wp2_with fail
      refine (HW.out _).mono ?_
      rintro e w3 ⟨rfl, cA, nA, hw3⟩
      have hb3 : Below wr.heap.size wr w3 := by rw [hw3]; exact below_drewN' (below_alloc (Below.refl _ _) (Nat.le_refl _) _) _
      have hzr : w.heap.size < wr.heap.size := by have := HB.out.size; omega
      have t2 := (hb3.cell (p := ⟨w.heap.size, 1, none⟩) hzr).trans r2
      have hcx3 := (hb3.cell (p := ⟨b, off + (A + bb / 8), none⟩) hbw).trans hcx
      have HB3 : Hid (Below w0.heap.size w0 w3) := HB.out.trans (hb3.mono HB.out.size)
      have HBB3 : Hid (Below w.heap.size w w3) := HBB.out.trans (hb3.mono HBB.out.size)
      clear hw3 hb3 r1 r2 r3 r4 r5 r6 hcx HB HBB
      by_cases hbyte : x / 2 ^ (bb % 8 * 8) % 256 = 0
      · have HBZ : Hid _ := byte_zero x _ hbyte
        have HMM : Hid _ := hmm
        have hcond : (((x / 2 ^ (bb % 8 * 8) % 256 : Nat) : Int) != 0) = false := by rw [hbyte]; rfl
        clear hbyte hmm
        generalize x / 2 ^ (bb % 8 * 8) % 256 = y at *
        go_wp2_with fail
        go_roundg (gk - 1)
        case rel => exact ⟨bb + 1, by omega, by omega, by simp, HB3.out, by omega, by omega, by have e1 := HPB2.out; rw [HMM.out, HBZ.out] at e1; rw [e1]; congr 4; have := HMM.out; omega⟩
        case measure => omega
      · have hPF : PB = false := by
          rw [HPB2.out, hmm]
          generalize x / 2 ^ (bb % 8 * 8) = y at *
          exact decide_eq_false (by omega)
        have HPF : Hid _ := hPF
        have hcond : (((x / 2 ^ (bb % 8 * 8) % 256 : Nat) : Int) != 0) = true := ne_cond _ hbyte
        clear hbyte hmm hPF HPB2
        generalize x / 2 ^ (bb % 8 * 8) % 256 = y at *
        go_wp2_with fail
        go_ret
        exact ⟨ret_bool HPF.out.symm, HBB3.out⟩
    · have HPT : Hid (PB = true) := by
        show _ = _
        rw [HPB2.out]
        refine decide_eq_true ?_
        by_cases hW0 : W = 0
        · rw [HX0.out hW0, Nat.zero_div]
        · rw [show 8 * (bb - 8 * (W - 1)) = 64 by omega]; omega
      go_wp2_with fail
      refine (HW.out _).mono ?_
      rintro e w3 ⟨rfl, cA, nA, hw3⟩
      have hb3 : Below wr.heap.size wr w3 := by rw [hw3]; exact below_drewN' (below_alloc (Below.refl _ _) (Nat.le_refl _) _) _
      have HBB3 : Hid (Below w.heap.size w w3) := HBB.out.trans (hb3.mono HBB.out.size)
      clear hw3 hb3 r1 r2 r3 r4 r5 r6
      go_wp2_with fail
      go_ret
      exact ⟨ret_bool HPT.out.symm, HBB3.out⟩

set_option maxRecDepth 100000 in
set_option maxHeartbeats 1000000 in
theorem ztail3 (b off len cap : Nat) (z : Int → Int) (A N W x : Nat) (hl2 : len ≤ 256) (hN : N ≤ 128) (PB : Bool) (hx : x < 18446744073709551616)
    (HW : Hid (∀ w, Calls Fahg.prog 95 #[WP.nval ⟨2, A, 0, 0, 3, N⟩] w fun e w' => e = .returned (.int .u16 W) ∧ ∃ c nq, w' = (w.alloc (.cells c 34)).drewN nq))
    (hW1 : N * 2 ≤ 8 * W) (hW2 : 8 * W < N * 2 + 8) (hA : A + W ≤ len) (HX0 : Hid (W = 0 → x = 0)) (HXC : Hid (0 < W → z ((A + W - 1 : Nat) : Int) = x)) (HPB : Hid (PB = decide (x / 2 ^ (8 * (N * 2 - 8 * (W - 1))) = 0))) (w : World) (hz : Row w b off len z) (hb : b < w.heap.size) :
    Calls Fahg.prog 144 #[.slice (some ⟨b, off, none⟩) len cap, WP.nval ⟨2, A, 0, 0, 3, N⟩] w fun e w' => e = .returned (.bool PB) ∧ Below w.heap.size w w' := by
  simp only [WP.nval] at HW ⊢
  have HR : Hid _ := hz
  clear hz
  go_enter Fahg.func144, Fahg.ntmps144
  go_wp2_with fail
  obtain ⟨w0, hw0⟩ : ∃ w0, w0 = w.alloc (.cells #[.int .u8 2, .int .u16 A, .int .u8 0, .int .u8 0, .int .u8 3, .int .u16 N] 34) := ⟨_, rfl⟩
  rw [← hw0]
  have k : ∀ o, w0.cell? ⟨w.heap.size, o, none⟩ = #[Value.int .u8 2, .int .u16 A, .int .u8 0, .int .u8 0, .int .u8 3, .int .u16 N][o]? := fun o => by rw [hw0]; exact World.cell?_alloc_at _ _ _ _ rfl
  have HK : Hid _ := k
  have hB0 : Below w.heap.size w w0 := by rw [hw0]; exact below_alloc (Below.refl _ _) (Nat.le_refl _) _
  have HB0 : Hid _ := hB0
  have hz0 : w.heap.size < w0.heap.size := by rw [hw0]; simp
  clear hw0 k hB0
  go_loopg [6] (8 * W : Nat) (fun k I wr => ∃ bb : Nat, k ≤ 8 * W ∧ bb + k = 8 * W + N * 2 ∧ I = .int .i64 (bb : Nat) ∧ Below w0.heap.size w0 wr ∧ N * 2 ≤ bb ∧ bb ≤ 8 * W ∧ PB = decide (x / 2 ^ (8 * (bb - 8 * (W - 1))) = 0))
  case atStart => exact ⟨N * 2, by omega, by omega, by simp, Below.refl _ _, by omega, by omega, HPB.out⟩
  case round =>
    obtain ⟨bb, hk0, hk1, rfl, hB, hk2, hk3, hPB⟩ := hrel
    have HPB2 : Hid _ := hPB
    have HB : Hid _ := hB
    have HBB : Hid (Below w.heap.size w wr) := HB0.out.trans (hB.mono (by omega))
    have r := fun o => (hB.cell (p := ⟨w.heap.size, o, none⟩) hz0).trans (HK.out o)
    have r1 := r 0
    have r2 := r 1
    have r3 := r 2
    have r4 := r 3
    have r5 := r 4
    have r6 := r 5
    simp only [six0, six1, six2, six3, six4, six5] at r1 r2 r3 r4 r5 r6
    clear hPB hB r
    by_cases hlt0 : bb < 8 * W
    · have hW3 : 0 < W := by omega
      have hcz := (Row.below HR.out HBB.out hb) ((A + W - 1 : Nat) : Int) (by omega) (by omega)
      rw [HXC.out hW3, Int.toNat_natCast] at hcz
      have hcx : wr.cell? ⟨b, off + (A + bb / 8), none⟩ = some (.int .u64 x) := by rw [show A + bb / 8 = A + W - 1 by omega]; exact hcz.1
      have hbw : b < wr.heap.size := World.block_lt_of_cell? wr _ hcx
      have hmm : 8 * (bb - 8 * (W - 1)) = bb % 8 * 8 := by omega
      have hu8 := u8_nat x (bb % 8 * 8)
      clear hcz
      go_wp2_with fail
      refine (HW.out _).mono ?_
      rintro e w3 ⟨rfl, cA, nA, hw3⟩
      have hb3 : Below wr.heap.size wr w3 := by rw [hw3]; exact below_drewN' (below_alloc (Below.refl _ _) (Nat.le_refl _) _) _
      have hzr : w.heap.size < wr.heap.size := by have := HB.out.size; omega
      have t2 := (hb3.cell (p := ⟨w.heap.size, 1, none⟩) hzr).trans r2
      have hcx3 := (hb3.cell (p := ⟨b, off + (A + bb / 8), none⟩) hbw).trans hcx
      have HB3 : Hid (Below w0.heap.size w0 w3) := HB.out.trans (hb3.mono HB.out.size)
      have HBB3 : Hid (Below w.heap.size w w3) := HBB.out.trans (hb3.mono HBB.out.size)
      clear hw3 hb3 r1 r2 r3 r4 r5 r6 hcx HB HBB
      by_cases hbyte : x / 2 ^ (bb % 8 * 8) % 256 = 0
      · have HBZ : Hid _ := byte_zero x _ hbyte
        have HMM : Hid _ := hmm
        have hcond : (((x / 2 ^ (bb % 8 * 8) % 256 : Nat) : Int) != 0) = false := by rw [hbyte]; rfl
        clear hbyte hmm
        generalize x / 2 ^ (bb % 8 * 8) % 256 = y at *
        go_wp2_with fail
        go_roundg (gk - 1)
        case rel => exact ⟨bb + 1, by omega, by omega, by simp, HB3.out, by omega, by omega, by have e1 := HPB2.out; rw [HMM.out, HBZ.out] at e1; rw [e1]; congr 4; have := HMM.out; omega⟩
        case measure => omega
      · have hPF : PB = false := by
          rw [HPB2.out, hmm]
          generalize x / 2 ^ (bb % 8 * 8) = y at *
          exact decide_eq_false (by omega)
        have HPF : Hid _ := hPF
        have hcond : (((x / 2 ^ (bb % 8 * 8) % 256 : Nat) : Int) != 0) = true := ne_cond _ hbyte
        clear hbyte hmm hPF HPB2
        generalize x / 2 ^ (bb % 8 * 8) % 256 = y at *
        go_wp2_with fail
        go_ret
        exact ⟨ret_bool HPF.out.symm, HBB3.out⟩
    · have HPT : Hid (PB = true) := by
        show _ = _
        rw [HPB2.out]
        refine decide_eq_true ?_
        by_cases hW0 : W = 0
        · rw [HX0.out hW0, Nat.zero_div]
        · rw [show 8 * (bb - 8 * (W - 1)) = 64 by omega]; omega
      go_wp2_with fail
      refine (HW.out _).mono ?_
      rintro e w3 ⟨rfl, cA, nA, hw3⟩
      have hb3 : Below wr.heap.size wr w3 := by rw [hw3]; exact below_drewN' (below_alloc (Below.refl _ _) (Nat.le_refl _) _) _
      have HBB3 : Hid (Below w.heap.size w w3) := HBB.out.trans (hb3.mono HBB.out.size)
      clear hw3 hb3 r1 r2 r3 r4 r5 r6
      go_wp2_with fail
      go_ret
      exact ⟨ret_bool HPT.out.symm, HBB3.out⟩

set_option maxRecDepth 100000 in
set_option maxHeartbeats 1000000 in
theorem ztail4 (b off len cap : Nat) (z : Int → Int) (A N W x : Nat) (hl2 : len ≤ 256) (hN : N ≤ 128) (PB : Bool) (hx : x < 18446744073709551616)
    (HW : Hid (∀ w, Calls Fahg.prog 95 #[WP.nval ⟨2, A, 0, 0, 4, N⟩] w fun e w' => e = .returned (.int .u16 W) ∧ ∃ c nq, w' = (w.alloc (.cells c 34)).drewN nq))
    (hW1 : N * 4 ≤ 8 * W) (hW2 : 8 * W < N * 4 + 8) (hA : A + W ≤ len) (HX0 : Hid (W = 0 → x = 0)) (HXC : Hid (0 < W → z ((A + W - 1 : Nat) : Int) = x)) (HPB : Hid (PB = decide (x / 2 ^ (8 * (N * 4 - 8 * (W - 1))) = 0))) (w : World) (hz : Row w b off len z) (hb : b < w.heap.size) :
    Calls Fahg.prog 144 #[.slice (some ⟨b, off, none⟩) len cap, WP.nval ⟨2, A, 0, 0, 4, N⟩] w fun e w' => e = .returned (.bool PB) ∧ Below w.heap.size w w' := by
  simp only [WP.nval] at HW ⊢
  have HR : Hid _ := hz
  clear hz
  go_enter Fahg.func144, Fahg.ntmps144
  go_wp2_with fail
  obtain ⟨w0, hw0⟩ : ∃ w0, w0 = w.alloc (.cells #[.int .u8 2, .int .u16 A, .int .u8 0, .int .u8 0, .int .u8 4, .int .u16 N] 34) := ⟨_, rfl⟩
  rw [← hw0]
  have k : ∀ o, w0.cell? ⟨w.heap.size, o, none⟩ = #[Value.int .u8 2, .int .u16 A, .int .u8 0, .int .u8 0, .int .u8 4, .int .u16 N][o]? := fun o => by rw [hw0]; exact World.cell?_alloc_at _ _ _ _ rfl
  have HK : Hid _ := k
  have hB0 : Below w.heap.size w w0 := by rw [hw0]; exact below_alloc (Below.refl _ _) (Nat.le_refl _) _
  have HB0 : Hid _ := hB0
  have hz0 : w.heap.size < w0.heap.size := by rw [hw0]; simp
  clear hw0 k hB0
  go_loopg [6] (8 * W : Nat) (fun k I wr => ∃ bb : Nat, k ≤ 8 * W ∧ bb + k = 8 * W + N * 4 ∧ I = .int .i64 (bb : Nat) ∧ Below w0.heap.size w0 wr ∧ N * 4 ≤ bb ∧ bb ≤ 8 * W ∧ PB = decide (x / 2 ^ (8 * (bb - 8 * (W - 1))) = 0))
  case atStart => exact ⟨N * 4, by omega, by omega, by simp, Below.refl _ _, by omega, by omega, HPB.out⟩
  case round =>
    obtain ⟨bb, hk0, hk1, rfl, hB, hk2, hk3, hPB⟩ := hrel
    have HPB2 : Hid _ := hPB
    have HB : Hid _ := hB
    have HBB : Hid (Below w.heap.size w wr) := HB0.out.trans (hB.mono (by omega))
    have r := fun o => (hB.cell (p := ⟨w.heap.size, o, none⟩) hz0).trans (HK.out o)
    have r1 := r 0
    have r2 := r 1
    have r3 := r 2
    have r4 := r 3
    have r5 := r 4
    have r6 := r 5
    simp only [six0, six1, six2, six3, six4, six5] at r1 r2 r3 r4 r5 r6
    clear hPB hB r
    by_cases hlt0 : bb < 8 * W
    · have hW3 : 0 < W := by omega
      have hcz := (Row.below HR.out HBB.out hb) ((A + W - 1 : Nat) : Int) (by omega) (by omega)
      rw [HXC.out hW3, Int.toNat_natCast] at hcz
      have hcx : wr.cell? ⟨b, off + (A + bb / 8), none⟩ = some (.int .u64 x) := by rw [show A + bb / 8 = A + W - 1 by omega]; exact hcz.1
      have hbw : b < wr.heap.size := World.block_lt_of_cell? wr _ hcx
      have hmm : 8 * (bb - 8 * (W - 1)) = bb % 8 * 8 := by omega
      have hu8 := u8_nat x (bb % 8 * 8)
      clear hcz
      go_wp2_with fail
      refine (HW.out _).mono ?_
      rintro e w3 ⟨rfl, cA, nA, hw3⟩
      have hb3 : Below wr.heap.size wr w3 := by rw [hw3]; exact below_drewN' (below_alloc (Below.refl _ _) (Nat.le_refl _) _) _
      have hzr : w.heap.size < wr.heap.size := by have := HB.out.size; omega
      have t2 := (hb3.cell (p := ⟨w.heap.size, 1, none⟩) hzr).trans r2
      have hcx3 := (hb3.cell (p := ⟨b, off + (A + bb / 8), none⟩) hbw).trans hcx
      have HB3 : Hid (Below w0.heap.size w0 w3) := HB.out.trans (hb3.mono HB.out.size)
      have HBB3 : Hid (Below w.heap.size w w3) := HBB.out.trans (hb3.mono HBB.out.size)
      clear hw3 hb3 r1 r2 r3 r4 r5 r6 hcx HB HBB
      by_cases hbyte : x / 2 ^ (bb % 8 * 8) % 256 = 0
      · have HBZ : Hid _ := byte_zero x _ hbyte
        have HMM : Hid _ := hmm
        have hcond : (((x / 2 ^ (bb % 8 * 8) % 256 : Nat) : Int) != 0) = false := by rw [hbyte]; rfl
        clear hbyte hmm
        generalize x / 2 ^ (bb % 8 * 8) % 256 = y at *
        go_wp2_with fail
        go_roundg (gk - 1)
        case rel => exact ⟨bb + 1, by omega, by omega, by simp, HB3.out, by omega, by omega, by have e1 := HPB2.out; rw [HMM.out, HBZ.out] at e1; rw [e1]; congr 4; have := HMM.out; omega⟩
        case measure => omega
      · have hPF : PB = false := by
          rw [HPB2.out, hmm]
          generalize x / 2 ^ (bb % 8 * 8) = y at *
          exact decide_eq_false (by omega)
        have HPF : Hid _ := hPF
        have hcond : (((x / 2 ^ (bb % 8 * 8) % 256 : Nat) : Int) != 0) = true := ne_cond _ hbyte
        clear hbyte hmm hPF HPB2
        generalize x / 2 ^ (bb % 8 * 8) % 256 = y at *
        go_wp2_with fail
        go_ret
        exact ⟨ret_bool HPF.out.symm, HBB3.out⟩
    · have HPT : Hid (PB = true) := by
        show _ = _
        rw [HPB2.out]
        refine decide_eq_true ?_
        by_cases hW0 : W = 0
        · rw [HX0.out hW0, Nat.zero_div]
        · rw [show 8 * (bb - 8 * (W - 1)) = 64 by omega]; omega
      go_wp2_with fail
      refine (HW.out _).mono ?_
      rintro e w3 ⟨rfl, cA, nA, hw3⟩
      have hb3 : Below wr.heap.size wr w3 := by rw [hw3]; exact below_drewN' (below_alloc (Below.refl _ _) (Nat.le_refl _) _) _
      have HBB3 : Hid (Below w.heap.size w w3) := HBB.out.trans (hb3.mono HBB.out.size)
      clear hw3 hb3 r1 r2 r3 r4 r5 r6
      go_wp2_with fail
      go_ret
      exact ⟨ret_bool HPT.out.symm, HBB3.out⟩

set_option maxRecDepth 100000 in
set_option maxHeartbeats 1000000 in
theorem ztail5 (b off len cap : Nat) (z : Int → Int) (A N W x : Nat) (hl2 : len ≤ 256) (hN : N ≤ 128) (PB : Bool) (hx : x < 18446744073709551616)
    (HW : Hid (∀ w, Calls Fahg.prog 95 #[WP.nval ⟨2, A, 0, 0, 5, N⟩] w fun e w' => e = .returned (.int .u16 W) ∧ ∃ c nq, w' = (w.alloc (.cells c 34)).drewN nq))
    (hW1 : N * 8 ≤ 8 * W) (hW2 : 8 * W < N * 8 + 8) (hA : A + W ≤ len) (HX0 : Hid (W = 0 → x = 0)) (HXC : Hid (0 < W → z ((A + W - 1 : Nat) : Int) = x)) (HPB : Hid (PB = decide (x / 2 ^ (8 * (N * 8 - 8 * (W - 1))) = 0))) (w : World) (hz : Row w b off len z) (hb : b < w.heap.size) :
    Calls Fahg.prog 144 #[.slice (some ⟨b, off, none⟩) len cap, WP.nval ⟨2, A, 0, 0, 5, N⟩] w fun e w' => e = .returned (.bool PB) ∧ Below w.heap.size w w' := by
  simp only [WP.nval] at HW ⊢
  have HR : Hid _ := hz
  clear hz
  go_enter Fahg.func144, Fahg.ntmps144
  go_wp2_with fail
  obtain ⟨w0, hw0⟩ : ∃ w0, w0 = w.alloc (.cells #[.int .u8 2, .int .u16 A, .int .u8 0, .int .u8 0, .int .u8 5, .int .u16 N] 34) := ⟨_, rfl⟩
  rw [← hw0]
  have k : ∀ o, w0.cell? ⟨w.heap.size, o, none⟩ = #[Value.int .u8 2, .int .u16 A, .int .u8 0, .int .u8 0, .int .u8 5, .int .u16 N][o]? := fun o => by rw [hw0]; exact World.cell?_alloc_at _ _ _ _ rfl
  have HK : Hid _ := k
  have hB0 : Below w.heap.size w w0 := by rw [hw0]; exact below_alloc (Below.refl _ _) (Nat.le_refl _) _
  have HB0 : Hid _ := hB0
  have hz0 : w.heap.size < w0.heap.size := by rw [hw0]; simp
  clear hw0 k hB0
  go_loopg [6] (8 * W : Nat) (fun k I wr => ∃ bb : Nat, k ≤ 8 * W ∧ bb + k = 8 * W + N * 8 ∧ I = .int .i64 (bb : Nat) ∧ Below w0.heap.size w0 wr ∧ N * 8 ≤ bb ∧ bb ≤ 8 * W ∧ PB = decide (x / 2 ^ (8 * (bb - 8 * (W - 1))) = 0))
  case atStart => exact ⟨N * 8, by omega, by omega, by simp, Below.refl _ _, by omega, by omega, HPB.out⟩
  case round =>
    obtain ⟨bb, hk0, hk1, rfl, hB, hk2, hk3, hPB⟩ := hrel
    have HPB2 : Hid _ := hPB
    have HB : Hid _ := hB
    have HBB : Hid (Below w.heap.size w wr) := HB0.out.trans (hB.mono (by omega))
    have r := fun o => (hB.cell (p := ⟨w.heap.size, o, none⟩) hz0).trans (HK.out o)
    have r1 := r 0
    have r2 := r 1
    have r3 := r 2
    have r4 := r 3
    have r5 := r 4
    have r6 := r 5
    simp only [six0, six1, six2, six3, six4, six5] at r1 r2 r3 r4 r5 r6
    clear hPB hB r
    by_cases hlt0 : bb < 8 * W
    · exact absurd hlt0 (by omega)
    · have HPT : Hid (PB = true) := by
        show _ = _
        rw [HPB2.out]
        refine decide_eq_true ?_
        by_cases hW0 : W = 0
        · rw [HX0.out hW0, Nat.zero_div]
        · rw [show 8 * (bb - 8 * (W - 1)) = 64 by omega]; omega
      go_wp2_with fail
      refine (HW.out _).mono ?_
      rintro e w3 ⟨rfl, cA, nA, hw3⟩
      have hb3 : Below wr.heap.size wr w3 := by rw [hw3]; exact below_drewN' (below_alloc (Below.refl _ _) (Nat.le_refl _) _) _
      have HBB3 : Hid (Below w.heap.size w w3) := HBB.out.trans (hb3.mono HBB.out.size)
      clear hw3 hb3 r1 r2 r3 r4 r5 r6
      go_wp2_with fail
      go_ret
      exact ⟨ret_bool HPT.out.symm, HBB3.out⟩

theorem ztail_shape (b off len cap : Nat) (z : Int → Int) (A c C W : Nat) (hc1 : 2 ≤ c) (hc5 : c ≤ 5) (hC : C ≤ 128) (hW : (W : Int) = ((C : Int) * elBits c + 63) / 64) (hA : A + W ≤ len) (hw : WP.words ⟨2, A, 0, 0, c, C⟩ = (W : Int)) (hl : len ≤ 256) (hp : NShape len ⟨2, A, 0, 0, c, C⟩) (w : World) (hz : Row w b off len z) (hb : b < w.heap.size) :
    Calls Fahg.prog 144 #[.slice (some ⟨b, off, none⟩) len cap, WP.nval ⟨2, A, 0, 0, c, C⟩] w fun e w' => e = .returned (.bool (padB z ⟨2, A, 0, 0, c, C⟩)) ∧ Below w.heap.size w w' := by
  have hWd : ∀ w, Calls Fahg.prog 95 #[WP.nval ⟨2, A, 0, 0, c, C⟩] w fun e w' => e = .returned (.int .u16 W) ∧ ∃ c nq, w' = (w.alloc (.cells c 34)).drewN nq := fun w => by
    have := nwords_shape len hl _ hp w
    rw [hw] at this; exact this
  obtain ⟨E, hE⟩ := Int.eq_ofNat_of_zero_le (elBits_bd (c : Int)).1
  rw [hE] at hW
  have hW' : W = (C * E + 63) / 64 := by
    have : ((C * E : Nat) : Int) = (C : Int) * E := by push_cast; rfl
    generalize C * E = t at *
    rw [← this] at hW
    omega
  obtain ⟨x, hx, hx0, hxc⟩ : ∃ x : Nat, x < 18446744073709551616 ∧ (W = 0 → x = 0) ∧ (0 < W → z ((A + W - 1 : Nat) : Int) = x) := by
    by_cases hW0 : W = 0
    · exact ⟨0, by decide, fun _ => rfl, fun h => absurd h (by omega)⟩
    · have hu := (hz ((A + W - 1 : Nat) : Int) (by omega) (by omega)).2
      obtain ⟨x, hxx⟩ := Int.eq_ofNat_of_zero_le hu.1
      exact ⟨x, by have := hu.2; omega, fun h => absurd h hW0, fun _ => hxx⟩
  have hE1 : 1 ≤ E := by
    have : c = 2 ∨ c = 3 ∨ c = 4 ∨ c = 5 := by omega
    rcases this with rfl | rfl | rfl | rfl <;> simp [elBits] at hE <;> omega
  have hpb := padB_val z A C W x E c ⟨by omega, by omega⟩ hE hE1 hW' hw hx hx0 hxc
  generalize padB z ⟨2, A, 0, 0, c, C⟩ = PB at *
  have hcs : c = 2 ∨ c = 3 ∨ c = 4 ∨ c = 5 := by omega
  rcases hcs with rfl | rfl | rfl | rfl
  · obtain rfl : E = 8 := by simp [elBits] at hE; omega
    exact ztail2 b off len cap z A C W x hl hC PB hx hWd (by omega) (by omega) hA hx0 hxc (hpb.trans (by congr 4; omega)) w hz hb
  · obtain rfl : E = 16 := by simp [elBits] at hE; omega
    exact ztail3 b off len cap z A C W x hl hC PB hx hWd (by omega) (by omega) hA hx0 hxc (hpb.trans (by congr 4; omega)) w hz hb
  · obtain rfl : E = 32 := by simp [elBits] at hE; omega
    exact ztail4 b off len cap z A C W x hl hC PB hx hWd (by omega) (by omega) hA hx0 hxc (hpb.trans (by congr 4; omega)) w hz hb
  · obtain rfl : E = 64 := by simp [elBits] at hE; omega
    exact ztail5 b off len cap z A C W x hl hC PB hx hWd (by omega) (by omega) hA hx0 hxc (hpb.trans (by congr 4; omega)) w hz hb
end Go.Proofs.Ygcfah
