/- wmodel.state.visit: lists of 16, 32 and 64 bits. -/
import Derived.Test.YgcfahVsb
namespace Go.Proofs.Ygcfah
open Go.RowKit
set_option linter.unusedVariables false
set_option linter.unusedSimpArgs false

set_option maxRecDepth 100000 in
set_option maxHeartbeats 2000000 in
theorem visit_pad3 (b off len cap : Nat) (z : Int → Int) (B g left : Nat) (hl2 : len ≤ 256) (hb : b < B) (hBg : B ≤ g) (hleft : left ≤ 7) (IH : Hid (VisitOk b off len cap z B g left))
    (a : Nat) (S : Nat → Bool) (cost : Nat) (w : World) (ha : a < len) (hRow : Row w b off len z) (hBw : B ≤ w.heap.size) (hM : Mst w B g S cost) (V : Option ((Nat → Bool) × Nat))
    (A N : Nat) (hN : N < 536870912) (PB : Bool) (x : Nat) (hx : x < 18446744073709551616) (hr : rsv z len a = (⟨2, A, 0, 0, 3, N⟩, true)) (W : Nat) (HW : Hid (W = (N * 16 + 63) / 64)) (hW1 : N * 16 ≤ 64 * W) (hW2 : 64 * W < N * 16 + 64) (hA : A + W ≤ len) (HX0 : Hid (W = 0 → x = 0)) (HXC : Hid (0 < W → z ((A + W - 1 : Nat) : Int) = x)) (HPB : Hid (PB = decide (x / 2 ^ (N * 16 - 64 * (W - 1)) = 0))) (hw : wWords 2 0 0 3 N = (W : Int))
    (ks : List Nat) (HKS : Hid (∀ e i, e < 0 → i < 0 → ks.drop (e * 0 + i) = (A + e * (0 + 0) + 0 + i) :: ks.drop (e * 0 + i + 1) ∧ A + e * (0 + 0) + 0 + i < len)) (HKE : Hid (ks.drop (0 * 0) = []))
    (hV : Hid (V = if free S A W = true ∧ PB = true then visL (vis (resOf z len) left) (join S A W, cost + max W 1) ks else none)) :
    Calls Fahg.prog 110 #[.pointer (some ⟨g, 0, none⟩), .slice (some ⟨b, off, none⟩) len cap, .int .i64 a, .int .i64 ((left + 1 : Nat) : Int)] w fun e w' => e = .returned (.bool V.isSome) ∧ Mv B g w w' ∧ ∀ s', V = some s' → Mst w' B g s'.1 s'.2 := by
  have hwr : IntKind.u16.wrap (a : Int) = a := by rw [IntKind.wrap_u16]; omega
  have hres := fun w' (h : Row w' b off len z) => resolve_in b off len cap a z (by omega) (by omega) hl2 w' h
  rw [hr] at hres
  simp only [WP.val] at hres
  have hwd := fun w => words_any 2 A 0 0 3 N (by omega) (by omega) (by omega) (by omega) (by omega) (by omega) (by omega) (by omega) (by omega) (by omega) w
  rw [hw] at hwd
  have HWD : Hid _ := hwd
  have HM : Hid _ := hM
  have HR : Hid _ := hRow
  clear hwd hw hr hM
  go_enter Fahg.func110, Fahg.ntmps110
  go_wp2_with fail
  refine (hres w hRow).mono ?_
  rintro e w1 ⟨rfl, hb1⟩
  have HB1 : Hid _ := hb1
  clear hres hRow hb1
  go_wp2_with fail
  refine (HWD.out _).mono ?_
  rintro e w2 ⟨rfl, c, n0, hw2⟩
  have hp2 : w2.heap[w1.heap.size]? = some (.cells #[.int .u8 2, .int .u16 A, .int .u8 0, .int .u8 0, .int .u8 3, .int .u32 N] 78 (0, 0)) := by rw [hw2]; exact (heap_alloc_old _ _ (by simp)).trans (heap_alloc_new _ _)
  have hb2 : Below w.heap.size w w2 := by
    rw [hw2]; exact below_drewN' (below_alloc (below_alloc HB1.out (Nat.le_refl _) _) (by have := HB1.out.size; simp at this ⊢; try omega) _) _
  have hsz : w1.heap.size < w2.heap.size := (Array.getElem?_eq_some_iff.1 hp2).1
  have hgl : g < w.heap.size := HM.out.lt
  have hgl1 : g < w1.heap.size := Nat.lt_of_lt_of_le hgl HB1.out.size
  have HM2 : Hid _ := HM.out.below hb2
  have HV2 : Hid (Mv B g w w2) := .of_below hb2
  have r1 := cell_heap (o := 0) hp2
  have r2 := cell_heap (o := 1) hp2
  have r3 := cell_heap (o := 2) hp2
  have r4 := cell_heap (o := 3) hp2
  have r5 := cell_heap (o := 4) hp2
  have r6 := cell_heap (o := 5) hp2
  simp only [six0, six1, six2, six3, six4, six5] at r1 r2 r3 r4 r5 r6
  have HP2 : Hid _ := hp2
  clear hw2 hb2 HB1 hp2 HM
  go_wp2_with fail
  go_quiet (fail)
  go_wp2_with fail
  have hgat := gather_any B g S cost A W (by omega) (by omega) (by omega) (w2.drewN nq) hBg (HM2.out.below (below_drewN' (Below.refl _ _) _))
  refine hgat.mono ?_
  rintro e w3 ⟨rfl, hv3, hm3⟩
  clear hgat
  have hv3 := (Mv.of_below (below_drewN' (Below.refl _ w2) nq) : Mv B g w2 (w2.drewN nq)).trans hv3
  have hp3 := (hv3.block w1.heap.size hsz (by omega) (.inr (by intro c f; rw [HP2.out]; intro e; injection e with e; injection e with e1 e2; exact absurd e2 (by decide)))).trans HP2.out
  have hsz3 : w1.heap.size < w3.heap.size := Nat.lt_of_lt_of_le hsz hv3.size
  have HV3 : Hid _ := HV2.out.trans hv3
  clear r1 r2 r3 r4 r5 r6 HP2 HV2 HM2 hv3 hsz
  cases hf : free S A W with
  | false =>
    have hVn : V = none := by rw [hV.out, hf]; simp
    have HVn : Hid _ := hVn
    clear hV hm3 hf hVn
    go_wp2_with fail
    go_ret
    have e := HVn.out
    subst e
    exact ⟨rfl, HV3.out, fun s' h => by cases h⟩
  | true =>
    have hm3' := hm3 hf
    have HF : Hid _ := hf
    obtain ⟨s, cap2, cur, seen, hg, hrest⟩ := hm3'.st
    have gc := cell_heap (o := 1) hg
    have gf := frozen_heap (o := 1) hg
    simp only [two1] at gc
    have HM3 : Hid _ := hm3'
    have r1 := cell_heap (o := 0) hp3
    have r2 := cell_heap (o := 1) hp3
    have r3 := cell_heap (o := 2) hp3
    have r4 := cell_heap (o := 3) hp3
    have r5 := cell_heap (o := 4) hp3
    have r6 := cell_heap (o := 5) hp3
    simp only [six0, six1, six2, six3, six4, six5] at r1 r2 r3 r4 r5 r6
    obtain ⟨cm, hcm⟩ : ∃ cm, cm = cost % 18446744073709551616 := ⟨_, rfl⟩
    rw [← hcm] at gc
    have HCM : Hid _ := hcm
    have HP3 : Hid _ := hp3
    clear hm3 hm3' hf hg hrest hcm hp3
    have hwc : ∀ K : Nat, IntKind.u64.wrap ((cm : Int) + K) = (((cost + K) % 18446744073709551616 : Nat) : Int) := by
      intro K; rw [IntKind.wrap_u64, HCM.out]; omega
    by_cases hW0 : W = 0
    · have hN0 : N = 0 := by omega
      have hwK := hwc 1
      have hM4 := HM3.out.paid 1
      obtain ⟨cn, hcn⟩ : ∃ cn, cn = (cost + 1) % 18446744073709551616 := ⟨_, rfl⟩
      rw [← hcn] at hwK hM4
      have hwK : IntKind.u64.wrap ((cm : Int) + 1) = cn := hwK
      have HM4 : Hid _ := hM4
      clear hwc hcn hM4
      skip
      go_wp2_with fail
      go_quiet (fail)
      go_wp2_with fail
      obtain ⟨nz, hnz⟩ : ∃ nz, nz = nq := ⟨_, rfl⟩
      rw [← hnz]
      clear hnz
      have hix := idx89_3
      go_region
      go_wp2_with fail
      go_loopg [19] (64 * W : Nat) (fun k I wr => ∃ bb : Nat, k ≤ 64 * W ∧ bb + k = 64 * W + N * 16 ∧ I = .int .i64 (bb : Nat) ∧ wr = w3.drewN (nz + 1) ∧ N * 16 ≤ bb ∧ bb ≤ 64 * W ∧ PB = decide (x / 2 ^ (bb - 64 * (W - 1)) = 0))
      case atStart => exact ⟨N * 16, by omega, by omega, by simp [hN0], rfl, by omega, by omega, HPB.out⟩
      obtain ⟨bb, hk0, hk1, rfl, rfl, hk2, hk3, hPB⟩ := hrel
      have HPB2 : Hid _ := hPB
      clear hPB
      by_cases hlt0 : bb < 64 * W
      case pos => exact absurd hlt0 (by omega)
      have HPT : Hid (PB = true) := by
        show _ = _
        rw [HPB2.out, HX0.out hW0, Nat.zero_div]; rfl
      go_wp2_with fail
      have HV4 : Hid (Mv B g w ((w3.drewN (nz + 1)).setCell ⟨g, 1, none⟩ (.int .u64 cn))) := HV3.out.trans (mv_cost _ _ _)
      have HM5 : Hid (Mst ((w3.drewN (nz + 1)).setCell ⟨g, 1, none⟩ (.int .u64 cn)) B g (join S A W) (cost + 1)) := (show Mst (((w3.setCell ⟨g, 1, none⟩ (.int .u64 cn))).drewN (nz + 1)) B g _ _ from HM4.out.below (below_drewN' (Below.refl _ _) _))
      have HV5 : Hid (V = visL (vis (resOf z len) left) (join S A W, cost + 1) ks) := hV.out.trans (by rw [if_pos ⟨HF.out, HPT.out⟩]; first | done | (congr 2; omega))
      clear HM4 HM3 HV3 hV HF r1 r2 r3 r4 r5 r6 gc gf HP3 HCM hwK HWD HW
      generalize ((w3.drewN (nz + 1)).setCell ⟨g, 1, none⟩ (.int .u64 cn)) = w4 at *
      go_loopg [20] (0 : Nat) (fun k I wr => ∃ (e : Nat) (s' : (Nat → Bool) × Nat), e + k = 0 ∧ I = .int .i64 (e : Nat) ∧ Mst wr B g s'.1 s'.2 ∧ Mv B g w wr ∧ V = visL (vis (resOf z len) left) s' (ks.drop (e * 0)))
      case atStart => exact ⟨0, _, by omega, rfl, HM5.out, HV4.out, by rw [Nat.zero_mul, List.drop_zero]; exact HV5.out⟩
      case round =>
        obtain ⟨e, s1, he, rfl, hM, hv, hVe⟩ := hrel
        have HM : Hid _ := hM
        have HV : Hid _ := hv
        have HVE : Hid _ := hVe
        clear hM hv hVe HM5 HV4 HV5
        by_cases hlt : e < 0
        · exact absurd hlt (by omega)
        · obtain he2 : e = 0 := by omega
          go_wp2_with fail
          go_ret
          have e1 := HVE.out
          rw [he2, HKE.out] at e1
          subst e1
          exact ⟨rfl, HV.out, fun s' h => by cases h; exact HM.out⟩
    · have hW3 : 0 < W := by omega
      have hwK := hwc W
      have hM4 := HM3.out.paid W
      obtain ⟨cn, hcn⟩ : ∃ cn, cn = (cost + W) % 18446744073709551616 := ⟨_, rfl⟩
      rw [← hcn] at hwK hM4
      skip
      have HM4 : Hid _ := hM4
      clear hwc hcn hM4
      skip
      go_wp2_with fail
      go_quiet (fail)
      go_wp2_with fail
      obtain ⟨nz, hnz⟩ : ∃ nz, nz = nq := ⟨_, rfl⟩
      rw [← hnz]
      clear hnz
      have hix := idx89_3
      go_region
      go_wp2_with fail
      go_loopg [19] (64 * W : Nat) (fun k I wr => ∃ bb : Nat, k ≤ 64 * W ∧ bb + k = 64 * W + N * 16 ∧ I = .int .i64 (bb : Nat) ∧ wr = w3.drewN (nz + 1) ∧ N * 16 ≤ bb ∧ bb ≤ 64 * W ∧ PB = decide (x / 2 ^ (bb - 64 * (W - 1)) = 0))
      case atStart => exact ⟨N * 16, by omega, by omega, by simp, rfl, by omega, by omega, HPB.out⟩
      obtain ⟨bb, hk0, hk1, rfl, rfl, hk2, hk3, hPB⟩ := hrel
      have HPB2 : Hid _ := hPB
      clear hPB
      by_cases hlt0 : bb < 64 * W
      case pos =>
        have hcz := (Row.below HR.out (HV3.out.below hBg hBw) hb) ((A + W - 1 : Nat) : Int) (by omega) (by omega)
        rw [HXC.out hW3, Int.toNat_natCast] at hcz
        have hcx : w3.cell? ⟨b, off + (A + bb / 64), none⟩ = some (.int .u64 x) := by rw [show A + bb / 64 = A + W - 1 by omega]; exact hcz.1
        clear hcz
        have hmm : bb - 64 * (W - 1) = bb % 64 := by omega
        rcases Nat.mod_two_eq_zero_or_one (x / 2 ^ (bb % 64)) with hbit | hbit
        · have hcond : (bits BinOp.and IntKind.u64 (↑x / 2 ^ (bb % 64)) 1 == 1) = false := by rw [and_bit x _ hx, hbit]; decide
          have HBZ : Hid _ := bit_zero x _ hbit
          have HMM : Hid _ := hmm
          clear hbit hmm
          go_wp2_with fail
          go_roundg (gk - 1)
          case rel => exact ⟨bb + 1, by omega, by omega, by simp, rfl, by omega, by omega, by have e1 := HPB2.out; rw [HMM.out, HBZ.out] at e1; rw [e1]; congr 4; have := HMM.out; omega⟩
          case measure => omega
        · have hcond : (bits BinOp.and IntKind.u64 (↑x / 2 ^ (bb % 64)) 1 == 1) = true := by rw [and_bit x _ hx, hbit]; decide
          have hPF : PB = false := by
            rw [HPB2.out, hmm]
            generalize x / 2 ^ (bb % 64) = y at *
            exact decide_eq_false (by omega)
          have hVn : V = none := by rw [hV.out, hPF]; simp
          have HVn : Hid _ := hVn
          have HV4 : Hid (Mv B g w (w3.drewN (nz + 1))) := HV3.out.trans (.of_below (below_drewN' (Below.refl _ _) _))
          clear hbit hmm hVn hPF
          go_wp2_with fail
          go_ret
          have e := HVn.out
          subst e
          exact ⟨rfl, HV4.out, fun s' h => by cases h⟩
      have HPT : Hid (PB = true) := by
        show _ = _
        rw [HPB2.out]
        refine decide_eq_true ?_
        rw [show bb - 64 * (W - 1) = 64 by omega]
        omega
      go_wp2_with fail
      have HV4 : Hid (Mv B g w ((w3.drewN (nz + 1)).setCell ⟨g, 1, none⟩ (.int .u64 cn))) := HV3.out.trans (mv_cost _ _ _)
      have HM5 : Hid (Mst ((w3.drewN (nz + 1)).setCell ⟨g, 1, none⟩ (.int .u64 cn)) B g (join S A W) (cost + W)) := (show Mst (((w3.setCell ⟨g, 1, none⟩ (.int .u64 cn))).drewN (nz + 1)) B g _ _ from HM4.out.below (below_drewN' (Below.refl _ _) _))
      have HV5 : Hid (V = visL (vis (resOf z len) left) (join S A W, cost + W) ks) := hV.out.trans (by rw [if_pos ⟨HF.out, HPT.out⟩]; first | done | (congr 2; omega))
      clear HM4 HM3 HV3 hV HF r1 r2 r3 r4 r5 r6 gc gf HP3 HCM hwK HWD HW
      generalize ((w3.drewN (nz + 1)).setCell ⟨g, 1, none⟩ (.int .u64 cn)) = w4 at *
      go_loopg [20] (0 : Nat) (fun k I wr => ∃ (e : Nat) (s' : (Nat → Bool) × Nat), e + k = 0 ∧ I = .int .i64 (e : Nat) ∧ Mst wr B g s'.1 s'.2 ∧ Mv B g w wr ∧ V = visL (vis (resOf z len) left) s' (ks.drop (e * 0)))
      case atStart => exact ⟨0, _, by omega, rfl, HM5.out, HV4.out, by rw [Nat.zero_mul, List.drop_zero]; exact HV5.out⟩
      case round =>
        obtain ⟨e, s1, he, rfl, hM, hv, hVe⟩ := hrel
        have HM : Hid _ := hM
        have HV : Hid _ := hv
        have HVE : Hid _ := hVe
        clear hM hv hVe HM5 HV4 HV5
        by_cases hlt : e < 0
        · exact absurd hlt (by omega)
        · obtain he2 : e = 0 := by omega
          go_wp2_with fail
          go_ret
          have e1 := HVE.out
          rw [he2, HKE.out] at e1
          subst e1
          exact ⟨rfl, HV.out, fun s' h => by cases h; exact HM.out⟩

set_option maxRecDepth 100000 in
set_option maxHeartbeats 2000000 in
theorem visit_pad4 (b off len cap : Nat) (z : Int → Int) (B g left : Nat) (hl2 : len ≤ 256) (hb : b < B) (hBg : B ≤ g) (hleft : left ≤ 7) (IH : Hid (VisitOk b off len cap z B g left))
    (a : Nat) (S : Nat → Bool) (cost : Nat) (w : World) (ha : a < len) (hRow : Row w b off len z) (hBw : B ≤ w.heap.size) (hM : Mst w B g S cost) (V : Option ((Nat → Bool) × Nat))
    (A N : Nat) (hN : N < 536870912) (PB : Bool) (x : Nat) (hx : x < 18446744073709551616) (hr : rsv z len a = (⟨2, A, 0, 0, 4, N⟩, true)) (W : Nat) (HW : Hid (W = (N * 32 + 63) / 64)) (hW1 : N * 32 ≤ 64 * W) (hW2 : 64 * W < N * 32 + 64) (hA : A + W ≤ len) (HX0 : Hid (W = 0 → x = 0)) (HXC : Hid (0 < W → z ((A + W - 1 : Nat) : Int) = x)) (HPB : Hid (PB = decide (x / 2 ^ (N * 32 - 64 * (W - 1)) = 0))) (hw : wWords 2 0 0 4 N = (W : Int))
    (ks : List Nat) (HKS : Hid (∀ e i, e < 0 → i < 0 → ks.drop (e * 0 + i) = (A + e * (0 + 0) + 0 + i) :: ks.drop (e * 0 + i + 1) ∧ A + e * (0 + 0) + 0 + i < len)) (HKE : Hid (ks.drop (0 * 0) = []))
    (hV : Hid (V = if free S A W = true ∧ PB = true then visL (vis (resOf z len) left) (join S A W, cost + max W 1) ks else none)) :
    Calls Fahg.prog 110 #[.pointer (some ⟨g, 0, none⟩), .slice (some ⟨b, off, none⟩) len cap, .int .i64 a, .int .i64 ((left + 1 : Nat) : Int)] w fun e w' => e = .returned (.bool V.isSome) ∧ Mv B g w w' ∧ ∀ s', V = some s' → Mst w' B g s'.1 s'.2 := by
  have hwr : IntKind.u16.wrap (a : Int) = a := by rw [IntKind.wrap_u16]; omega
  have hres := fun w' (h : Row w' b off len z) => resolve_in b off len cap a z (by omega) (by omega) hl2 w' h
  rw [hr] at hres
  simp only [WP.val] at hres
  have hwd := fun w => words_any 2 A 0 0 4 N (by omega) (by omega) (by omega) (by omega) (by omega) (by omega) (by omega) (by omega) (by omega) (by omega) w
  rw [hw] at hwd
  have HWD : Hid _ := hwd
  have HM : Hid _ := hM
  have HR : Hid _ := hRow
  clear hwd hw hr hM
  go_enter Fahg.func110, Fahg.ntmps110
  go_wp2_with fail
  refine (hres w hRow).mono ?_
  rintro e w1 ⟨rfl, hb1⟩
  have HB1 : Hid _ := hb1
  clear hres hRow hb1
  go_wp2_with fail
  refine (HWD.out _).mono ?_
  rintro e w2 ⟨rfl, c, n0, hw2⟩
  have hp2 : w2.heap[w1.heap.size]? = some (.cells #[.int .u8 2, .int .u16 A, .int .u8 0, .int .u8 0, .int .u8 4, .int .u32 N] 78 (0, 0)) := by rw [hw2]; exact (heap_alloc_old _ _ (by simp)).trans (heap_alloc_new _ _)
  have hb2 : Below w.heap.size w w2 := by
    rw [hw2]; exact below_drewN' (below_alloc (below_alloc HB1.out (Nat.le_refl _) _) (by have := HB1.out.size; simp at this ⊢; try omega) _) _
  have hsz : w1.heap.size < w2.heap.size := (Array.getElem?_eq_some_iff.1 hp2).1
  have hgl : g < w.heap.size := HM.out.lt
  have hgl1 : g < w1.heap.size := Nat.lt_of_lt_of_le hgl HB1.out.size
  have HM2 : Hid _ := HM.out.below hb2
  have HV2 : Hid (Mv B g w w2) := .of_below hb2
  have r1 := cell_heap (o := 0) hp2
  have r2 := cell_heap (o := 1) hp2
  have r3 := cell_heap (o := 2) hp2
  have r4 := cell_heap (o := 3) hp2
  have r5 := cell_heap (o := 4) hp2
  have r6 := cell_heap (o := 5) hp2
  simp only [six0, six1, six2, six3, six4, six5] at r1 r2 r3 r4 r5 r6
  have HP2 : Hid _ := hp2
  clear hw2 hb2 HB1 hp2 HM
  go_wp2_with fail
  go_quiet (fail)
  go_wp2_with fail
  have hgat := gather_any B g S cost A W (by omega) (by omega) (by omega) (w2.drewN nq) hBg (HM2.out.below (below_drewN' (Below.refl _ _) _))
  refine hgat.mono ?_
  rintro e w3 ⟨rfl, hv3, hm3⟩
  clear hgat
  have hv3 := (Mv.of_below (below_drewN' (Below.refl _ w2) nq) : Mv B g w2 (w2.drewN nq)).trans hv3
  have hp3 := (hv3.block w1.heap.size hsz (by omega) (.inr (by intro c f; rw [HP2.out]; intro e; injection e with e; injection e with e1 e2; exact absurd e2 (by decide)))).trans HP2.out
  have hsz3 : w1.heap.size < w3.heap.size := Nat.lt_of_lt_of_le hsz hv3.size
  have HV3 : Hid _ := HV2.out.trans hv3
  clear r1 r2 r3 r4 r5 r6 HP2 HV2 HM2 hv3 hsz
  cases hf : free S A W with
  | false =>
    have hVn : V = none := by rw [hV.out, hf]; simp
    have HVn : Hid _ := hVn
    clear hV hm3 hf hVn
    go_wp2_with fail
    go_ret
    have e := HVn.out
    subst e
    exact ⟨rfl, HV3.out, fun s' h => by cases h⟩
  | true =>
    have hm3' := hm3 hf
    have HF : Hid _ := hf
    obtain ⟨s, cap2, cur, seen, hg, hrest⟩ := hm3'.st
    have gc := cell_heap (o := 1) hg
    have gf := frozen_heap (o := 1) hg
    simp only [two1] at gc
    have HM3 : Hid _ := hm3'
    have r1 := cell_heap (o := 0) hp3
    have r2 := cell_heap (o := 1) hp3
    have r3 := cell_heap (o := 2) hp3
    have r4 := cell_heap (o := 3) hp3
    have r5 := cell_heap (o := 4) hp3
    have r6 := cell_heap (o := 5) hp3
    simp only [six0, six1, six2, six3, six4, six5] at r1 r2 r3 r4 r5 r6
    obtain ⟨cm, hcm⟩ : ∃ cm, cm = cost % 18446744073709551616 := ⟨_, rfl⟩
    rw [← hcm] at gc
    have HCM : Hid _ := hcm
    have HP3 : Hid _ := hp3
    clear hm3 hm3' hf hg hrest hcm hp3
    have hwc : ∀ K : Nat, IntKind.u64.wrap ((cm : Int) + K) = (((cost + K) % 18446744073709551616 : Nat) : Int) := by
      intro K; rw [IntKind.wrap_u64, HCM.out]; omega
    by_cases hW0 : W = 0
    · have hN0 : N = 0 := by omega
      have hwK := hwc 1
      have hM4 := HM3.out.paid 1
      obtain ⟨cn, hcn⟩ : ∃ cn, cn = (cost + 1) % 18446744073709551616 := ⟨_, rfl⟩
      rw [← hcn] at hwK hM4
      have hwK : IntKind.u64.wrap ((cm : Int) + 1) = cn := hwK
      have HM4 : Hid _ := hM4
      clear hwc hcn hM4
      skip
      go_wp2_with fail
      go_quiet (fail)
      go_wp2_with fail
      obtain ⟨nz, hnz⟩ : ∃ nz, nz = nq := ⟨_, rfl⟩
      rw [← hnz]
      clear hnz
      have hix := idx89_4
      go_region
      go_wp2_with fail
      go_loopg [19] (64 * W : Nat) (fun k I wr => ∃ bb : Nat, k ≤ 64 * W ∧ bb + k = 64 * W + N * 32 ∧ I = .int .i64 (bb : Nat) ∧ wr = w3.drewN (nz + 1) ∧ N * 32 ≤ bb ∧ bb ≤ 64 * W ∧ PB = decide (x / 2 ^ (bb - 64 * (W - 1)) = 0))
      case atStart => exact ⟨N * 32, by omega, by omega, by simp [hN0], rfl, by omega, by omega, HPB.out⟩
      obtain ⟨bb, hk0, hk1, rfl, rfl, hk2, hk3, hPB⟩ := hrel
      have HPB2 : Hid _ := hPB
      clear hPB
      by_cases hlt0 : bb < 64 * W
      case pos => exact absurd hlt0 (by omega)
      have HPT : Hid (PB = true) := by
        show _ = _
        rw [HPB2.out, HX0.out hW0, Nat.zero_div]; rfl
      go_wp2_with fail
      have HV4 : Hid (Mv B g w ((w3.drewN (nz + 1)).setCell ⟨g, 1, none⟩ (.int .u64 cn))) := HV3.out.trans (mv_cost _ _ _)
      have HM5 : Hid (Mst ((w3.drewN (nz + 1)).setCell ⟨g, 1, none⟩ (.int .u64 cn)) B g (join S A W) (cost + 1)) := (show Mst (((w3.setCell ⟨g, 1, none⟩ (.int .u64 cn))).drewN (nz + 1)) B g _ _ from HM4.out.below (below_drewN' (Below.refl _ _) _))
      have HV5 : Hid (V = visL (vis (resOf z len) left) (join S A W, cost + 1) ks) := hV.out.trans (by rw [if_pos ⟨HF.out, HPT.out⟩]; first | done | (congr 2; omega))
      clear HM4 HM3 HV3 hV HF r1 r2 r3 r4 r5 r6 gc gf HP3 HCM hwK HWD HW
      generalize ((w3.drewN (nz + 1)).setCell ⟨g, 1, none⟩ (.int .u64 cn)) = w4 at *
      go_loopg [20] (0 : Nat) (fun k I wr => ∃ (e : Nat) (s' : (Nat → Bool) × Nat), e + k = 0 ∧ I = .int .i64 (e : Nat) ∧ Mst wr B g s'.1 s'.2 ∧ Mv B g w wr ∧ V = visL (vis (resOf z len) left) s' (ks.drop (e * 0)))
      case atStart => exact ⟨0, _, by omega, rfl, HM5.out, HV4.out, by rw [Nat.zero_mul, List.drop_zero]; exact HV5.out⟩
      case round =>
        obtain ⟨e, s1, he, rfl, hM, hv, hVe⟩ := hrel
        have HM : Hid _ := hM
        have HV : Hid _ := hv
        have HVE : Hid _ := hVe
        clear hM hv hVe HM5 HV4 HV5
        by_cases hlt : e < 0
        · exact absurd hlt (by omega)
        · obtain he2 : e = 0 := by omega
          go_wp2_with fail
          go_ret
          have e1 := HVE.out
          rw [he2, HKE.out] at e1
          subst e1
          exact ⟨rfl, HV.out, fun s' h => by cases h; exact HM.out⟩
    · have hW3 : 0 < W := by omega
      have hwK := hwc W
      have hM4 := HM3.out.paid W
      obtain ⟨cn, hcn⟩ : ∃ cn, cn = (cost + W) % 18446744073709551616 := ⟨_, rfl⟩
      rw [← hcn] at hwK hM4
      skip
      have HM4 : Hid _ := hM4
      clear hwc hcn hM4
      skip
      go_wp2_with fail
      go_quiet (fail)
      go_wp2_with fail
      obtain ⟨nz, hnz⟩ : ∃ nz, nz = nq := ⟨_, rfl⟩
      rw [← hnz]
      clear hnz
      have hix := idx89_4
      go_region
      go_wp2_with fail
      go_loopg [19] (64 * W : Nat) (fun k I wr => ∃ bb : Nat, k ≤ 64 * W ∧ bb + k = 64 * W + N * 32 ∧ I = .int .i64 (bb : Nat) ∧ wr = w3.drewN (nz + 1) ∧ N * 32 ≤ bb ∧ bb ≤ 64 * W ∧ PB = decide (x / 2 ^ (bb - 64 * (W - 1)) = 0))
      case atStart => exact ⟨N * 32, by omega, by omega, by simp, rfl, by omega, by omega, HPB.out⟩
      obtain ⟨bb, hk0, hk1, rfl, rfl, hk2, hk3, hPB⟩ := hrel
      have HPB2 : Hid _ := hPB
      clear hPB
      by_cases hlt0 : bb < 64 * W
      case pos =>
        have hcz := (Row.below HR.out (HV3.out.below hBg hBw) hb) ((A + W - 1 : Nat) : Int) (by omega) (by omega)
        rw [HXC.out hW3, Int.toNat_natCast] at hcz
        have hcx : w3.cell? ⟨b, off + (A + bb / 64), none⟩ = some (.int .u64 x) := by rw [show A + bb / 64 = A + W - 1 by omega]; exact hcz.1
        clear hcz
        have hmm : bb - 64 * (W - 1) = bb % 64 := by omega
        rcases Nat.mod_two_eq_zero_or_one (x / 2 ^ (bb % 64)) with hbit | hbit
        · have hcond : (bits BinOp.and IntKind.u64 (↑x / 2 ^ (bb % 64)) 1 == 1) = false := by rw [and_bit x _ hx, hbit]; decide
          have HBZ : Hid _ := bit_zero x _ hbit
          have HMM : Hid _ := hmm
          clear hbit hmm
          go_wp2_with fail
          go_roundg (gk - 1)
          case rel => exact ⟨bb + 1, by omega, by omega, by simp, rfl, by omega, by omega, by have e1 := HPB2.out; rw [HMM.out, HBZ.out] at e1; rw [e1]; congr 4; have := HMM.out; omega⟩
          case measure => omega
        · have hcond : (bits BinOp.and IntKind.u64 (↑x / 2 ^ (bb % 64)) 1 == 1) = true := by rw [and_bit x _ hx, hbit]; decide
          have hPF : PB = false := by
            rw [HPB2.out, hmm]
            generalize x / 2 ^ (bb % 64) = y at *
            exact decide_eq_false (by omega)
          have hVn : V = none := by rw [hV.out, hPF]; simp
          have HVn : Hid _ := hVn
          have HV4 : Hid (Mv B g w (w3.drewN (nz + 1))) := HV3.out.trans (.of_below (below_drewN' (Below.refl _ _) _))
          clear hbit hmm hVn hPF
          go_wp2_with fail
          go_ret
          have e := HVn.out
          subst e
          exact ⟨rfl, HV4.out, fun s' h => by cases h⟩
      have HPT : Hid (PB = true) := by
        show _ = _
        rw [HPB2.out]
        refine decide_eq_true ?_
        rw [show bb - 64 * (W - 1) = 64 by omega]
        omega
      go_wp2_with fail
      have HV4 : Hid (Mv B g w ((w3.drewN (nz + 1)).setCell ⟨g, 1, none⟩ (.int .u64 cn))) := HV3.out.trans (mv_cost _ _ _)
      have HM5 : Hid (Mst ((w3.drewN (nz + 1)).setCell ⟨g, 1, none⟩ (.int .u64 cn)) B g (join S A W) (cost + W)) := (show Mst (((w3.setCell ⟨g, 1, none⟩ (.int .u64 cn))).drewN (nz + 1)) B g _ _ from HM4.out.below (below_drewN' (Below.refl _ _) _))
      have HV5 : Hid (V = visL (vis (resOf z len) left) (join S A W, cost + W) ks) := hV.out.trans (by rw [if_pos ⟨HF.out, HPT.out⟩]; first | done | (congr 2; omega))
      clear HM4 HM3 HV3 hV HF r1 r2 r3 r4 r5 r6 gc gf HP3 HCM hwK HWD HW
      generalize ((w3.drewN (nz + 1)).setCell ⟨g, 1, none⟩ (.int .u64 cn)) = w4 at *
      go_loopg [20] (0 : Nat) (fun k I wr => ∃ (e : Nat) (s' : (Nat → Bool) × Nat), e + k = 0 ∧ I = .int .i64 (e : Nat) ∧ Mst wr B g s'.1 s'.2 ∧ Mv B g w wr ∧ V = visL (vis (resOf z len) left) s' (ks.drop (e * 0)))
      case atStart => exact ⟨0, _, by omega, rfl, HM5.out, HV4.out, by rw [Nat.zero_mul, List.drop_zero]; exact HV5.out⟩
      case round =>
        obtain ⟨e, s1, he, rfl, hM, hv, hVe⟩ := hrel
        have HM : Hid _ := hM
        have HV : Hid _ := hv
        have HVE : Hid _ := hVe
        clear hM hv hVe HM5 HV4 HV5
        by_cases hlt : e < 0
        · exact absurd hlt (by omega)
        · obtain he2 : e = 0 := by omega
          go_wp2_with fail
          go_ret
          have e1 := HVE.out
          rw [he2, HKE.out] at e1
          subst e1
          exact ⟨rfl, HV.out, fun s' h => by cases h; exact HM.out⟩

set_option maxRecDepth 100000 in
set_option maxHeartbeats 2000000 in
theorem visit_pad5 (b off len cap : Nat) (z : Int → Int) (B g left : Nat) (hl2 : len ≤ 256) (hb : b < B) (hBg : B ≤ g) (hleft : left ≤ 7) (IH : Hid (VisitOk b off len cap z B g left))
    (a : Nat) (S : Nat → Bool) (cost : Nat) (w : World) (ha : a < len) (hRow : Row w b off len z) (hBw : B ≤ w.heap.size) (hM : Mst w B g S cost) (V : Option ((Nat → Bool) × Nat))
    (A N : Nat) (hN : N < 536870912) (PB : Bool) (x : Nat) (hx : x < 18446744073709551616) (hr : rsv z len a = (⟨2, A, 0, 0, 5, N⟩, true)) (W : Nat) (HW : Hid (W = (N * 64 + 63) / 64)) (hW1 : N * 64 ≤ 64 * W) (hW2 : 64 * W < N * 64 + 64) (hA : A + W ≤ len) (HX0 : Hid (W = 0 → x = 0)) (HXC : Hid (0 < W → z ((A + W - 1 : Nat) : Int) = x)) (HPB : Hid (PB = decide (x / 2 ^ (N * 64 - 64 * (W - 1)) = 0))) (hw : wWords 2 0 0 5 N = (W : Int))
    (ks : List Nat) (HKS : Hid (∀ e i, e < 0 → i < 0 → ks.drop (e * 0 + i) = (A + e * (0 + 0) + 0 + i) :: ks.drop (e * 0 + i + 1) ∧ A + e * (0 + 0) + 0 + i < len)) (HKE : Hid (ks.drop (0 * 0) = []))
    (hV : Hid (V = if free S A W = true ∧ PB = true then visL (vis (resOf z len) left) (join S A W, cost + max W 1) ks else none)) :
    Calls Fahg.prog 110 #[.pointer (some ⟨g, 0, none⟩), .slice (some ⟨b, off, none⟩) len cap, .int .i64 a, .int .i64 ((left + 1 : Nat) : Int)] w fun e w' => e = .returned (.bool V.isSome) ∧ Mv B g w w' ∧ ∀ s', V = some s' → Mst w' B g s'.1 s'.2 := by
  have hwr : IntKind.u16.wrap (a : Int) = a := by rw [IntKind.wrap_u16]; omega
  have hres := fun w' (h : Row w' b off len z) => resolve_in b off len cap a z (by omega) (by omega) hl2 w' h
  rw [hr] at hres
  simp only [WP.val] at hres
  have hwd := fun w => words_any 2 A 0 0 5 N (by omega) (by omega) (by omega) (by omega) (by omega) (by omega) (by omega) (by omega) (by omega) (by omega) w
  rw [hw] at hwd
  have HWD : Hid _ := hwd
  have HM : Hid _ := hM
  have HR : Hid _ := hRow
  clear hwd hw hr hM
  go_enter Fahg.func110, Fahg.ntmps110
  go_wp2_with fail
  refine (hres w hRow).mono ?_
  rintro e w1 ⟨rfl, hb1⟩
  have HB1 : Hid _ := hb1
  clear hres hRow hb1
  go_wp2_with fail
  refine (HWD.out _).mono ?_
  rintro e w2 ⟨rfl, c, n0, hw2⟩
  have hp2 : w2.heap[w1.heap.size]? = some (.cells #[.int .u8 2, .int .u16 A, .int .u8 0, .int .u8 0, .int .u8 5, .int .u32 N] 78 (0, 0)) := by rw [hw2]; exact (heap_alloc_old _ _ (by simp)).trans (heap_alloc_new _ _)
  have hb2 : Below w.heap.size w w2 := by
    rw [hw2]; exact below_drewN' (below_alloc (below_alloc HB1.out (Nat.le_refl _) _) (by have := HB1.out.size; simp at this ⊢; try omega) _) _
  have hsz : w1.heap.size < w2.heap.size := (Array.getElem?_eq_some_iff.1 hp2).1
  have hgl : g < w.heap.size := HM.out.lt
  have hgl1 : g < w1.heap.size := Nat.lt_of_lt_of_le hgl HB1.out.size
  have HM2 : Hid _ := HM.out.below hb2
  have HV2 : Hid (Mv B g w w2) := .of_below hb2
  have r1 := cell_heap (o := 0) hp2
  have r2 := cell_heap (o := 1) hp2
  have r3 := cell_heap (o := 2) hp2
  have r4 := cell_heap (o := 3) hp2
  have r5 := cell_heap (o := 4) hp2
  have r6 := cell_heap (o := 5) hp2
  simp only [six0, six1, six2, six3, six4, six5] at r1 r2 r3 r4 r5 r6
  have HP2 : Hid _ := hp2
  clear hw2 hb2 HB1 hp2 HM
  go_wp2_with fail
  go_quiet (fail)
  go_wp2_with fail
  have hgat := gather_any B g S cost A W (by omega) (by omega) (by omega) (w2.drewN nq) hBg (HM2.out.below (below_drewN' (Below.refl _ _) _))
  refine hgat.mono ?_
  rintro e w3 ⟨rfl, hv3, hm3⟩
  clear hgat
  have hv3 := (Mv.of_below (below_drewN' (Below.refl _ w2) nq) : Mv B g w2 (w2.drewN nq)).trans hv3
  have hp3 := (hv3.block w1.heap.size hsz (by omega) (.inr (by intro c f; rw [HP2.out]; intro e; injection e with e; injection e with e1 e2; exact absurd e2 (by decide)))).trans HP2.out
  have hsz3 : w1.heap.size < w3.heap.size := Nat.lt_of_lt_of_le hsz hv3.size
  have HV3 : Hid _ := HV2.out.trans hv3
  clear r1 r2 r3 r4 r5 r6 HP2 HV2 HM2 hv3 hsz
  cases hf : free S A W with
  | false =>
    have hVn : V = none := by rw [hV.out, hf]; simp
    have HVn : Hid _ := hVn
    clear hV hm3 hf hVn
    go_wp2_with fail
    go_ret
    have e := HVn.out
    subst e
    exact ⟨rfl, HV3.out, fun s' h => by cases h⟩
  | true =>
    have hm3' := hm3 hf
    have HF : Hid _ := hf
    obtain ⟨s, cap2, cur, seen, hg, hrest⟩ := hm3'.st
    have gc := cell_heap (o := 1) hg
    have gf := frozen_heap (o := 1) hg
    simp only [two1] at gc
    have HM3 : Hid _ := hm3'
    have r1 := cell_heap (o := 0) hp3
    have r2 := cell_heap (o := 1) hp3
    have r3 := cell_heap (o := 2) hp3
    have r4 := cell_heap (o := 3) hp3
    have r5 := cell_heap (o := 4) hp3
    have r6 := cell_heap (o := 5) hp3
    simp only [six0, six1, six2, six3, six4, six5] at r1 r2 r3 r4 r5 r6
    obtain ⟨cm, hcm⟩ : ∃ cm, cm = cost % 18446744073709551616 := ⟨_, rfl⟩
    rw [← hcm] at gc
    have HCM : Hid _ := hcm
    have HP3 : Hid _ := hp3
    clear hm3 hm3' hf hg hrest hcm hp3
    have hwc : ∀ K : Nat, IntKind.u64.wrap ((cm : Int) + K) = (((cost + K) % 18446744073709551616 : Nat) : Int) := by
      intro K; rw [IntKind.wrap_u64, HCM.out]; omega
    by_cases hW0 : W = 0
    · have hN0 : N = 0 := by omega
      have hwK := hwc 1
      have hM4 := HM3.out.paid 1
      obtain ⟨cn, hcn⟩ : ∃ cn, cn = (cost + 1) % 18446744073709551616 := ⟨_, rfl⟩
      rw [← hcn] at hwK hM4
      have hwK : IntKind.u64.wrap ((cm : Int) + 1) = cn := hwK
      have HM4 : Hid _ := hM4
      clear hwc hcn hM4
      skip
      go_wp2_with fail
      go_quiet (fail)
      go_wp2_with fail
      obtain ⟨nz, hnz⟩ : ∃ nz, nz = nq := ⟨_, rfl⟩
      rw [← hnz]
      clear hnz
      have hix := idx89_5
      go_region
      go_wp2_with fail
      go_loopg [19] (64 * W : Nat) (fun k I wr => ∃ bb : Nat, k ≤ 64 * W ∧ bb + k = 64 * W + N * 64 ∧ I = .int .i64 (bb : Nat) ∧ wr = w3.drewN (nz + 1) ∧ N * 64 ≤ bb ∧ bb ≤ 64 * W ∧ PB = decide (x / 2 ^ (bb - 64 * (W - 1)) = 0))
      case atStart => exact ⟨N * 64, by omega, by omega, by simp [hN0], rfl, by omega, by omega, HPB.out⟩
      obtain ⟨bb, hk0, hk1, rfl, rfl, hk2, hk3, hPB⟩ := hrel
      have HPB2 : Hid _ := hPB
      clear hPB
      by_cases hlt0 : bb < 64 * W
      case pos => exact absurd hlt0 (by omega)
      have HPT : Hid (PB = true) := by
        show _ = _
        rw [HPB2.out, HX0.out hW0, Nat.zero_div]; rfl
      go_wp2_with fail
      have HV4 : Hid (Mv B g w ((w3.drewN (nz + 1)).setCell ⟨g, 1, none⟩ (.int .u64 cn))) := HV3.out.trans (mv_cost _ _ _)
      have HM5 : Hid (Mst ((w3.drewN (nz + 1)).setCell ⟨g, 1, none⟩ (.int .u64 cn)) B g (join S A W) (cost + 1)) := (show Mst (((w3.setCell ⟨g, 1, none⟩ (.int .u64 cn))).drewN (nz + 1)) B g _ _ from HM4.out.below (below_drewN' (Below.refl _ _) _))
      have HV5 : Hid (V = visL (vis (resOf z len) left) (join S A W, cost + 1) ks) := hV.out.trans (by rw [if_pos ⟨HF.out, HPT.out⟩]; first | done | (congr 2; omega))
      clear HM4 HM3 HV3 hV HF r1 r2 r3 r4 r5 r6 gc gf HP3 HCM hwK HWD HW
      generalize ((w3.drewN (nz + 1)).setCell ⟨g, 1, none⟩ (.int .u64 cn)) = w4 at *
      go_loopg [20] (0 : Nat) (fun k I wr => ∃ (e : Nat) (s' : (Nat → Bool) × Nat), e + k = 0 ∧ I = .int .i64 (e : Nat) ∧ Mst wr B g s'.1 s'.2 ∧ Mv B g w wr ∧ V = visL (vis (resOf z len) left) s' (ks.drop (e * 0)))
      case atStart => exact ⟨0, _, by omega, rfl, HM5.out, HV4.out, by rw [Nat.zero_mul, List.drop_zero]; exact HV5.out⟩
      case round =>
        obtain ⟨e, s1, he, rfl, hM, hv, hVe⟩ := hrel
        have HM : Hid _ := hM
        have HV : Hid _ := hv
        have HVE : Hid _ := hVe
        clear hM hv hVe HM5 HV4 HV5
        by_cases hlt : e < 0
        · exact absurd hlt (by omega)
        · obtain he2 : e = 0 := by omega
          go_wp2_with fail
          go_ret
          have e1 := HVE.out
          rw [he2, HKE.out] at e1
          subst e1
          exact ⟨rfl, HV.out, fun s' h => by cases h; exact HM.out⟩
    · have hW3 : 0 < W := by omega
      have hwK := hwc W
      have hM4 := HM3.out.paid W
      obtain ⟨cn, hcn⟩ : ∃ cn, cn = (cost + W) % 18446744073709551616 := ⟨_, rfl⟩
      rw [← hcn] at hwK hM4
      skip
      have HM4 : Hid _ := hM4
      clear hwc hcn hM4
      skip
      go_wp2_with fail
      go_quiet (fail)
      go_wp2_with fail
      obtain ⟨nz, hnz⟩ : ∃ nz, nz = nq := ⟨_, rfl⟩
      rw [← hnz]
      clear hnz
      have hix := idx89_5
      go_region
      go_wp2_with fail
      go_loopg [19] (64 * W : Nat) (fun k I wr => ∃ bb : Nat, k ≤ 64 * W ∧ bb + k = 64 * W + N * 64 ∧ I = .int .i64 (bb : Nat) ∧ wr = w3.drewN (nz + 1) ∧ N * 64 ≤ bb ∧ bb ≤ 64 * W ∧ PB = decide (x / 2 ^ (bb - 64 * (W - 1)) = 0))
      case atStart => exact ⟨N * 64, by omega, by omega, by simp, rfl, by omega, by omega, HPB.out⟩
      obtain ⟨bb, hk0, hk1, rfl, rfl, hk2, hk3, hPB⟩ := hrel
      have HPB2 : Hid _ := hPB
      clear hPB
      by_cases hlt0 : bb < 64 * W
      case pos => exact absurd hlt0 (by omega)
      have HPT : Hid (PB = true) := by
        show _ = _
        rw [HPB2.out]
        refine decide_eq_true ?_
        rw [show bb - 64 * (W - 1) = 64 by omega]
        omega
      go_wp2_with fail
      have HV4 : Hid (Mv B g w ((w3.drewN (nz + 1)).setCell ⟨g, 1, none⟩ (.int .u64 cn))) := HV3.out.trans (mv_cost _ _ _)
      have HM5 : Hid (Mst ((w3.drewN (nz + 1)).setCell ⟨g, 1, none⟩ (.int .u64 cn)) B g (join S A W) (cost + W)) := (show Mst (((w3.setCell ⟨g, 1, none⟩ (.int .u64 cn))).drewN (nz + 1)) B g _ _ from HM4.out.below (below_drewN' (Below.refl _ _) _))
      have HV5 : Hid (V = visL (vis (resOf z len) left) (join S A W, cost + W) ks) := hV.out.trans (by rw [if_pos ⟨HF.out, HPT.out⟩]; first | done | (congr 2; omega))
      clear HM4 HM3 HV3 hV HF r1 r2 r3 r4 r5 r6 gc gf HP3 HCM hwK HWD HW
      generalize ((w3.drewN (nz + 1)).setCell ⟨g, 1, none⟩ (.int .u64 cn)) = w4 at *
      go_loopg [20] (0 : Nat) (fun k I wr => ∃ (e : Nat) (s' : (Nat → Bool) × Nat), e + k = 0 ∧ I = .int .i64 (e : Nat) ∧ Mst wr B g s'.1 s'.2 ∧ Mv B g w wr ∧ V = visL (vis (resOf z len) left) s' (ks.drop (e * 0)))
      case atStart => exact ⟨0, _, by omega, rfl, HM5.out, HV4.out, by rw [Nat.zero_mul, List.drop_zero]; exact HV5.out⟩
      case round =>
        obtain ⟨e, s1, he, rfl, hM, hv, hVe⟩ := hrel
        have HM : Hid _ := hM
        have HV : Hid _ := hv
        have HVE : Hid _ := hVe
        clear hM hv hVe HM5 HV4 HV5
        by_cases hlt : e < 0
        · exact absurd hlt (by omega)
        · obtain he2 : e = 0 := by omega
          go_wp2_with fail
          go_ret
          have e1 := HVE.out
          rw [he2, HKE.out] at e1
          subst e1
          exact ⟨rfl, HV.out, fun s' h => by cases h; exact HM.out⟩
end Go.Proofs.Ygcfah
