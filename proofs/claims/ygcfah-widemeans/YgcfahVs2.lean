/- wmodel.state.visit: lists of structs and of nothing. -/
import Derived.Test.YgcfahVsb
namespace Go.Proofs.Ygcfah
open Go.RowKit
set_option linter.unusedVariables false
set_option linter.unusedSimpArgs false

set_option maxRecDepth 100000 in
set_option maxHeartbeats 2000000 in
theorem visit_structs (b off len cap : Nat) (z : Int → Int) (B g left : Nat) (hl2 : len ≤ 256) (hb : b < B) (hBg : B ≤ g) (hleft : left ≤ 7) (IH : Hid (VisitOk b off len cap z B g left))
    (a : Nat) (S : Nat → Bool) (cost : Nat) (w : World) (ha : a < len) (hRow : Row w b off len z) (hBw : B ≤ w.heap.size) (hM : Mst w B g S cost) (V : Option ((Nat → Bool) × Nat))
    (L D P C X : Nat) (hD : D ≤ 8) (hP : P ≤ 8) (hDP : 0 < D + P) (HX : Hid (X = C * (D + P))) (hC : C ≤ 256) (hA : L + 1 + X ≤ len) (hr : rsv z len a = (⟨2, (L : Int) + 1, D, P, 7, C⟩, true)) (W : Nat) (HW : Hid (W = 1 + X)) (hW1 : W ≤ 1 + X) (hW2 : 1 + X ≤ W) (hw : wWords 2 D P 7 C = (W : Int))
    (ks : List Nat) (HKS : Hid (∀ e i, e < C → i < P → ks.drop (e * P + i) = ((L + 1) + e * (D + P) + D + i) :: ks.drop (e * P + i + 1) ∧ (L + 1) + e * (D + P) + D + i < len)) (HKE : Hid (ks.drop (C * P) = []))
    (hV : Hid (V = if free S L W = true then visL (vis (resOf z len) left) (join S L W, cost + W) ks else none)) :
    Calls Fahg.prog 110 #[.pointer (some ⟨g, 0, none⟩), .slice (some ⟨b, off, none⟩) len cap, .int .i64 a, .int .i64 ((left + 1 : Nat) : Int)] w fun e w' => e = .returned (.bool V.isSome) ∧ Mv B g w w' ∧ ∀ s', V = some s' → Mst w' B g s'.1 s'.2 := by
  have hwr : IntKind.u16.wrap (a : Int) = a := by rw [IntKind.wrap_u16]; omega
  have hres := fun w' (h : Row w' b off len z) => resolve_in b off len cap a z (by omega) (by omega) hl2 w' h
  rw [hr] at hres
  simp only [WP.val] at hres
  have hwd := fun w => words_any 2 ((L : Int) + 1) D P 7 C (by omega) (by omega) (by omega) (by omega) (by omega) (by omega) (by omega) (by omega) (by omega) (by omega) w
  rw [hw] at hwd
  have HWD : Hid _ := hwd
  have HM : Hid _ := hM
  have HR : Hid _ := hRow
  clear hwd hw hr hM
  go_enter Fahg.func110, Fahg.ntmps110
  go_wp2_with fail
  refine (hres w hRow).mono ?_
  rintro e w1 ⟨rfl, hb1⟩
  have HB1 : Hid _ := hb1
  clear hres hRow hb1
  go_wp2_with fail
  refine (HWD.out _).mono ?_
  rintro e w2 ⟨rfl, c, n0, hw2⟩
  have hp2 : w2.heap[w1.heap.size]? = some (.cells #[.int .u8 2, .int .u16 ((L : Int) + 1), .int .u8 D, .int .u8 P, .int .u8 7, .int .u32 C] 78 (0, 0)) := by rw [hw2]; exact (heap_alloc_old _ _ (by simp)).trans (heap_alloc_new _ _)
  have hb2 : Below w.heap.size w w2 := by
    rw [hw2]; exact below_drewN' (below_alloc (below_alloc HB1.out (Nat.le_refl _) _) (by have := HB1.out.size; simp at this ⊢; try omega) _) _
  have hsz : w1.heap.size < w2.heap.size := (Array.getElem?_eq_some_iff.1 hp2).1
  have hgl : g < w.heap.size := HM.out.lt
  have hgl1 : g < w1.heap.size := Nat.lt_of_lt_of_le hgl HB1.out.size
  have HM2 : Hid _ := HM.out.below hb2
  have HV2 : Hid (Mv B g w w2) := .of_below hb2
  have r1 := cell_heap (o := 0) hp2
  have r2 := cell_heap (o := 1) hp2
  have r3 := cell_heap (o := 2) hp2
  have r4 := cell_heap (o := 3) hp2
  have r5 := cell_heap (o := 4) hp2
  have r6 := cell_heap (o := 5) hp2
  simp only [six0, six1, six2, six3, six4, six5] at r1 r2 r3 r4 r5 r6
  have HP2 : Hid _ := hp2
  clear hw2 hb2 HB1 hp2 HM
  go_wp2_with fail
  go_quiet (fail)
  go_wp2_with fail
  have hgat := gather_any B g S cost L W (by omega) (by omega) (by omega) (w2.drewN nq) hBg (HM2.out.below (below_drewN' (Below.refl _ _) _))
  refine hgat.mono ?_
  rintro e w3 ⟨rfl, hv3, hm3⟩
  clear hgat
  have hv3 := (Mv.of_below (below_drewN' (Below.refl _ w2) nq) : Mv B g w2 (w2.drewN nq)).trans hv3
  have hp3 := (hv3.block w1.heap.size hsz (by omega) (.inr (by intro c f; rw [HP2.out]; intro e; injection e with e; injection e with e1 e2; exact absurd e2 (by decide)))).trans HP2.out
  have hsz3 : w1.heap.size < w3.heap.size := Nat.lt_of_lt_of_le hsz hv3.size
  have HV3 : Hid _ := HV2.out.trans hv3
  clear r1 r2 r3 r4 r5 r6 HP2 HV2 HM2 hv3 hsz
  cases hf : free S L W with
  | false =>
    have hVn : V = none := by rw [hV.out, hf]; rfl
    have HVn : Hid _ := hVn
    clear hV hm3 hf hVn
    go_wp2_with fail
    go_ret
    have e := HVn.out
    subst e
    exact ⟨rfl, HV3.out, fun s' h => by cases h⟩
  | true =>
    have hm3' := hm3 hf
    have HF : Hid _ := hf
    obtain ⟨s, cap2, cur, seen, hg, hrest⟩ := hm3'.st
    have gc := cell_heap (o := 1) hg
    have gf := frozen_heap (o := 1) hg
    simp only [two1] at gc
    have HM3 : Hid _ := hm3'
    have r1 := cell_heap (o := 0) hp3
    have r2 := cell_heap (o := 1) hp3
    have r3 := cell_heap (o := 2) hp3
    have r4 := cell_heap (o := 3) hp3
    have r5 := cell_heap (o := 4) hp3
    have r6 := cell_heap (o := 5) hp3
    simp only [six0, six1, six2, six3, six4, six5] at r1 r2 r3 r4 r5 r6
    obtain ⟨cm, hcm⟩ : ∃ cm, cm = cost % 18446744073709551616 := ⟨_, rfl⟩
    rw [← hcm] at gc
    have HCM : Hid _ := hcm
    have HP3 : Hid _ := hp3
    clear hm3 hm3' hf hg hrest hcm hp3
    have hwc : ∀ K : Nat, IntKind.u64.wrap ((cm : Int) + K) = (((cost + K) % 18446744073709551616 : Nat) : Int) := by
      intro K; rw [IntKind.wrap_u64, HCM.out]; omega
    · have hW3 : 0 < W := by omega
      have hwK := hwc W
      have hM4 := HM3.out.paid W
      obtain ⟨cn, hcn⟩ : ∃ cn, cn = (cost + W) % 18446744073709551616 := ⟨_, rfl⟩
      rw [← hcn] at hwK hM4
      skip
      have HM4 : Hid _ := hM4
      clear hwc hcn hM4
      skip
      go_wp2_with fail
      go_quiet (fail)
      go_wp2_with fail
      skip
      have HV4 : Hid (Mv B g w ((w3.drewN nq).setCell ⟨g, 1, none⟩ (.int .u64 cn))) := HV3.out.trans (mv_cost _ _ _)
      have HM5 : Hid (Mst ((w3.drewN nq).setCell ⟨g, 1, none⟩ (.int .u64 cn)) B g (join S L W) (cost + W)) := (show Mst (((w3.setCell ⟨g, 1, none⟩ (.int .u64 cn))).drewN nq) B g _ _ from HM4.out.below (below_drewN' (Below.refl _ _) _))
      have HV5 : Hid (V = visL (vis (resOf z len) left) (join S L W, cost + W) ks) := hV.out.trans (by rw [if_pos HF.out]; first | done | (congr 2; omega))
      clear HM4 HM3 HV3 hV HF r1 r2 r3 r4 r5 r6 gc gf HP3 HCM hwK HWD HW
      generalize ((w3.drewN nq).setCell ⟨g, 1, none⟩ (.int .u64 cn)) = w4 at *
      go_loopg [20] (C : Nat) (fun k I wr => ∃ (e : Nat) (s' : (Nat → Bool) × Nat), e + k = C ∧ I = .int .i64 (e : Nat) ∧ Mst wr B g s'.1 s'.2 ∧ Mv B g w wr ∧ V = visL (vis (resOf z len) left) s' (ks.drop (e * P)))
      case atStart => exact ⟨0, _, by omega, rfl, HM5.out, HV4.out, by rw [Nat.zero_mul, List.drop_zero]; exact HV5.out⟩
      case round =>
        obtain ⟨e, s1, he, rfl, hM, hv, hVe⟩ := hrel
        have HM : Hid _ := hM
        have HV : Hid _ := hv
        have HVE : Hid _ := hVe
        clear hM hv hVe HM5 HV4 HV5
        by_cases hlt : e < C
        · go_wp2_with fail
          go_loopg [21] (P : Nat) (fun k I wr => ∃ (i : Nat) (s' : (Nat → Bool) × Nat), i + k = P ∧ I = .int .i64 (i : Nat) ∧ Mst wr B g s'.1 s'.2 ∧ Mv B g w wr ∧ V = visL (vis (resOf z len) left) s' (ks.drop (e * P + i)))
          case atStart => exact ⟨0, _, by omega, rfl, HM.out, HV.out, HVE.out⟩
          case round =>
            obtain ⟨i, s2, hi, rfl, hM, hv, hVe⟩ := hrel
            have HM2 : Hid _ := hM
            have HV2 : Hid _ := hv
            have HVE2 : Hid _ := hVe
            clear hM hv hVe HM HV HVE
            by_cases hlti : i < P
            · have hkk := HKS.out e i hlt hlti
              have hk2 : (L + 1) + e * (D + P) + D + i < 257 := by omega
              have hm0 : 0 ≤ (e : Int) * (((D : Nat) : Int) + ((P : Nat) : Int)) := Int.mul_nonneg (by omega) (by omega)
              have hm1 : (e : Int) * (((D : Nat) : Int) + ((P : Nat) : Int)) ≤ 257 := by
                have : ((e * (D + P) : Nat) : Int) ≤ 257 := by omega
                simpa using this
              have HKK : Hid _ := hkk
              clear hkk
              go_wp2_with fail
              have hwsz : B ≤ wr.heap.size := Nat.le_trans hBw HV2.out.size
              refine (visit_at IH.out ((L + 1) + e * (D + P) + D + i) _ (by push_cast; try omega) s2 wr HKK.out.2 (Row.below HR.out (HV2.out.below hBg hBw) hb) hwsz HM2.out).mono ?_
              rintro e' w5 ⟨rfl, hv5, hm5⟩
              have hVV := HVE2.out
              rw [HKK.out.1, visL] at hVV
              cases hvs : vis (resOf z len) left s2 ((L + 1) + e * (D + P) + D + i) with
              | none =>
                rw [hvs] at hVV
                have HVn : Hid (V = none) := hVV
                have HV6 : Hid _ := HV2.out.trans hv5
                clear hVV hvs hm5 hv5 HVE2 HV2 HM2
                simp only [Option.isSome_none]
                go_wp2_with fail
                go_ret
                have e := HVn.out
                subst e
                exact ⟨rfl, HV6.out, fun s' h => by cases h⟩
              | some s3 =>
                rw [hvs] at hVV
                have HVn : Hid (V = visL (vis (resOf z len) left) s3 (ks.drop (e * P + i + 1))) := hVV
                have HV6 : Hid _ := HV2.out.trans hv5
                have HM6 : Hid _ := hm5 s3 hvs
                clear hVV hvs hm5 hv5 HVE2 HV2 HM2
                simp only [Option.isSome_some]
                go_wp2_with fail
                go_roundg (P - (i + 1))
                case rel => exact ⟨i + 1, s3, by omega, by simp, HM6.out, HV6.out, HVn.out⟩
                case measure => omega
            · obtain hie : i = P := by omega
              go_wp2_with fail
              go_roundg (C - (e + 1))
              case rel => exact ⟨e + 1, s2, by omega, by simp, HM2.out, HV2.out, by have e1 := HVE2.out; rw [hie] at e1; rw [Nat.add_mul, Nat.one_mul]; exact e1⟩
              case measure => omega
        · obtain he2 : e = C := by omega
          go_wp2_with fail
          go_ret
          have e1 := HVE.out
          rw [he2, HKE.out] at e1
          subst e1
          exact ⟨rfl, HV.out, fun s' h => by cases h; exact HM.out⟩

set_option maxRecDepth 100000 in
set_option maxHeartbeats 2000000 in
theorem visit_zstructs (b off len cap : Nat) (z : Int → Int) (B g left : Nat) (hl2 : len ≤ 256) (hb : b < B) (hBg : B ≤ g) (hleft : left ≤ 7) (IH : Hid (VisitOk b off len cap z B g left))
    (a : Nat) (S : Nat → Bool) (cost : Nat) (w : World) (ha : a < len) (hRow : Row w b off len z) (hBw : B ≤ w.heap.size) (hM : Mst w B g S cost) (V : Option ((Nat → Bool) × Nat))
    (L N : Nat) (hN : N < 1073741824) (hA : L + 1 ≤ len) (hr : rsv z len a = (⟨2, (L : Int) + 1, 0, 0, 7, N⟩, true)) (W : Nat) (HW : Hid (W = 1)) (hW1 : W ≤ 1) (hW2 : 1 ≤ W) (hw : wWords 2 0 0 7 N = (W : Int))
    (ks : List Nat) (HKS : Hid (∀ e i, e < 0 → i < 0 → ks.drop (e * 0 + i) = ((L + 1) + e * (0 + 0) + 0 + i) :: ks.drop (e * 0 + i + 1) ∧ (L + 1) + e * (0 + 0) + 0 + i < len)) (HKE : Hid (ks.drop (0 * 0) = []))
    (hV : Hid (V = if free S L W = true then visL (vis (resOf z len) left) (join S L W, cost + (W + N)) ks else none)) :
    Calls Fahg.prog 110 #[.pointer (some ⟨g, 0, none⟩), .slice (some ⟨b, off, none⟩) len cap, .int .i64 a, .int .i64 ((left + 1 : Nat) : Int)] w fun e w' => e = .returned (.bool V.isSome) ∧ Mv B g w w' ∧ ∀ s', V = some s' → Mst w' B g s'.1 s'.2 := by
  have hwr : IntKind.u16.wrap (a : Int) = a := by rw [IntKind.wrap_u16]; omega
  have hres := fun w' (h : Row w' b off len z) => resolve_in b off len cap a z (by omega) (by omega) hl2 w' h
  rw [hr] at hres
  simp only [WP.val] at hres
  have hwd := fun w => words_any 2 ((L : Int) + 1) 0 0 7 N (by omega) (by omega) (by omega) (by omega) (by omega) (by omega) (by omega) (by omega) (by omega) (by omega) w
  rw [hw] at hwd
  have HWD : Hid _ := hwd
  have HM : Hid _ := hM
  have HR : Hid _ := hRow
  clear hwd hw hr hM
  go_enter Fahg.func110, Fahg.ntmps110
  go_wp2_with fail
  refine (hres w hRow).mono ?_
  rintro e w1 ⟨rfl, hb1⟩
  have HB1 : Hid _ := hb1
  clear hres hRow hb1
  go_wp2_with fail
  refine (HWD.out _).mono ?_
  rintro e w2 ⟨rfl, c, n0, hw2⟩
  have hp2 : w2.heap[w1.heap.size]? = some (.cells #[.int .u8 2, .int .u16 ((L : Int) + 1), .int .u8 0, .int .u8 0, .int .u8 7, .int .u32 N] 78 (0, 0)) := by rw [hw2]; exact (heap_alloc_old _ _ (by simp)).trans (heap_alloc_new _ _)
  have hb2 : Below w.heap.size w w2 := by
    rw [hw2]; exact below_drewN' (below_alloc (below_alloc HB1.out (Nat.le_refl _) _) (by have := HB1.out.size; simp at this ⊢; try omega) _) _
  have hsz : w1.heap.size < w2.heap.size := (Array.getElem?_eq_some_iff.1 hp2).1
  have hgl : g < w.heap.size := HM.out.lt
  have hgl1 : g < w1.heap.size := Nat.lt_of_lt_of_le hgl HB1.out.size
  have HM2 : Hid _ := HM.out.below hb2
  have HV2 : Hid (Mv B g w w2) := .of_below hb2
  have r1 := cell_heap (o := 0) hp2
  have r2 := cell_heap (o := 1) hp2
  have r3 := cell_heap (o := 2) hp2
  have r4 := cell_heap (o := 3) hp2
  have r5 := cell_heap (o := 4) hp2
  have r6 := cell_heap (o := 5) hp2
  simp only [six0, six1, six2, six3, six4, six5] at r1 r2 r3 r4 r5 r6
  have HP2 : Hid _ := hp2
  clear hw2 hb2 HB1 hp2 HM
  go_wp2_with fail
  go_quiet (fail)
  go_wp2_with fail
  have hgat := gather_any B g S cost L W (by omega) (by omega) (by omega) (w2.drewN nq) hBg (HM2.out.below (below_drewN' (Below.refl _ _) _))
  refine hgat.mono ?_
  rintro e w3 ⟨rfl, hv3, hm3⟩
  clear hgat
  have hv3 := (Mv.of_below (below_drewN' (Below.refl _ w2) nq) : Mv B g w2 (w2.drewN nq)).trans hv3
  have hp3 := (hv3.block w1.heap.size hsz (by omega) (.inr (by intro c f; rw [HP2.out]; intro e; injection e with e; injection e with e1 e2; exact absurd e2 (by decide)))).trans HP2.out
  have hsz3 : w1.heap.size < w3.heap.size := Nat.lt_of_lt_of_le hsz hv3.size
  have HV3 : Hid _ := HV2.out.trans hv3
  clear r1 r2 r3 r4 r5 r6 HP2 HV2 HM2 hv3 hsz
  cases hf : free S L W with
  | false =>
    have hVn : V = none := by rw [hV.out, hf]; rfl
    have HVn : Hid _ := hVn
    clear hV hm3 hf hVn
    go_wp2_with fail
    go_ret
    have e := HVn.out
    subst e
    exact ⟨rfl, HV3.out, fun s' h => by cases h⟩
  | true =>
    have hm3' := hm3 hf
    have HF : Hid _ := hf
    obtain ⟨s, cap2, cur, seen, hg, hrest⟩ := hm3'.st
    have gc := cell_heap (o := 1) hg
    have gf := frozen_heap (o := 1) hg
    simp only [two1] at gc
    have HM3 : Hid _ := hm3'
    have r1 := cell_heap (o := 0) hp3
    have r2 := cell_heap (o := 1) hp3
    have r3 := cell_heap (o := 2) hp3
    have r4 := cell_heap (o := 3) hp3
    have r5 := cell_heap (o := 4) hp3
    have r6 := cell_heap (o := 5) hp3
    simp only [six0, six1, six2, six3, six4, six5] at r1 r2 r3 r4 r5 r6
    obtain ⟨cm, hcm⟩ : ∃ cm, cm = cost % 18446744073709551616 := ⟨_, rfl⟩
    rw [← hcm] at gc
    have HCM : Hid _ := hcm
    have HP3 : Hid _ := hp3
    clear hm3 hm3' hf hg hrest hcm hp3
    have hwc : ∀ K : Nat, IntKind.u64.wrap ((cm : Int) + K) = (((cost + K) % 18446744073709551616 : Nat) : Int) := by
      intro K; rw [IntKind.wrap_u64, HCM.out]; omega
    · have hW3 : 0 < W := by omega
      have hwK := hwc (W + N)
      have hM4 := HM3.out.paid (W + N)
      obtain ⟨cn, hcn⟩ : ∃ cn, cn = (cost + (W + N)) % 18446744073709551616 := ⟨_, rfl⟩
      rw [← hcn] at hwK hM4
      have hwK : IntKind.u64.wrap ((cm : Int) + (W + N)) = cn := by simpa using hwK
      have HM4 : Hid _ := hM4
      clear hwc hcn hM4
      skip
      go_wp2_with fail
      go_quiet (fail)
      go_wp2_with fail
      skip
      have HV4 : Hid (Mv B g w ((w3.drewN nq).setCell ⟨g, 1, none⟩ (.int .u64 cn))) := HV3.out.trans (mv_cost _ _ _)
      have HM5 : Hid (Mst ((w3.drewN nq).setCell ⟨g, 1, none⟩ (.int .u64 cn)) B g (join S L W) (cost + (W + N))) := (show Mst (((w3.setCell ⟨g, 1, none⟩ (.int .u64 cn))).drewN nq) B g _ _ from HM4.out.below (below_drewN' (Below.refl _ _) _))
      have HV5 : Hid (V = visL (vis (resOf z len) left) (join S L W, cost + (W + N)) ks) := hV.out.trans (by rw [if_pos HF.out]; first | done | (congr 2; omega))
      clear HM4 HM3 HV3 hV HF r1 r2 r3 r4 r5 r6 gc gf HP3 HCM hwK HWD HW
      generalize ((w3.drewN nq).setCell ⟨g, 1, none⟩ (.int .u64 cn)) = w4 at *
      go_loopg [20] (0 : Nat) (fun k I wr => ∃ (e : Nat) (s' : (Nat → Bool) × Nat), e + k = 0 ∧ I = .int .i64 (e : Nat) ∧ Mst wr B g s'.1 s'.2 ∧ Mv B g w wr ∧ V = visL (vis (resOf z len) left) s' (ks.drop (e * 0)))
      case atStart => exact ⟨0, _, by omega, rfl, HM5.out, HV4.out, by rw [Nat.zero_mul, List.drop_zero]; exact HV5.out⟩
      case round =>
        obtain ⟨e, s1, he, rfl, hM, hv, hVe⟩ := hrel
        have HM : Hid _ := hM
        have HV : Hid _ := hv
        have HVE : Hid _ := hVe
        clear hM hv hVe HM5 HV4 HV5
        by_cases hlt : e < 0
        · exact absurd hlt (by omega)
        · obtain he2 : e = 0 := by omega
          go_wp2_with fail
          go_ret
          have e1 := HVE.out
          rw [he2, HKE.out] at e1
          subst e1
          exact ⟨rfl, HV.out, fun s' h => by cases h; exact HM.out⟩

set_option maxRecDepth 100000 in
set_option maxHeartbeats 2000000 in
theorem visit_void (b off len cap : Nat) (z : Int → Int) (B g left : Nat) (hl2 : len ≤ 256) (hb : b < B) (hBg : B ≤ g) (hleft : left ≤ 7) (IH : Hid (VisitOk b off len cap z B g left))
    (a : Nat) (S : Nat → Bool) (cost : Nat) (w : World) (ha : a < len) (hRow : Row w b off len z) (hBw : B ≤ w.heap.size) (hM : Mst w B g S cost) (V : Option ((Nat → Bool) × Nat))
    (A N : Nat) (hN : N < 536870912) (hA : A ≤ len) (hr : rsv z len a = (⟨2, A, 0, 0, 0, N⟩, true)) (W : Nat) (HW : Hid (W = 0)) (hW1 : W ≤ 0) (hw : wWords 2 0 0 0 N = (W : Int))
    (ks : List Nat) (HKS : Hid (∀ e i, e < 0 → i < 0 → ks.drop (e * 0 + i) = (A + e * (0 + 0) + 0 + i) :: ks.drop (e * 0 + i + 1) ∧ A + e * (0 + 0) + 0 + i < len)) (HKE : Hid (ks.drop (0 * 0) = []))
    (hV : Hid (V = if free S A W = true then visL (vis (resOf z len) left) (join S A W, cost + max N 1) ks else none)) :
    Calls Fahg.prog 110 #[.pointer (some ⟨g, 0, none⟩), .slice (some ⟨b, off, none⟩) len cap, .int .i64 a, .int .i64 ((left + 1 : Nat) : Int)] w fun e w' => e = .returned (.bool V.isSome) ∧ Mv B g w w' ∧ ∀ s', V = some s' → Mst w' B g s'.1 s'.2 := by
  have hwr : IntKind.u16.wrap (a : Int) = a := by rw [IntKind.wrap_u16]; omega
  have hres := fun w' (h : Row w' b off len z) => resolve_in b off len cap a z (by omega) (by omega) hl2 w' h
  rw [hr] at hres
  simp only [WP.val] at hres
  have hwd := fun w => words_any 2 A 0 0 0 N (by omega) (by omega) (by omega) (by omega) (by omega) (by omega) (by omega) (by omega) (by omega) (by omega) w
  rw [hw] at hwd
  have HWD : Hid _ := hwd
  have HM : Hid _ := hM
  have HR : Hid _ := hRow
  clear hwd hw hr hM
  go_enter Fahg.func110, Fahg.ntmps110
  go_wp2_with fail
  refine (hres w hRow).mono ?_
  rintro e w1 ⟨rfl, hb1⟩
  have HB1 : Hid _ := hb1
  clear hres hRow hb1
  go_wp2_with fail
  refine (HWD.out _).mono ?_
  rintro e w2 ⟨rfl, c, n0, hw2⟩
  have hp2 : w2.heap[w1.heap.size]? = some (.cells #[.int .u8 2, .int .u16 A, .int .u8 0, .int .u8 0, .int .u8 0, .int .u32 N] 78 (0, 0)) := by rw [hw2]; exact (heap_alloc_old _ _ (by simp)).trans (heap_alloc_new _ _)
  have hb2 : Below w.heap.size w w2 := by
    rw [hw2]; exact below_drewN' (below_alloc (below_alloc HB1.out (Nat.le_refl _) _) (by have := HB1.out.size; simp at this ⊢; try omega) _) _
  have hsz : w1.heap.size < w2.heap.size := (Array.getElem?_eq_some_iff.1 hp2).1
  have hgl : g < w.heap.size := HM.out.lt
  have hgl1 : g < w1.heap.size := Nat.lt_of_lt_of_le hgl HB1.out.size
  have HM2 : Hid _ := HM.out.below hb2
  have HV2 : Hid (Mv B g w w2) := .of_below hb2
  have r1 := cell_heap (o := 0) hp2
  have r2 := cell_heap (o := 1) hp2
  have r3 := cell_heap (o := 2) hp2
  have r4 := cell_heap (o := 3) hp2
  have r5 := cell_heap (o := 4) hp2
  have r6 := cell_heap (o := 5) hp2
  simp only [six0, six1, six2, six3, six4, six5] at r1 r2 r3 r4 r5 r6
  have HP2 : Hid _ := hp2
  clear hw2 hb2 HB1 hp2 HM
  go_wp2_with fail
  go_quiet (fail)
  go_wp2_with fail
  have hgat := gather_any B g S cost A W (by omega) (by omega) (by omega) (w2.drewN nq) hBg (HM2.out.below (below_drewN' (Below.refl _ _) _))
  refine hgat.mono ?_
  rintro e w3 ⟨rfl, hv3, hm3⟩
  clear hgat
  have hv3 := (Mv.of_below (below_drewN' (Below.refl _ w2) nq) : Mv B g w2 (w2.drewN nq)).trans hv3
  have hp3 := (hv3.block w1.heap.size hsz (by omega) (.inr (by intro c f; rw [HP2.out]; intro e; injection e with e; injection e with e1 e2; exact absurd e2 (by decide)))).trans HP2.out
  have hsz3 : w1.heap.size < w3.heap.size := Nat.lt_of_lt_of_le hsz hv3.size
  have HV3 : Hid _ := HV2.out.trans hv3
  clear r1 r2 r3 r4 r5 r6 HP2 HV2 HM2 hv3 hsz
  cases hf : free S A W with
  | false =>
    have hVn : V = none := by rw [hV.out, hf]; rfl
    have HVn : Hid _ := hVn
    clear hV hm3 hf hVn
    go_wp2_with fail
    go_ret
    have e := HVn.out
    subst e
    exact ⟨rfl, HV3.out, fun s' h => by cases h⟩
  | true =>
    have hm3' := hm3 hf
    have HF : Hid _ := hf
    obtain ⟨s, cap2, cur, seen, hg, hrest⟩ := hm3'.st
    have gc := cell_heap (o := 1) hg
    have gf := frozen_heap (o := 1) hg
    simp only [two1] at gc
    have HM3 : Hid _ := hm3'
    have r1 := cell_heap (o := 0) hp3
    have r2 := cell_heap (o := 1) hp3
    have r3 := cell_heap (o := 2) hp3
    have r4 := cell_heap (o := 3) hp3
    have r5 := cell_heap (o := 4) hp3
    have r6 := cell_heap (o := 5) hp3
    simp only [six0, six1, six2, six3, six4, six5] at r1 r2 r3 r4 r5 r6
    obtain ⟨cm, hcm⟩ : ∃ cm, cm = cost % 18446744073709551616 := ⟨_, rfl⟩
    rw [← hcm] at gc
    have HCM : Hid _ := hcm
    have HP3 : Hid _ := hp3
    clear hm3 hm3' hf hg hrest hcm hp3
    have hwc : ∀ K : Nat, IntKind.u64.wrap ((cm : Int) + K) = (((cost + K) % 18446744073709551616 : Nat) : Int) := by
      intro K; rw [IntKind.wrap_u64, HCM.out]; omega
    by_cases hN0 : N = 0
    ·
      have hwK := hwc 1
      have hM4 := HM3.out.paid 1
      obtain ⟨cn, hcn⟩ : ∃ cn, cn = (cost + 1) % 18446744073709551616 := ⟨_, rfl⟩
      rw [← hcn] at hwK hM4
      have hwK : IntKind.u64.wrap ((cm : Int) + 1) = cn := hwK
      have HM4 : Hid _ := hM4
      clear hwc hcn hM4
      skip
      go_wp2_with fail
      go_quiet (fail)
      go_wp2_with fail
      skip
      have HV4 : Hid (Mv B g w ((w3.drewN nq).setCell ⟨g, 1, none⟩ (.int .u64 cn))) := HV3.out.trans (mv_cost _ _ _)
      have HM5 : Hid (Mst ((w3.drewN nq).setCell ⟨g, 1, none⟩ (.int .u64 cn)) B g (join S A W) (cost + 1)) := (show Mst (((w3.setCell ⟨g, 1, none⟩ (.int .u64 cn))).drewN nq) B g _ _ from HM4.out.below (below_drewN' (Below.refl _ _) _))
      have HV5 : Hid (V = visL (vis (resOf z len) left) (join S A W, cost + 1) ks) := hV.out.trans (by rw [if_pos HF.out]; first | done | (congr 2; omega))
      clear HM4 HM3 HV3 hV HF r1 r2 r3 r4 r5 r6 gc gf HP3 HCM hwK HWD HW
      generalize ((w3.drewN nq).setCell ⟨g, 1, none⟩ (.int .u64 cn)) = w4 at *
      go_loopg [20] (0 : Nat) (fun k I wr => ∃ (e : Nat) (s' : (Nat → Bool) × Nat), e + k = 0 ∧ I = .int .i64 (e : Nat) ∧ Mst wr B g s'.1 s'.2 ∧ Mv B g w wr ∧ V = visL (vis (resOf z len) left) s' (ks.drop (e * 0)))
      case atStart => exact ⟨0, _, by omega, rfl, HM5.out, HV4.out, by rw [Nat.zero_mul, List.drop_zero]; exact HV5.out⟩
      case round =>
        obtain ⟨e, s1, he, rfl, hM, hv, hVe⟩ := hrel
        have HM : Hid _ := hM
        have HV : Hid _ := hv
        have HVE : Hid _ := hVe
        clear hM hv hVe HM5 HV4 HV5
        by_cases hlt : e < 0
        · exact absurd hlt (by omega)
        · obtain he2 : e = 0 := by omega
          go_wp2_with fail
          go_ret
          have e1 := HVE.out
          rw [he2, HKE.out] at e1
          subst e1
          exact ⟨rfl, HV.out, fun s' h => by cases h; exact HM.out⟩
    · have hN3 : 0 < N := by omega
      have hwK := hwc (W + N)
      have hM4 := HM3.out.paid (W + N)
      obtain ⟨cn, hcn⟩ : ∃ cn, cn = (cost + (W + N)) % 18446744073709551616 := ⟨_, rfl⟩
      rw [← hcn] at hwK hM4
      have hwK : IntKind.u64.wrap ((cm : Int) + (W + N)) = cn := by simpa using hwK
      have HM4 : Hid _ := hM4
      clear hwc hcn hM4
      skip
      go_wp2_with fail
      go_quiet (fail)
      go_wp2_with fail
      skip
      have HV4 : Hid (Mv B g w ((w3.drewN nq).setCell ⟨g, 1, none⟩ (.int .u64 cn))) := HV3.out.trans (mv_cost _ _ _)
      have HM5 : Hid (Mst ((w3.drewN nq).setCell ⟨g, 1, none⟩ (.int .u64 cn)) B g (join S A W) (cost + (W + N))) := (show Mst (((w3.setCell ⟨g, 1, none⟩ (.int .u64 cn))).drewN nq) B g _ _ from HM4.out.below (below_drewN' (Below.refl _ _) _))
      have HV5 : Hid (V = visL (vis (resOf z len) left) (join S A W, cost + (W + N)) ks) := hV.out.trans (by rw [if_pos HF.out]; first | done | (congr 2; omega))
      clear HM4 HM3 HV3 hV HF r1 r2 r3 r4 r5 r6 gc gf HP3 HCM hwK HWD HW
      generalize ((w3.drewN nq).setCell ⟨g, 1, none⟩ (.int .u64 cn)) = w4 at *
      go_loopg [20] (0 : Nat) (fun k I wr => ∃ (e : Nat) (s' : (Nat → Bool) × Nat), e + k = 0 ∧ I = .int .i64 (e : Nat) ∧ Mst wr B g s'.1 s'.2 ∧ Mv B g w wr ∧ V = visL (vis (resOf z len) left) s' (ks.drop (e * 0)))
      case atStart => exact ⟨0, _, by omega, rfl, HM5.out, HV4.out, by rw [Nat.zero_mul, List.drop_zero]; exact HV5.out⟩
      case round =>
        obtain ⟨e, s1, he, rfl, hM, hv, hVe⟩ := hrel
        have HM : Hid _ := hM
        have HV : Hid _ := hv
        have HVE : Hid _ := hVe
        clear hM hv hVe HM5 HV4 HV5
        by_cases hlt : e < 0
        · exact absurd hlt (by omega)
        · obtain he2 : e = 0 := by omega
          go_wp2_with fail
          go_ret
          have e1 := HVE.out
          rw [he2, HKE.out] at e1
          subst e1
          exact ⟨rfl, HV.out, fun s' h => by cases h; exact HM.out⟩
end Go.Proofs.Ygcfah
