/- tree.Tree.bounded. -/
import Derived.Test.YgcfahTarr
namespace Go.Proofs.Ygcfah
open Go.RowKit
set_option linter.unusedVariables false
set_option linter.unusedSimpArgs false
set_option maxRecDepth 100000 in
set_option maxHeartbeats 1000000 in
theorem bounded_any (tb b off n cap root : Nat) (nd : Nat → NodeC) (w : World) (ht : w.cell? ⟨tb, 0, none⟩ = some (.slice (some ⟨b, off, none⟩) n cap)) (ht2 : w.cell? ⟨tb, 1, none⟩ = some (.int .i16 (root : Nat))) (hr : NCells w b off n nd) (hro : root < n) (hn : n ≤ 512) (hT : Tok n nd) (hL : Links n root nd) :
    Calls Fahg.prog 78 #[.pointer (some ⟨tb, 0, none⟩)] w fun e w' => e = .returned (.bool (decide (1 + pwr nd root 1 false ≤ 256))) ∧ Below w.heap.size w w' := by
  have HR : Hid (NCells w b off n nd) := hr
  have hB := pw_root_le hL hT hro
  have HT : Hid (Tok n nd) := hT
  have HL : Hid (Links n root nd) := hL
  have HS : Hid (pS nd (dep0 root) (fun _ => false) root (n - root) = pwr nd root 1 false) := pS_root hro
  have HW : Hid (Wait n root nd (dep0 root) root 0) := wait_root root
  clear hr hT hL
  have htb : tb < w.heap.size := World.block_lt_of_cell? w _ ht
  have hz1 := zc246 root (by omega)
  have HPOST : Hid (∀ ws wc : Nat, (wc = ws ∨ (257 ≤ wc ∧ 257 ≤ ws)) → wc = 1 + pwr nd root 1 false → decide (((ws : Nat) : Int) ≤ 256) = decide (1 + pwr nd root 1 false ≤ 256)) := by
    intro ws wc h1 h2
    rw [decide_eq_decide]
    omega
  have hrz : -32768 ≤ (root : Int) := by omega
  go_enter Fahg.func78, Fahg.ntmps78
  go_wp2_with fail
  go_loopg [5, 6] (n - root) (fun k W I wr => ∃ (i ws wc : Nat) (dep : Nat → Nat) (elm : Nat → Bool), i + k = n ∧ W = .int .i64 (ws : Nat) ∧ I = .int .i64 (i : Nat) ∧ Hid (Arr wr w.heap.size 512 (fun x => .int .u8 (dep x : Nat))) ∧ Hid (Arr wr (w.heap.size + 1) 512 (fun x => .bool (elm x))) ∧ Hid (Below w.heap.size w wr) ∧ Hid (wc + pS nd dep elm i (n - i) = 1 + pwr nd root 1 false) ∧ Hid (wc = ws ∨ (257 ≤ wc ∧ 257 ≤ ws)) ∧ ws ≤ 1 + 2049 * i ∧ Hid (Wait n root nd dep i 0) ∧ Hid (∀ x, dep x ≤ 8))
  case atStart =>
    refine ⟨root, 1, 1, dep0 root, fun _ => false, by omega, rfl, by simp, ?_, ?_, ?_, ?_, .inl rfl, by omega, HW.out, ?_⟩
    · refine (arr_new w _ 246 512 _ fun k hk => ?_).alloc _
      rw [Array.getElem?_setIfInBounds]
      by_cases hkr : root = k
      · subst hkr
        have hsz : root < Fahg.zeroCells246.size := (Array.getElem?_eq_some_iff.1 hz1).1
        simp [hsz, dep0, putF]
        exact hk
      · rw [if_neg hkr, zc246 k hk]
        simp [dep0, putF, show k ≠ root from fun h => hkr h.symm]
    · have := arr_new (w.alloc (.cells (Fahg.zeroCells246.setIfInBounds root (.int .u8 1)) 246)) Fahg.zeroCells247 247 512 (fun _ => .bool false) zc247
      rw [World.size_alloc] at this
      exact this
    · exact below_alloc (below_alloc (Below.refl _ _) (Nat.le_refl _) _) (Nat.le_refl _) _
    · show 1 + _ = 1 + _
      rw [HS.out]
    · intro x
      unfold dep0 putF
      split
      · omega
      · exact Nat.zero_le _
  obtain ⟨i, ws, wc, dep, elm, hik, rfl, rfl, HAD, HAE, HB, HSUM, HWC, hws, HWT, HD8⟩ := hrel
  have t1 := Below.kept HB.out ht
  have t2 := Below.kept HB.out ht2
  by_cases hlt : i < n
  case neg =>
    have hin : i = n := by omega
    subst hin
    have HE := HPOST.out ws wc HWC.out (by have := HSUM.out; rw [Nat.sub_self] at this; exact this)
    have HEE : Hid _ := HE
    clear HE
    go_wp2_with fail
    go_ret
    exact ⟨ret_bool HEE.out, HB.out⟩
  have a1 := HAD.out.c i (by omega)
  have a2 := HAE.out.c i (by omega)
  obtain ⟨q0, q1, q2, q3, q4⟩ := NCells.below HR.out HB.out i hlt
  have hns : n - i = (n - i - 1) + 1 := by omega
  have HNS : Hid _ := hns
  clear hns
  by_cases hd0 : dep i = 0
  · rw [hd0] at a1
    have HN : Hid (wc + pS nd dep elm (i + 1) (n - (i + 1)) = 1 + pwr nd root 1 false) := by
      have := HSUM.out
      rw [HNS.out, pS, if_pos hd0, Nat.zero_add] at this
      exact this
    clear hd0 q0
    go_wp2_with fail
    go_roundg (gk - 1)
    case rel => exact ⟨i + 1, ws, wc, dep, elm, by omega, rfl, by simp, HAD, HAE, HB, HN, HWC, by omega, HWT.out.pass, HD8⟩
    case measure => omega
  have hd8 := HD8.out i
  have hd1 : 1 ≤ dep i := by omega
  have HOUT : Hid (wc + ((if elm i = true then 0 else ownW nd i) + ksm (fun k => pwr nd k (if inl (nd i) then dep i else dep i + 1) (inl (nd i))) (nd i).kz (nd i).kL + pS nd dep elm (i + 1) (n - (i + 1))) = 1 + pwr nd root 1 false) := by
    have := HSUM.out
    rw [HNS.out, pS, if_neg hd0, pw_step HT.out hlt hd1 hd8] at this
    exact this
  have hkl := (HT.out.kl hlt).1
  have hwl := wds_le HT.out hlt
  have HKI : Hid (IRow w .i16 (nd i).kA (nd i).kL (nd i).kz) := (HR.out i hlt).1.i
  have hdne : ((dep i : Int) == 0) = false := by simp; omega
  have HWDS : Hid (∀ wd, wd = wds nd i → ownW nd i = min wd 257) := by rintro wd rfl; rfl
  clear HSUM HNS hd0 q0
  cases hel : elm i
  case' false =>
    rw [hel] at a2 HOUT
    have HTW := twords_any tb b off n cap nd i wr t1 (NCells.below HR.out HB.out) hlt hn HT.out
    generalize wds nd i = wd at *
    have HTW2 : Hid _ := HTW
    clear HTW
    go_wp2_with fail
    refine Calls.mono HTW2.out ?_
    rintro e w1 ⟨rfl, hb1⟩
    have a1' := Below.kept hb1 a1
    have t1' := Below.kept hb1 t1
    have q1' := Below.kept hb1 q1
    have q2' := Below.kept hb1 q2
    have q4' := Below.kept hb1 q4
    have HAD' : Hid (Arr w1 w.heap.size 512 (fun x => .int .u8 (dep x : Nat))) := HAD.out.below hb1
    have HAE' : Hid (Arr w1 (w.heap.size + 1) 512 (fun x => .bool (elm x))) := HAE.out.below hb1
    have HB' : Hid (Below w.heap.size w w1) := HB.out.trans (hb1.mono HB.out.size)
    clear hb1 a1 t1 t2 q1 q2 q3 q4 HAD HAE HB a2 HTW2
    have ho := HWDS.out wd rfl
    obtain ⟨ws1, hws1⟩ : ∃ ws1, ws1 = ws + wd := ⟨_, rfl⟩
    have HC1 : Hid (wc + ownW nd i = ws1 ∨ (257 ≤ wc + ownW nd i ∧ 257 ≤ ws1)) := by
      have := HWC.out
      show wc + ownW nd i = ws1 ∨ (257 ≤ wc + ownW nd i ∧ 257 ≤ ws1)
      omega
    have hws' : ws1 ≤ 1 + 2049 * (i + 1) := by omega
    simp only [Bool.false_eq_true, if_false] at HOUT
    have HS1 : Hid ((wc + ownW nd i) + pS nd dep elm (i + 1) (n - (i + 1)) + ksm (fun k => pwr nd k (if inl (nd i) then dep i else dep i + 1) (inl (nd i))) (nd i).kz (nd i).kL = 1 + pwr nd root 1 false) := by
      have := HOUT.out
      show _ + _ + _ = _
      omega
    generalize wc + ownW nd i = wc1 at *
    have hsum : (ws : Int) + (wd : Int) = (ws1 : Nat) := by omega
    have HXW : Hid _ := hws1
    clear hws1 HWC HOUT ho HWDS
  case' true =>
    rw [hel] at a2 HOUT
    have a1' := a1
    have t1' := t1
    have q1' := q1
    have q2' := q2
    have q4' := q4
    have HAD' := HAD
    have HAE' := HAE
    have HB' := HB
    obtain ⟨w1, hw1⟩ : ∃ w1, w1 = wr := ⟨_, rfl⟩
    subst hw1
    clear a1 t1 t2 q1 q2 q3 q4 HAD HAE HB
    obtain ⟨ws1, hws1⟩ : ∃ ws1, ws1 = ws := ⟨_, rfl⟩
    have hws' : ws1 ≤ 1 + 2049 * (i + 1) := by omega
    simp only [if_true] at HOUT
    have HS1 : Hid (wc + pS nd dep elm (i + 1) (n - (i + 1)) + ksm (fun k => pwr nd k (if inl (nd i) then dep i else dep i + 1) (inl (nd i))) (nd i).kz (nd i).kL = 1 + pwr nd root 1 false) := by
      have := HOUT.out
      show _ + _ + _ = _
      omega
    have HC1 := HWC
    subst hws1
    obtain ⟨wc1, hwc1⟩ : ∃ wc1, wc1 = wc := ⟨_, rfl⟩
    subst hwc1
    clear HWC HOUT HWDS
  all_goals
    clear hel hws
    have hcase : (inl (nd i) = true ∧ ((nd i).kind == 2) = true ∧ ((nd i).code == 7) = true) ∨ (inl (nd i) = false ∧ ((nd i).kind == 2) = true ∧ ((nd i).code == 7) = false) ∨ (inl (nd i) = false ∧ ((nd i).kind == 2) = false) := by
      unfold inl
      cases ((nd i).kind == 2) <;> cases ((nd i).code == 7) <;> simp
    rcases hcase with ⟨hin, k2, c7⟩ | ⟨hin, k2, c7⟩ | ⟨hin, k2⟩
    · rw [hin] at HS1
      simp only [if_true] at HS1
      clear hin
      generalize hdd : dep i = d at *
      obtain ⟨dep1, hdep1⟩ : ∃ dep1, dep1 = dep := ⟨_, rfl⟩
      have HDD : Hid (dep i = d) := hdd
      clear hdd
      generalize (nd i).kA = kA at *
      go_wp2_with fail
      go_loopg [74] (nd i).kL (fun k J wx => ∃ (j : Nat) (dep' : Nat → Nat) (elm' : Nat → Bool), j + k = (nd i).kL ∧ J = .int .i64 (j : Nat) ∧ Hid (Arr wx w.heap.size 512 (fun x => .int .u8 (dep' x : Nat))) ∧ Hid (Arr wx (w.heap.size + 1) 512 (fun x => .bool (elm' x))) ∧ Hid (Below w.heap.size w wx) ∧ Hid (wc1 + pS nd dep' elm' (i + 1) (n - (i + 1)) + ksm (fun k => pwr nd k (d) true) (nd i).kz (nd i).kL = 1 + pwr nd root 1 false + ksm (fun k => pwr nd k (d) true) (nd i).kz j) ∧ Hid (Wait n root nd dep' i j) ∧ Hid (∀ x, dep' x ≤ 8))
      case atStart => exact ⟨0, dep, elm, by omega, rfl, HAD', HAE', HB', HS1, HWT, HD8⟩
      obtain ⟨j, dep', elm', hjk, rfl, HDX, HEX, HBX, HSX, HWX, H8X⟩ := hrel
      by_cases hjl : j < (nd i).kL
      case neg =>
        have hje : j = (nd i).kL := by omega
        subst hje
        have HN : Hid (wc1 + pS nd dep' elm' (i + 1) (n - (i + 1)) = 1 + pwr nd root 1 false) := by
          have := HSX.out
          show _ + _ = _
          omega
        go_wp2_with fail
        go_roundg (n - (i + 1))
        case rel => exact ⟨i + 1, ws1, wc1, dep', elm', by omega, by simp, by simp, HDX, HEX, HBX, HN, HC1, hws', HWX.out.next, H8X⟩
        case measure => omega
      rcases HKI.out with h0 | ⟨b2, off2, e2, hc2⟩
      · omega
      subst e2
      have c9 := Below.kept HBX.out (hc2 j hjl).1
      clear hc2
      by_cases hm : (nd i).kz j = -1
      · rw [hm] at c9
        have HKS : Hid (ksm (fun k => pwr nd k (d) true) (nd i).kz (j + 1) = ksm (fun k => pwr nd k (d) true) (nd i).kz j) := by
          show ksm _ _ (j + 1) = _
          rw [ksm, if_pos hm]
          omega
        clear hm
        go_wp2_with fail
        go_roundg (gk - 1)
        case rel => exact ⟨j + 1, dep', elm', by omega, by simp, HDX, HEX, HBX, by rw [HKS.out]; exact HSX.out, HWX.out.skip, H8X⟩
        case measure => omega
      · have hkid := HT.out.kid hlt hjl hm
        have HFR : Hid _ := HWX.out.free HL.out HT.out hlt hjl hm
        have HWP : Hid (∀ v, Wait n root nd (putF dep' ((nd i).kz j).toNat v) i (j + 1)) := fun v => HWX.out.put HT.out hlt hjl hm
        obtain ⟨z, hz⟩ : ∃ z : Nat, z = ((nd i).kz j).toNat := ⟨_, rfl⟩
        rw [← hz] at hkid HFR HWP
        have hzz : (nd i).kz j = z := by omega
        have HKS : Hid (ksm (fun k => pwr nd k (d) true) (nd i).kz (j + 1) = ksm (fun k => pwr nd k (d) true) (nd i).kz j + pwr nd z (d) true) := by
          show ksm _ _ (j + 1) = _
          rw [ksm, if_neg hm, ← hz]
        rw [hzz] at c9
        have hz1 : ((z : Int) == -1) = false := by simp
        have hz2 : z < n := hkid.2.1
        have hz3 : i < z := hkid.1
        have aD := HDX.out.c z (by omega)
        have fD := HDX.out.z z (by omega)
        have aE := HEX.out.c z (by omega)
        have fE := HEX.out.z z (by omega)
        clear hm hzz hz hkid
        by_cases hdeep : d ≤ 8
        · have d9 : decide ((8 : Int) < (d : Nat)) = false := by simp; omega
          go_wp2_with fail
          go_roundg (gk - 1)
          case rel =>
            refine ⟨j + 1, putF dep' z (d), putF elm' z true, by omega, by simp, ?_, ?_, ?_, ?_, HWP.out _, ?_⟩
            · refine ((HDX.out.far (by simp) _).set (show z < 512 by omega) _).congr fun k hk => ?_
              unfold putF
              split <;> simp
            · refine ((HEX.out.set (show z < 512 by omega) _).far (by simp) _).congr fun k hk => ?_
              unfold putF
              split <;> simp
            · exact (HBX.out.setCell (Nat.le_succ _) _).setCell (Nat.le_refl _) _
            · show _ + _ + _ = _ + _
              rw [pS_put (by omega) HFR.out _ _ (by omega) (by omega), HKS.out]
              have := HSX.out
              omega
            · intro x
              unfold putF
              split
              · omega
              · exact H8X.out x
          case measure => omega
        · have d9 : decide ((8 : Int) < (d : Nat)) = true := by simp; omega
          have HBAD : Hid (decide (1 + pwr nd root 1 false ≤ 256) = false) := by
            have h1 := ksm_mono (fun k => pwr nd k (d) true) (nd i).kz (show j + 1 ≤ (nd i).kL from hjl)
            have h2 := pw_deep nd z (d) true (by omega)
            have h3 := HKS.out
            have h4 := HSX.out
            show decide _ = false
            rw [decide_eq_false_iff_not]
            omega
          go_wp2_with fail
          go_ret
          exact ⟨ret_bool HBAD.out.symm, HBX.out⟩
    · rw [hin] at HS1
      simp only [Bool.false_eq_true, if_false] at HS1
      clear hin
      generalize hdd : dep i = d at *
      obtain ⟨dep1, hdep1⟩ : ∃ dep1, dep1 = dep := ⟨_, rfl⟩
      have HDD : Hid (dep i = d) := hdd
      clear hdd
      generalize (nd i).kA = kA at *
      go_wp2_with fail
      go_loopg [74] (nd i).kL (fun k J wx => ∃ (j : Nat) (dep' : Nat → Nat) (elm' : Nat → Bool), j + k = (nd i).kL ∧ J = .int .i64 (j : Nat) ∧ Hid (Arr wx w.heap.size 512 (fun x => .int .u8 (dep' x : Nat))) ∧ Hid (Arr wx (w.heap.size + 1) 512 (fun x => .bool (elm' x))) ∧ Hid (Below w.heap.size w wx) ∧ Hid (wc1 + pS nd dep' elm' (i + 1) (n - (i + 1)) + ksm (fun k => pwr nd k (d + 1) false) (nd i).kz (nd i).kL = 1 + pwr nd root 1 false + ksm (fun k => pwr nd k (d + 1) false) (nd i).kz j) ∧ Hid (Wait n root nd dep' i j) ∧ Hid (∀ x, dep' x ≤ 8))
      case atStart => exact ⟨0, dep, elm, by omega, rfl, HAD', HAE', HB', HS1, HWT, HD8⟩
      obtain ⟨j, dep', elm', hjk, rfl, HDX, HEX, HBX, HSX, HWX, H8X⟩ := hrel
      by_cases hjl : j < (nd i).kL
      case neg =>
        have hje : j = (nd i).kL := by omega
        subst hje
        have HN : Hid (wc1 + pS nd dep' elm' (i + 1) (n - (i + 1)) = 1 + pwr nd root 1 false) := by
          have := HSX.out
          show _ + _ = _
          omega
        go_wp2_with fail
        go_roundg (n - (i + 1))
        case rel => exact ⟨i + 1, ws1, wc1, dep', elm', by omega, by simp, by simp, HDX, HEX, HBX, HN, HC1, hws', HWX.out.next, H8X⟩
        case measure => omega
      rcases HKI.out with h0 | ⟨b2, off2, e2, hc2⟩
      · omega
      subst e2
      have c9 := Below.kept HBX.out (hc2 j hjl).1
      clear hc2
      by_cases hm : (nd i).kz j = -1
      · rw [hm] at c9
        have HKS : Hid (ksm (fun k => pwr nd k (d + 1) false) (nd i).kz (j + 1) = ksm (fun k => pwr nd k (d + 1) false) (nd i).kz j) := by
          show ksm _ _ (j + 1) = _
          rw [ksm, if_pos hm]
          omega
        clear hm
        go_wp2_with fail
        go_roundg (gk - 1)
        case rel => exact ⟨j + 1, dep', elm', by omega, by simp, HDX, HEX, HBX, by rw [HKS.out]; exact HSX.out, HWX.out.skip, H8X⟩
        case measure => omega
      · have hkid := HT.out.kid hlt hjl hm
        have HFR : Hid _ := HWX.out.free HL.out HT.out hlt hjl hm
        have HWP : Hid (∀ v, Wait n root nd (putF dep' ((nd i).kz j).toNat v) i (j + 1)) := fun v => HWX.out.put HT.out hlt hjl hm
        obtain ⟨z, hz⟩ : ∃ z : Nat, z = ((nd i).kz j).toNat := ⟨_, rfl⟩
        rw [← hz] at hkid HFR HWP
        have hzz : (nd i).kz j = z := by omega
        have HKS : Hid (ksm (fun k => pwr nd k (d + 1) false) (nd i).kz (j + 1) = ksm (fun k => pwr nd k (d + 1) false) (nd i).kz j + pwr nd z (d + 1) false) := by
          show ksm _ _ (j + 1) = _
          rw [ksm, if_neg hm, ← hz]
        rw [hzz] at c9
        have hz1 : ((z : Int) == -1) = false := by simp
        have hz2 : z < n := hkid.2.1
        have hz3 : i < z := hkid.1
        have aD := HDX.out.c z (by omega)
        have fD := HDX.out.z z (by omega)
        have aE := HEX.out.c z (by omega)
        have fE := HEX.out.z z (by omega)
        clear hm hzz hz hkid
        by_cases hdeep : d + 1 ≤ 8
        · have d9 : decide ((8 : Int) < ((d : Nat) : Int) + 1) = false := by simp; omega
          go_wp2_with fail
          go_roundg (gk - 1)
          case rel =>
            refine ⟨j + 1, putF dep' z (d + 1), putF elm' z false, by omega, by simp, ?_, ?_, ?_, ?_, HWP.out _, ?_⟩
            · refine ((HDX.out.far (by simp) _).set (show z < 512 by omega) _).congr fun k hk => ?_
              unfold putF
              split <;> simp
            · refine ((HEX.out.set (show z < 512 by omega) _).far (by simp) _).congr fun k hk => ?_
              unfold putF
              split <;> simp
            · exact (HBX.out.setCell (Nat.le_succ _) _).setCell (Nat.le_refl _) _
            · show _ + _ + _ = _ + _
              rw [pS_put (by omega) HFR.out _ _ (by omega) (by omega), HKS.out]
              have := HSX.out
              omega
            · intro x
              unfold putF
              split
              · omega
              · exact H8X.out x
          case measure => omega
        · have d9 : decide ((8 : Int) < ((d : Nat) : Int) + 1) = true := by simp; omega
          have HBAD : Hid (decide (1 + pwr nd root 1 false ≤ 256) = false) := by
            have h1 := ksm_mono (fun k => pwr nd k (d + 1) false) (nd i).kz (show j + 1 ≤ (nd i).kL from hjl)
            have h2 := pw_deep nd z (d + 1) false (by omega)
            have h3 := HKS.out
            have h4 := HSX.out
            show decide _ = false
            rw [decide_eq_false_iff_not]
            omega
          go_wp2_with fail
          go_ret
          exact ⟨ret_bool HBAD.out.symm, HBX.out⟩
    · rw [hin] at HS1
      simp only [Bool.false_eq_true, if_false] at HS1
      clear hin
      generalize hdd : dep i = d at *
      obtain ⟨dep1, hdep1⟩ : ∃ dep1, dep1 = dep := ⟨_, rfl⟩
      have HDD : Hid (dep i = d) := hdd
      clear hdd
      generalize (nd i).kA = kA at *
      go_wp2_with fail
      go_loopg [74] (nd i).kL (fun k J wx => ∃ (j : Nat) (dep' : Nat → Nat) (elm' : Nat → Bool), j + k = (nd i).kL ∧ J = .int .i64 (j : Nat) ∧ Hid (Arr wx w.heap.size 512 (fun x => .int .u8 (dep' x : Nat))) ∧ Hid (Arr wx (w.heap.size + 1) 512 (fun x => .bool (elm' x))) ∧ Hid (Below w.heap.size w wx) ∧ Hid (wc1 + pS nd dep' elm' (i + 1) (n - (i + 1)) + ksm (fun k => pwr nd k (d + 1) false) (nd i).kz (nd i).kL = 1 + pwr nd root 1 false + ksm (fun k => pwr nd k (d + 1) false) (nd i).kz j) ∧ Hid (Wait n root nd dep' i j) ∧ Hid (∀ x, dep' x ≤ 8))
      case atStart => exact ⟨0, dep, elm, by omega, rfl, HAD', HAE', HB', HS1, HWT, HD8⟩
      obtain ⟨j, dep', elm', hjk, rfl, HDX, HEX, HBX, HSX, HWX, H8X⟩ := hrel
      by_cases hjl : j < (nd i).kL
      case neg =>
        have hje : j = (nd i).kL := by omega
        subst hje
        have HN : Hid (wc1 + pS nd dep' elm' (i + 1) (n - (i + 1)) = 1 + pwr nd root 1 false) := by
          have := HSX.out
          show _ + _ = _
          omega
        go_wp2_with fail
        go_roundg (n - (i + 1))
        case rel => exact ⟨i + 1, ws1, wc1, dep', elm', by omega, by simp, by simp, HDX, HEX, HBX, HN, HC1, hws', HWX.out.next, H8X⟩
        case measure => omega
      rcases HKI.out with h0 | ⟨b2, off2, e2, hc2⟩
      · omega
      subst e2
      have c9 := Below.kept HBX.out (hc2 j hjl).1
      clear hc2
      by_cases hm : (nd i).kz j = -1
      · rw [hm] at c9
        have HKS : Hid (ksm (fun k => pwr nd k (d + 1) false) (nd i).kz (j + 1) = ksm (fun k => pwr nd k (d + 1) false) (nd i).kz j) := by
          show ksm _ _ (j + 1) = _
          rw [ksm, if_pos hm]
          omega
        clear hm
        go_wp2_with fail
        go_roundg (gk - 1)
        case rel => exact ⟨j + 1, dep', elm', by omega, by simp, HDX, HEX, HBX, by rw [HKS.out]; exact HSX.out, HWX.out.skip, H8X⟩
        case measure => omega
      · have hkid := HT.out.kid hlt hjl hm
        have HFR : Hid _ := HWX.out.free HL.out HT.out hlt hjl hm
        have HWP : Hid (∀ v, Wait n root nd (putF dep' ((nd i).kz j).toNat v) i (j + 1)) := fun v => HWX.out.put HT.out hlt hjl hm
        obtain ⟨z, hz⟩ : ∃ z : Nat, z = ((nd i).kz j).toNat := ⟨_, rfl⟩
        rw [← hz] at hkid HFR HWP
        have hzz : (nd i).kz j = z := by omega
        have HKS : Hid (ksm (fun k => pwr nd k (d + 1) false) (nd i).kz (j + 1) = ksm (fun k => pwr nd k (d + 1) false) (nd i).kz j + pwr nd z (d + 1) false) := by
          show ksm _ _ (j + 1) = _
          rw [ksm, if_neg hm, ← hz]
        rw [hzz] at c9
        have hz1 : ((z : Int) == -1) = false := by simp
        have hz2 : z < n := hkid.2.1
        have hz3 : i < z := hkid.1
        have aD := HDX.out.c z (by omega)
        have fD := HDX.out.z z (by omega)
        have aE := HEX.out.c z (by omega)
        have fE := HEX.out.z z (by omega)
        clear hm hzz hz hkid
        by_cases hdeep : d + 1 ≤ 8
        · have d9 : decide ((8 : Int) < ((d : Nat) : Int) + 1) = false := by simp; omega
          go_wp2_with fail
          go_roundg (gk - 1)
          case rel =>
            refine ⟨j + 1, putF dep' z (d + 1), putF elm' z false, by omega, by simp, ?_, ?_, ?_, ?_, HWP.out _, ?_⟩
            · refine ((HDX.out.far (by simp) _).set (show z < 512 by omega) _).congr fun k hk => ?_
              unfold putF
              split <;> simp
            · refine ((HEX.out.set (show z < 512 by omega) _).far (by simp) _).congr fun k hk => ?_
              unfold putF
              split <;> simp
            · exact (HBX.out.setCell (Nat.le_succ _) _).setCell (Nat.le_refl _) _
            · show _ + _ + _ = _ + _
              rw [pS_put (by omega) HFR.out _ _ (by omega) (by omega), HKS.out]
              have := HSX.out
              omega
            · intro x
              unfold putF
              split
              · omega
              · exact H8X.out x
          case measure => omega
        · have d9 : decide ((8 : Int) < ((d : Nat) : Int) + 1) = true := by simp; omega
          have HBAD : Hid (decide (1 + pwr nd root 1 false ≤ 256) = false) := by
            have h1 := ksm_mono (fun k => pwr nd k (d + 1) false) (nd i).kz (show j + 1 ≤ (nd i).kL from hjl)
            have h2 := pw_deep nd z (d + 1) false (by omega)
            have h3 := HKS.out
            have h4 := HSX.out
            show decide _ = false
            rw [decide_eq_false_iff_not]
            omega
          go_wp2_with fail
          go_ret
          exact ⟨ret_bool HBAD.out.symm, HBX.out⟩
end Go.Proofs.Ygcfah
