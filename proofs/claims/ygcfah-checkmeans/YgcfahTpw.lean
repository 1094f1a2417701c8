/- law.plainWalk. -/
import Derived.Test.YgcfahTpr
import Derived.BigRegion
import Derived.Deep.DeepCutAuto
namespace Go.Proofs.Ygcfah
open Go.RowKit
set_option linter.unusedVariables false
set_option linter.unusedSimpArgs false
theorem pw_succ (nd : Nat → NodeC) (l i d : Nat) (e : Bool) (h : d ≤ 8) : pw nd (l + 1) i d e = (if e then 0 else ownW nd i) + ksm (fun k => pw nd l k (if inl (nd i) then d else d + 1) (inl (nd i))) (nd i).kz (nd i).kL := by
  rw [pw, if_neg (by omega)]
theorem NCells.below' {w w' : World} {b off n : Nat} {nd : Nat → NodeC} (h : NCells w b off n nd) (hb : Below w.heap.size w w') (i : Nat) (hi : i < n) : NodeOk w' (nd i) := ((h i hi).1).below hb
theorem ownW_le (nd : Nat → NodeC) (i : Nat) : ownW nd i ≤ 257 := by unfold ownW; omega
theorem start_own (ow : Nat) (f : Nat → Nat) (kz : Nat → Int) (h : ow ≤ 257) : ((ow : Nat) : Int) = wrap64 ((ow + ksm f kz 0 : Nat) : Int) := by rw [ksm]; unfold wrap64; omega
theorem wrap64_sum (a c p : Nat) : wrap64 (wrap64 ((a + c : Nat) : Int) + wrap64 (p : Nat)) = wrap64 ((a + (c + p) : Nat) : Int) := by unfold wrap64; omega
set_option maxRecDepth 100000 in
set_option maxHeartbeats 16000000 in
theorem pwalk_any (tb b off n cap : Nat) (nd : Nat → NodeC) (hn : n ≤ 512) (hT : Tok n nd) (l : Nat) (hl20 : l ≤ 20) : ∀ (i d : Nat) (el : Bool) (w : World), w.cell? ⟨tb, 0, none⟩ = some (.slice (some ⟨b, off, none⟩) n cap) → NCells w b off n nd → i < n → d ≤ 9 →
    Calls Fahg.prog 81 #[.pointer (some ⟨tb, 0, none⟩), .int .i16 (i : Nat), .int .i64 (d : Nat), .int .i64 (l : Nat), .bool el] w fun e w' => PwRes (pw nd l i d el) e ∧ Below w.heap.size w w' := by
  induction l with
  | zero =>
    intro i d el w ht hr hi hd
    have H : Hid (1000 ≤ pw nd 0 i d el) := by show 1000 ≤ pw nd 0 i d el; rw [pw]; omega
    generalize pw nd 0 i d el = p at *
    by_cases h8 : 8 < d
    · have d1 : decide ((8 : Int) < d) = true := by simp; omega
      go_enter Fahg.func81, Fahg.ntmps81
      go_wp2_with fail
      exact bodyPost_ret (v := .tuple #[.int .i64 0, .bool false]) (by simp [results, Fahg.results81]) rfl ⟨.no H.out, Below.refl _ _⟩
    · have d1 : decide ((8 : Int) < d) = false := by simp; omega
      go_enter Fahg.func81, Fahg.ntmps81
      go_wp2_with fail
      exact bodyPost_ret (v := .tuple #[.int .i64 0, .bool false]) (by simp [results, Fahg.results81]) rfl ⟨.no H.out, Below.refl _ _⟩
  | succ l ih =>
    intro i d el w ht hr hi hd
    by_cases h8 : 8 < d
    · have H : Hid (1000 ≤ pw nd (l + 1) i d el) := by show 1000 ≤ _; rw [pw_deep' _ _ _ _ _ h8]; omega
      generalize pw nd (l + 1) i d el = p at *
      have d1 : decide ((8 : Int) < d) = true := by simp; omega
      go_enter Fahg.func81, Fahg.ntmps81
      go_wp2_with fail
      exact bodyPost_ret (v := .tuple #[.int .i64 0, .bool false]) (by simp [results, Fahg.results81]) rfl ⟨.no H.out, Below.refl _ _⟩
    have IH : Hid _ := ih (by omega)
    clear ih
    have HPW : Hid _ := pw_succ nd l i d el (by omega)
    generalize hP : pw nd (l + 1) i d el = P at *
    clear hP
    have d1 : decide ((8 : Int) < d) = false := by simp; omega
    have d2 : ((l : Int) + 1 == 0) = false := by simp; omega
    have htb : tb < w.heap.size := World.block_lt_of_cell? w _ ht
    have HR : Hid (NCells w b off n nd) := hr
    obtain ⟨h0, h1, h2, h3, h4⟩ := hr i hi
    have hbb : b < w.heap.size := World.block_lt_of_cell? w _ h1
    have HKI : Hid _ := h0.i
    obtain ⟨kb1, kb2⟩ := h0.k
    obtain ⟨cb1, cb2⟩ := h0.c
    obtain ⟨hkl, hdl⟩ := hT.kl hi
    clear hr h0
    have hcc : (((nd i).dL : Int) + (nd i).kL) ≤ 256 := by omega
    have HG : Hid (∀ k c m, Pc ((w.alloc (.cells #[.int .u8 k, .int .u16 0, .int .u8 0, .int .u8 0, .int .u8 c, .int .u16 m] 34)).drew) w.heap.size k 0 0 c m) := pc_new w
    have HGB : Hid (∀ c, Below w.heap.size w ((w.alloc (.cells c 34)).drew)) := fun c => (below_alloc (Below.refl _ _) (Nat.le_refl _) _).drew
    have HT : Hid (Tok n nd) := hT
    have HSHP : Hid (Shp nd i) := hT.shp i hi
    have HIS : Hid (∀ wx, wx.cell? ⟨b, off + i * 4, none⟩ = some (.int .u8 (nd i).kind) → wx.cell? ⟨b, off + i * 4 + 1, none⟩ = some (.int .u8 (nd i).code) → Calls Fahg.prog 88 #[.pointer (some ⟨b, off + i * 4, none⟩)] wx fun e w' => e = .returned (.bool (inl (nd i))) ∧ w' = wx) := fun wx => iss_any b (off + i * 4) (nd i) wx
    have HKIND : Hid ((nd i).kind = 1 ∨ ((nd i).kind = 2 ∧ (nd i).code ≠ 7) ∨ ((nd i).kind = 2 ∧ (nd i).code = 7)) := by
      have := hT.shp i hi
      unfold Shp at this
      show _ ∨ _
      omega
    obtain ⟨D1, hD1⟩ : ∃ D1 : Nat, D1 = if (nd i).kind = 1 then trimC 0 (nd i).dz (nd i).dL else 0 := ⟨_, rfl⟩
    obtain ⟨P1, hP1⟩ : ∃ P1 : Nat, P1 = if (nd i).kind = 1 then trimC (-1) (nd i).kz (nd i).kL else 0 := ⟨_, rfl⟩
    have HD1 : Hid _ := hD1
    have HP1 : Hid _ := hP1
    clear hD1 hP1 hT
    go_enter Fahg.func81, Fahg.ntmps81
    go_wp2_with fail
    go_region
    have HP := HG.out (nd i).kind (nd i).code (((nd i).dL : Int) + (nd i).kL)
    have hb2 := HGB.out #[.int .u8 (nd i).kind, .int .u16 0, .int .u8 0, .int .u8 0, .int .u8 (nd i).code, .int .u16 (((nd i).dL : Int) + (nd i).kL)]
    generalize (w.alloc (.cells #[.int .u8 (nd i).kind, .int .u16 0, .int .u8 0, .int .u8 0, .int .u8 (nd i).code, .int .u16 (((nd i).dL : Int) + (nd i).kL)] 34)).drew = w2 at *
    have HP2 : Hid _ := HP
    have HB2 : Hid _ := hb2
    have q1 := Below.kept hb2 h1
    have q2 := Below.kept hb2 h2
    have q3 := Below.kept hb2 h3
    have q4 := Below.kept hb2 h4
    have y1 := Below.kept hb2 ht
    clear HP hb2 HG HGB
    go_upto_if 65 with fail
    go_cut [12] (fun N wc => N = .pointer (some ⟨b, off + i * 4, none⟩) ∧ Hid (Pc wc w.heap.size (nd i).kind (D1 : Nat) (P1 : Nat) (nd i).code (((nd i).dL : Int) + (nd i).kL)) ∧ Hid (Below w.heap.size w wc))
    case first =>
      by_cases hk1 : (nd i).kind = 1
      · as_aux_lemma =>
          have k1 : ((nd i).kind == 1) = true := by simp [hk1]
          have e1 := HD1.out
          have e2 := HP1.out
          rw [if_pos hk1] at e1 e2
          have HTR := ltrim_any b (off + i * 4) (nd i) w2 (NCells.below' HR.out HB2.out i hi) (by omega) (by omega) q3 q4
          rw [← e1, ← e2] at HTR
          have t1 := trimC_le 0 (nd i).dz (nd i).dL
          have t2 := trimC_le (-1) (nd i).kz (nd i).kL
          have hs := HSHP.out
          unfold Shp at hs
          have hdt : D1 ≤ 8 := by omega
          have hpt : P1 ≤ 8 := by omega
          have HTR2 : Hid _ := HTR
          clear t1 t2 hs hk1 e1 e2 HTR
          go_wp2_with fail
          refine Calls.mono HTR2.out ?_
          rintro e w3 ⟨rfl, hb3⟩
          have HP3 := (HP2.out.below hb3)
          have HB3 : Hid (Below w.heap.size w w3) := HB2.out.trans (hb3.mono HB2.out.size)
          obtain ⟨a0, a1, a2, a3, a4, a5, af2, af3⟩ := HP3
          have HP4 : Hid _ := HP2.out.below hb3
          clear hb3
          go_wp2_with fail
          go_meet
          case rel => exact ⟨rfl, (HP4.out.set2 _).set3 _, (HB3.out.setCell (Nat.le_refl _) _).setCell (Nat.le_refl _) _⟩
      · as_aux_lemma =>
          have k1 : ((nd i).kind == 1) = false := by simp [hk1]
          have e1 := HD1.out
          have e2 := HP1.out
          rw [if_neg hk1] at e1 e2
          subst e1
          subst e2
          clear hk1
          go_wp2_with fail
          go_meet
          case rel => exact ⟨rfl, HP2, HB2⟩
    as_aux_lemma =>
      obtain ⟨rfl, HPA, HBA⟩ := hcut
      clear HP2 HB2 q1 q2 q3 q4 y1
      have q1 := Below.kept HBA.out h1
      have q2 := Below.kept HBA.out h2
      have q4 := Below.kept HBA.out h4
      have y1 := Below.kept HBA.out ht
      obtain ⟨D2, hD2⟩ : ∃ D2 : Nat, D2 = if inl (nd i) then ev2 nd i else D1 := ⟨_, rfl⟩
      obtain ⟨P2, hP2⟩ : ∃ P2 : Nat, P2 = if inl (nd i) then evP nd (nd i).kz (nd i).kL else P1 := ⟨_, rfl⟩
      obtain ⟨nx, hnx⟩ : ∃ nx : Nat, nx = if inl (nd i) then d else d + 1 := ⟨_, rfl⟩
      have HD2 : Hid _ := hD2
      have HP2 : Hid _ := hP2
      have HNX : Hid _ := hnx
      have hnx9 : nx ≤ 9 := by split at hnx <;> omega
      clear hD2 hP2 hnx
      go_wp2_with fail
      refine Calls.mono (HIS.out _ q1 q2) ?_
      rintro e w5 ⟨rfl, rfl⟩
      go_upto_if 78 with fail
      go_cut [12, 14] (fun N S wc => N = .pointer (some ⟨b, off + i * 4, none⟩) ∧ S = .int .i64 (nx : Nat) ∧ Hid (Pc wc w.heap.size (nd i).kind (D2 : Nat) (P2 : Nat) (nd i).code (((nd i).dL : Int) + (nd i).kL)) ∧ Hid (Below w.heap.size w wc))
      case first =>
        cases hin : inl (nd i)
        · as_aux_lemma =>
            have e1 := HD2.out
            have e2 := HP2.out
            have e3 := HNX.out
            rw [hin] at e1 e2 e3
            simp only [Bool.false_eq_true, if_false] at e1 e2 e3
            subst e1
            subst e2
            have HE3 : Hid _ := e3
            clear e3 hin
            go_wp2_with fail
            go_meet
            case rel => exact ⟨rfl, by rw [HE3.out]; simp, HPA, HBA⟩
        have hk27 : (nd i).kind = 2 ∧ (nd i).code = 7 := by
          unfold inl at hin
          simp at hin
          exact hin
        have e1 := HD2.out
        have e2 := HP2.out
        have e3 := HNX.out
        rw [hin] at e1 e2 e3
        simp only [if_true] at e1 e2 e3
        have e4 := HD1.out
        have e5 := HP1.out
        rw [if_neg (by omega)] at e4 e5
        have HEL : Hid _ := HT.out.el hi hk27.1 hk27.2
        have hdl0 : (nd i).dL = 0 := by
          have := HSHP.out
          unfold Shp at this
          omega
        have HPA0 : Hid (Pc w5 w.heap.size (nd i).kind ((evD nd (nd i).kz 0 : Nat) : Int) ((evP nd (nd i).kz 0 : Nat) : Int) (nd i).code (((nd i).dL : Int) + (nd i).kL)) := by
          have := HPA.out
          rw [e4, e5] at this
          exact this
        have HE2 : Hid (D2 = if 0 < (nd i).kL ∧ evD nd (nd i).kz (nd i).kL + evP nd (nd i).kz (nd i).kL = 0 then 1 else evD nd (nd i).kz (nd i).kL) := e1
        have HEP : Hid (P2 = evP nd (nd i).kz (nd i).kL) := e2
        have HD : Hid (∀ m, evD nd (nd i).kz (m + 1) = max (evD nd (nd i).kz m) (trimC 0 (nd ((nd i).kz m).toNat).dz (nd ((nd i).kz m).toNat).dL)) := fun m => rfl
        have HP : Hid (∀ m, evP nd (nd i).kz (m + 1) = max (evP nd (nd i).kz m) (trimC (-1) (nd ((nd i).kz m).toNat).kz (nd ((nd i).kz m).toNat).kL)) := fun m => rfl
        have HD8 : Hid (∀ m, m ≤ (nd i).kL → evD nd (nd i).kz m ≤ 8 ∧ evP nd (nd i).kz m ≤ 8) := fun m hm => ⟨evD_le _ _ _ _ fun j hj => (HEL.out j (by omega)).2.2.1, evP_le _ _ _ _ fun j hj => (HEL.out j (by omega)).2.2.2⟩
        have HKI2 : Hid (IRow w .i16 (nd i).kA (nd i).kL (nd i).kz) := HKI.out
        generalize evD nd (nd i).kz = fD at *
        generalize evP nd (nd i).kz = fP at *
        have HNX2 : Hid _ := e3
        have HDL0 : Hid _ := hdl0
        clear e1 e2 e3 e4 e5 HD2 HP2 HD1 HP1 HNX hin hk27 HPA HKI hdl0
        generalize (nd i).kA = kA at *
        go_wp2_with fail
        go_loopg [85] (nd i).kL (fun k I wr => ∃ j : Nat, j + k = (nd i).kL ∧ I = .int .i64 (j : Nat) ∧ Hid (Pc wr w.heap.size (nd i).kind ((fD j : Nat) : Int) ((fP j : Nat) : Int) (nd i).code (((nd i).dL : Int) + (nd i).kL)) ∧ Hid (Below w.heap.size w wr))
        case atStart => exact ⟨0, by omega, rfl, HPA0, HBA⟩
        obtain ⟨j, hjk, rfl, HPX, HBX⟩ := hrel
        obtain ⟨a0, a1, a2, a3, a4, a5, af2, af3⟩ := HPX.out
        by_cases hjl : j < (nd i).kL
        case pos =>
          rcases HKI2.out with h0 | ⟨b2, off2, e2, hc2⟩
          · omega
          subst e2
          have c9 := Below.kept HBX.out (hc2 j hjl).1
          clear hc2
          obtain ⟨k0, k1, k2, k3⟩ := HEL.out j hjl
          obtain ⟨z, hz⟩ : ∃ z : Nat, (nd i).kz j = z := ⟨((nd i).kz j).toNat, by omega⟩
          rw [hz] at c9 k0 k1 k2 k3
          rw [Int.toNat_natCast] at k2 k3
          have y2 := Below.kept HBX.out ht
          obtain ⟨r0, r1, r2, r3, r4⟩ := NCells.below HR.out HBX.out z (by omega)
          have HTR := ltrim_any b (off + z * 4) (nd z) wr r0 (by omega) (by omega) r3 r4
          have t1 := trimC_le 0 (nd z).dz (nd z).dL
          have t2 := trimC_le (-1) (nd z).kz (nd z).kL
          have f1 := HD.out j
          have f2 := HP.out j
          rw [hz, Int.toNat_natCast] at f1 f2
          obtain ⟨g1, g2⟩ := HD8.out j (by omega)
          generalize trimC 0 (nd z).dz (nd z).dL = td at *
          generalize trimC (-1) (nd z).kz (nd z).kL = tp at *
          have F1 : Hid _ := f1
          have F2 : Hid _ := f2
          have HTR2 : Hid _ := HTR
          have htd : td ≤ 8 := by omega
          have htp : tp ≤ 8 := by omega
          clear f1 f2 HTR hz r0 r1 r2 r3 r4 t1 t2
          go_wp2_with fail
          refine Calls.mono HTR2.out ?_
          rintro e w7 ⟨rfl, hb7⟩
          have HP7 : Hid _ := HPX.out.below hb7
          have HB7 : Hid (Below w.heap.size w w7) := HBX.out.trans (hb7.mono HBX.out.size)
          clear hb7 HTR2 a0 a1 a2 a3 a4 a5 af2 af3
          obtain ⟨a0, a1, a2, a3, a4, a5, af2, af3⟩ := HP7.out
          by_cases m1 : fD j < td <;> by_cases m2 : fP j < tp
          all_goals as_aux_lemma =>
            go_wp2_with fail
            go_roundg (gk - 1)
            case rel =>
              have e1 : ∀ x : Int, x = ((fD (j + 1) : Nat) : Int) → ∀ y : Int, y = ((fP (j + 1) : Nat) : Int) → Pc ((w7.setCell ⟨w.heap.size, 2, none⟩ (.int .u8 x)).setCell ⟨w.heap.size, 3, none⟩ (.int .u8 y)) w.heap.size (nd i).kind ((fD (j + 1) : Nat) : Int) ((fP (j + 1) : Nat) : Int) (nd i).code (((nd i).dL : Int) + (nd i).kL) := by
                rintro x rfl y rfl
                exact (HP7.out.set2 _).set3 _
              refine ⟨j + 1, by omega, by simp, e1 _ ?_ _ ?_, (HB7.out.setCell (Nat.le_refl _) _).setCell (Nat.le_refl _) _⟩
              · rw [F1.out]; omega
              · rw [F2.out]; omega
            case measure => omega
        have hje : j = (nd i).kL := by omega
        subst hje
        obtain ⟨g1, g2⟩ := HD8.out (nd i).kL (by omega)
        by_cases hk0 : (nd i).kL = 0
        · as_aux_lemma =>
            have d9 : decide ((0 : Int) < ((nd i).dL : Int) + (nd i).kL) = false := by have := HDL0.out; simp; omega
            have HX : Hid (D2 = fD (nd i).kL) := by have := HE2.out; rw [if_neg (by omega)] at this; exact this
            clear hk0
            go_wp2_with fail
            go_meet
            case rel => exact ⟨rfl, by rw [HNX2.out], by rw [HX.out, HEP.out]; exact HPX.out, HBX⟩
        have d9 : decide ((0 : Int) < ((nd i).dL : Int) + (nd i).kL) = true := by simp; omega
        by_cases hd0 : fD (nd i).kL = 0
        · have d8 : (((fD (nd i).kL : Nat) : Int) == 0) = true := by simp; omega
          by_cases hp0 : fP (nd i).kL = 0
          · as_aux_lemma =>
              have d7 : (((fP (nd i).kL : Nat) : Int) == 0) = true := by simp; omega
              have HX : Hid (D2 = 1) := by have := HE2.out; rw [if_pos (by omega)] at this; exact this
              clear hk0 hd0 hp0
              go_wp2_with fail
              go_meet
              case rel => exact ⟨rfl, by rw [HNX2.out], by rw [HX.out, HEP.out]; exact HPX.out.set2 _, HBX.out.setCell (Nat.le_refl _) _⟩
          · as_aux_lemma =>
              have d7 : (((fP (nd i).kL : Nat) : Int) == 0) = false := by simp; omega
              have HX : Hid (D2 = fD (nd i).kL) := by have := HE2.out; rw [if_neg (by omega)] at this; exact this
              clear hk0 hd0 hp0
              go_wp2_with fail
              go_meet
              case rel => exact ⟨rfl, by rw [HNX2.out], by rw [HX.out, HEP.out]; exact HPX.out, HBX⟩
        · as_aux_lemma =>
            have d8 : (((fD (nd i).kL : Nat) : Int) == 0) = false := by simp; omega
            have HX : Hid (D2 = fD (nd i).kL) := by have := HE2.out; rw [if_neg (by omega)] at this; exact this
            clear hk0 hd0
            go_wp2_with fail
            go_meet
            case rel => exact ⟨rfl, by rw [HNX2.out], by rw [HX.out, HEP.out]; exact HPX.out, HBX⟩
      as_aux_lemma =>
        obtain ⟨rfl, rfl, HPB, HBB⟩ := hcut
        clear HPA HBA q1 q2 q4 y1
        have q1 := Below.kept HBB.out h1
        have q2 := Below.kept HBB.out h2
        have q4 := Below.kept HBB.out h4
        have y1 := Below.kept HBB.out ht
        obtain ⟨ow, how⟩ : ∃ ow : Nat, ow = if el then 0 else ownW nd i := ⟨_, rfl⟩
        have how9 : ow ≤ 257 := by
          have := ownW_le nd i
          rw [how]
          split <;> omega
        have HOW : Hid _ := how
        clear how
        go_upto_if 127 with fail
        go_cut [12, 14, 21] (fun N S W wc => N = .pointer (some ⟨b, off + i * 4, none⟩) ∧ S = .int .i64 (nx : Nat) ∧ W = .int .i64 (ow : Nat) ∧ Hid (Below w.heap.size w wc))
        case first =>
          cases el
          · as_aux_lemma =>
              obtain ⟨a0, a1, a2, a3, a4, a5, af2, af3⟩ := HPB.out
              have HSAY : Hid (OwnSays nd i (D2 : Nat) (P2 : Nat)) := by
                have e1 := HD1.out
                have e2 := HP1.out
                have e3 := HD2.out
                have e4 := HP2.out
                rcases HKIND.out with h | ⟨h, h7⟩ | ⟨h, h7⟩
                · have hin : inl (nd i) = false := by unfold inl; rw [h]; rfl
                  rw [hin] at e3 e4
                  rw [if_pos h] at e1 e2
                  simp only [Bool.false_eq_true, if_false] at e3 e4
                  rw [e3, e4, e1, e2]
                  exact says_struct HT.out hi h
                · have hin : inl (nd i) = false := by unfold inl; simp [h7]
                  rw [hin] at e3 e4
                  rw [if_neg (by omega)] at e1 e2
                  simp only [Bool.false_eq_true, if_false] at e3 e4
                  rw [e3, e4, e1, e2]
                  exact says_list HT.out hi h h7
                · have hin : inl (nd i) = true := by unfold inl; simp [h, h7]
                  rw [hin] at e3 e4
                  simp only [if_true] at e3 e4
                  rw [e3, e4]
                  exact says_structs HT.out hi h h7
              have ho : ownW nd i = ow := HOW.out.symm
              have HSAY2 := HSAY.out wc
              unfold OwnSays at HSAY
              rw [ho] at HSAY2
              have HSAY3 : Hid _ := HSAY2
              clear HSAY HSAY2 ho
              go_wp2_with fail
              refine Calls.mono HSAY3.out ?_
              rintro e w6 ⟨rfl, hb6⟩
              have HB6 : Hid (Below w.heap.size w w6) := HBB.out.trans (hb6.mono HBB.out.size)
              clear hb6
              go_wp2_with fail
              go_meet
              case rel => exact ⟨rfl, rfl, rfl, HB6⟩
          · as_aux_lemma =>
              have ho : ow = 0 := HOW.out
              subst ho
              go_wp2_with fail
              go_meet
              case rel => exact ⟨rfl, rfl, rfl, HBB⟩
        as_aux_lemma =>
          obtain ⟨rfl, rfl, rfl, HBC⟩ := hcut
          clear HPB HBB q1 q2 q4 y1
          have q4 := Below.kept HBC.out h4
          have HPW3 : Hid (P = ow + ksm (fun k => pw nd l k nx (inl (nd i))) (nd i).kz (nd i).kL) := by
            have := HPW.out
            rw [← HOW.out, ← HNX.out] at this
            exact this
          obtain ⟨f, hf⟩ : ∃ f : Nat → Nat, f = fun k => pw nd l k nx (inl (nd i)) := ⟨_, rfl⟩
          have HF : Hid (∀ z, f z = pw nd l z nx (inl (nd i))) := fun z => by rw [hf]
          rw [← hf] at HPW3
          clear hf HPW HOW HNX HD1 HP1 HD2 HP2
          generalize inl (nd i) = il at *
          have HKI2 : Hid (IRow w .i16 (nd i).kA (nd i).kL (nd i).kz) := HKI.out
          clear HKI
          generalize (nd i).kA = kA at *
          have HOW0 : Hid (((ow : Nat) : Int) = wrap64 ((ow + ksm f (nd i).kz 0 : Nat) : Int)) := start_own ow f _ how9
          go_wp2_with fail
          go_loopg [21, 135] (nd i).kL (fun k W J wr => ∃ j : Nat, j + k = (nd i).kL ∧ W = .int .i64 (wrap64 ((ow + ksm f (nd i).kz j : Nat) : Int)) ∧ J = .int .i64 (j : Nat) ∧ Hid (Below w.heap.size w wr))
          case atStart => exact ⟨0, by omega, congrArg (Value.int .i64) HOW0.out, rfl, HBC⟩
          obtain ⟨j, hjk, rfl, rfl, HBX⟩ := hrel
          clear HOW0 HBC
          by_cases hjl : j < (nd i).kL
          case neg => as_aux_lemma =>
            have hje : j = (nd i).kL := by omega
            subst hje
            have hpp := HPW3.out
            generalize ow + ksm f (nd i).kz (nd i).kL = S at *
            subst hpp
            go_wp2_with fail
            exact bodyPost_ret (v := .tuple #[.int .i64 (wrap64 (P : Nat)), .bool true]) (by simp [results, Fahg.results81]) rfl ⟨.yes, HBX.out⟩
          rcases HKI2.out with h0 | ⟨b2, off2, e2, hc2⟩
          · omega
          subst e2
          have c9 := Below.kept HBX.out (hc2 j hjl).1
          clear hc2
          by_cases hm : (nd i).kz j = -1
          · as_aux_lemma =>
              rw [hm] at c9
              have HKS : Hid (ksm f (nd i).kz (j + 1) = ksm f (nd i).kz j) := by
                show ksm _ _ (j + 1) = _
                rw [ksm, if_pos hm]
                omega
              clear hm
              go_wp2_with fail
              go_roundg (gk - 1)
              case rel => exact ⟨j + 1, by omega, by rw [HKS.out], by simp, HBX⟩
              case measure => omega
          have hkid := HT.out.kid hi hjl hm
          obtain ⟨z, hz⟩ : ∃ z : Nat, z = ((nd i).kz j).toNat := ⟨_, rfl⟩
          rw [← hz] at hkid
          have hzz : (nd i).kz j = z := by omega
          have HKS : Hid (ksm f (nd i).kz (j + 1) = ksm f (nd i).kz j + f z) := by
            show ksm _ _ (j + 1) = _
            rw [ksm, if_neg hm, ← hz]
          rw [hzz] at c9
          have hz1 : ((z : Int) == -1) = false := by simp
          have hz2 : z < n := hkid.2.1
          have q1 := Below.kept HBX.out h1
          have q2 := Below.kept HBX.out h2
          have HIH := IH.out z nx il wr (Below.kept HBX.out ht) (NCells.below HR.out HBX.out) hz2 hnx9
          have HIX : Hid _ := HIS.out wr q1 q2
          have HMON : Hid _ := ksm_mono f (nd i).kz (show j + 1 ≤ (nd i).kL from hjl)
          clear hm hzz hz hkid
          rw [← HF.out z] at HIH
          obtain ⟨pz, hpz⟩ : ∃ pz, pz = f z := ⟨_, rfl⟩
          rw [← hpz] at HKS HIH
          clear hpz
          have HI2 : Hid _ := HIH
          have hl1 : ((l : Int) + 1) - 1 = (l : Nat) := by omega
          have HPW4 : Hid _ := HPW3.out
          clear HIH h3 q4 HPW3 HF IH
          go_wp2_with fail
          refine Calls.mono HIX.out ?_
          rintro e w7 ⟨rfl, rfl⟩
          go_wp2_with fail
          refine Calls.mono HI2.out ?_
          rintro e w8 ⟨hres, hb8⟩
          have HB8 : Hid (Below w.heap.size w w8) := HBX.out.trans (hb8.mono HBX.out.size)
          clear hb8 HI2 HIX
          cases hres with
          | yes =>
            as_aux_lemma =>
              have HADD : Hid (wrap64 (wrap64 ((ow + ksm f (nd i).kz j : Nat) : Int) + wrap64 (pz : Nat)) = wrap64 ((ow + ksm f (nd i).kz (j + 1) : Nat) : Int)) := by
                rw [HKS.out]
                exact wrap64_sum _ _ _
              go_wp2_with fail
              go_roundg (gk - 1)
              case rel => exact ⟨j + 1, by omega, by rw [← HADD.out, Int.natCast_add], by simp, HB8⟩
              case measure => omega
          | no hbig =>
            as_aux_lemma =>
              have HBIG : Hid (1000 ≤ P) := by
                have h1 := HPW4.out
                have h2 := HMON.out
                have h3 := HKS.out
                show 1000 ≤ P
                omega
              clear hbig
              go_wp2_with fail
              exact bodyPost_ret (v := .tuple #[.int .i64 0, .bool false]) (by simp [results, Fahg.results81]) rfl ⟨.no HBIG.out, HB8.out⟩
theorem pwalks (tb b off n cap : Nat) (nd : Nat → NodeC) (hn : n ≤ 512) : Hid (Tok n nd → PWalks tb b off n cap nd) := by
  intro hT i w ht hr hi
  exact pwalk_any tb b off n cap nd hn hT 20 (Nat.le_refl _) i 1 false w ht hr hi (by omega)
end Go.Proofs.Ygcfah
