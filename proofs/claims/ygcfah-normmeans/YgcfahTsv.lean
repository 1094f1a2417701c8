/- law.sameValue of a tree and its Norm. -/
import Derived.Test.YgcfahTno
import Derived.BigRegion
import Derived.Deep.DeepCutAuto
namespace Go.Proofs.Ygcfah
open Go.RowKit
set_option linter.unusedVariables false
set_option linter.unusedSimpArgs false
theorem NCells.below'' {w w' : World} {b off n : Nat} {nd : Nat → NodeC} (h : NCells w b off n nd) (hb : Below w.heap.size w w') (i : Nat) (hi : i < n) : NodeOk w' (nd i) := ((h i hi).1).below hb
set_option maxRecDepth 100000 in
set_option maxHeartbeats 16000000 in
theorem sameval_any (tb b off n cap ub vb voff m ucap : Nat) (nd nu : Nat → NodeC) (src : Nat → Nat) (elm : Nat → Bool) (hn : n ≤ 512) (hm : m ≤ 512) (hT : Tok n nd) (hN : NormOf n nd m nu src elm) (l : Nat) (hl20 : l ≤ 20) :
    ∀ (c d : Nat) (e0 : Bool) (w : World), w.cell? ⟨tb, 0, none⟩ = some (.slice (some ⟨b, off, none⟩) n cap) → w.cell? ⟨ub, 0, none⟩ = some (.slice (some ⟨vb, voff, none⟩) m ucap) → NCells w b off n nd → NCells w vb voff m nu → c < m → pw nd l (src c) d e0 < 1000 → cn nd l (src c) ≤ 512 →
    Calls Fahg.prog 28 #[.pointer (some ⟨tb, 0, none⟩), .pointer (some ⟨ub, 0, none⟩), .int .i16 (src c : Nat), .int .i16 (c : Nat), .int .i64 (l : Nat), .bool (elm c)] w fun e w' => e = .returned (.tuple #[.int .i64 (cn nd l (src c) : Nat), .bool true]) ∧ Below w.heap.size w w' := by
  induction l with
  | zero =>
    intro c d e0 w ht hu hr hv hc hp hcn
    rw [pw] at hp
    omega
  | succ l ih =>
    intro c d e0 w ht hu hr hv hc hp hcn
    have IH : Hid _ := ih (by omega)
    clear ih
    have hi := hN.lt c hc
    have HPW : Hid _ := hp
    have HN : Hid (NormOf n nd m nu src elm) := hN
    have HT : Hid (Tok n nd) := hT
    have HR : Hid (NCells w b off n nd) := hr
    have HV : Hid (NCells w vb voff m nu) := hv
    have HCN : Hid (cn nd (l + 1) (src c) = 1 + ksm (cn nd l) (nd (src c)).kz (nd (src c)).kL) := by show cn nd (l + 1) (src c) = _; rw [cn]
    have HC512 : Hid _ := hcn
    generalize hCC : cn nd (l + 1) (src c) = CC at *
    clear hCC
    generalize hii : src c = i at *
    have HII : Hid _ := hii
    clear hii
    obtain ⟨x0, x1, x2, x3, x4⟩ := hr i hi
    obtain ⟨z0, z1, z2, z3, z4⟩ := hv c hc
    have ek : ((nd i).kind != (nu c).kind) = false := by rw [hN.kind c hc, HII.out]; simp
    have ec : ((nd i).code != (nu c).code) = false := by rw [hN.code c hc, HII.out]; simp
    have hxl := hT.kl hi
    have hdl := hN.dl c hc
    have hkl := hN.kl c hc
    have HSD : Hid (∀ W, Below w.heap.size w W → ∀ q, Calls Fahg.prog 86 #[.pointer (some ⟨b, off + i * 4, none⟩), .pointer (some ⟨vb, voff + c * 4, none⟩)] (W.drewN q) fun e w' => e = .returned (.bool true) ∧ ∃ nq, w' = (W.drewN q).drewN nq) := by
      intro W hW q
      obtain ⟨M, hM⟩ : ∃ M, ((nd i).dL < (nu c).dL ∧ M = (nu c).dL) ∨ (¬(nd i).dL < (nu c).dL ∧ M = (nd i).dL) := by
        by_cases h : (nd i).dL < (nu c).dL
        · exact ⟨_, .inl ⟨h, rfl⟩⟩
        · exact ⟨_, .inr ⟨h, rfl⟩⟩
      have hb : Below w.heap.size w (W.drewN q) := below_drewN' hW q
      exact samedata_true b (off + i * 4) vb (voff + c * 4) (nd i).dA (nu c).dA (nd i).dL (nd i).dC (nu c).dL (nu c).dC M (nd i).dz (nu c).dz (W.drewN q) (Below.kept hb x3) (Below.kept hb z3) (x0.d.below hb) (z0.d.below hb) hxl.2 hdl (by have := hN.data c hc; rw [HII.out] at this; exact this) hM
    have d0 : ((l : Int) + 1 == 0) = false := by simp; omega
    have d0' : (((l + 1 : Nat) : Int) == 0) = false := by simp; omega
    clear hr hv x0 z0 hp hcn hN hT
    obtain ⟨eb, heb⟩ : ∃ eb, eb = elm c := ⟨_, rfl⟩
    have HEB : Hid _ := heb
    rw [← heb]
    clear heb
    go_enter Fahg.func28, Fahg.ntmps28
    go_wp2_with fail
    go_quiet (fail)
    have HB0 : Hid (Below w.heap.size w (w.drewN nq)) := below_drewN' (Below.refl _ _) _
    generalize w.drewN nq = w0 at *
    have y1 := Below.kept HB0.out x1
    have y2 := Below.kept HB0.out x2
    have y3 := Below.kept HB0.out z1
    have y4 := Below.kept HB0.out z2
    go_wp2_with fail
    go_quiet ((go_at_call 86; exact Calls.quiet_of (HSD.out _ HB0.out _)))
    have HB1 : Hid (Below w.heap.size w (w0.drewN nq)) := below_drewN' HB0.out _
    generalize w0.drewN nq = w1 at *
    clear y1 y2 y3 y4 HB0 HSD ek ec d0 d0'
    have y1 := Below.kept HB1.out x1
    have y3 := Below.kept HB1.out x3
    have y4 := Below.kept HB1.out x4
    have v3 := Below.kept HB1.out z3
    have v4 := Below.kept HB1.out z4
    go_upto_region 4 with fail
    go_cut [96] (fun T wc => T = .bool false ∧ Hid (Below w.heap.size w wc))
    case first =>
      by_cases hk2 : (nd i).kind = 2
      · as_aux_lemma =>
          have k2 : ((nd i).kind == 2) = true := by simp [hk2]
          have hl := HN.out.list c hc (by rw [HII.out]; exact hk2)
          rw [HII.out] at hl
          have e1 : (((nd i).dL : Int) != (nu c).dL) = false := by rw [hl.1]; simp
          have e2 : (((nd i).kL : Int) != (nu c).kL) = false := by rw [hl.2]; simp
          clear hk2 hl
          go_quiet (fail)
          go_wp2_with fail
          go_meet
          case rel => exact ⟨rfl, below_drewN' HB1.out _⟩
      · as_aux_lemma =>
          have k2 : ((nd i).kind == 2) = false := by simp [hk2]
          clear hk2
          go_quiet (fail)
          go_wp2_with fail
          go_meet
          case rel => exact ⟨rfl, below_drewN' HB1.out _⟩
    as_aux_lemma =>
      obtain ⟨rfl, HB2⟩ := hcut
      clear HB1 y1 y3 y4 v3 v4
      have y1 := Below.kept HB2.out x1
      have v3 := Below.kept HB2.out z3
      have v4 := Below.kept HB2.out z4
      have HTR := ltrim_any vb (voff + c * 4) (nu c) wc (NCells.below'' HV.out HB2.out c hc) (by omega) (by omega) v3 v4
      have t1 := trimC_le 0 (nu c).dz (nu c).dL
      have t2 := trimC_le (-1) (nu c).kz (nu c).kL
      have htr := HN.out.trim c hc
      rw [HII.out, ← HEB.out] at htr
      generalize trimC 0 (nu c).dz (nu c).dL = td at *
      generalize trimC (-1) (nu c).kz (nu c).kL = tp at *
      have HTR2 : Hid _ := HTR
      have HTT : Hid _ := htr
      clear HTR htr
      go_wp2_with fail
      refine Calls.mono HTR2.out ?_
      rintro e w3 ⟨rfl, hb3⟩
      have HB3 : Hid (Below w.heap.size w w3) := HB2.out.trans (hb3.mono HB2.out.size)
      clear hb3 HTR2 HB2 y1 v3 v4
      have y1 := Below.kept HB3.out x1
      have v3 := Below.kept HB3.out z3
      have v4 := Below.kept HB3.out z4
      go_upto_region 7 with fail
      go_cut [5, 128] (fun E T wx => E = .bool eb ∧ T = .bool false ∧ Hid (Below w.heap.size w wx))
      case first =>
        by_cases hk1 : (nd i).kind = 1
        · have k1 : ((nd i).kind == 1) = true := by simp [hk1]
          cases eb
          · as_aux_lemma =>
              obtain ⟨e1, e2⟩ := HTT.out hk1 rfl
              have e3 : (((td : Nat) : Int) != (nu c).dL) = false := by rw [e1]; simp
              have e4 : (((tp : Nat) : Int) != (nu c).kL) = false := by rw [e2]; simp
              clear hk1 e1 e2
              go_wp2_with fail
              go_meet
              case rel => exact ⟨rfl, rfl, HB3⟩
          · as_aux_lemma =>
              clear hk1
              go_wp2_with fail
              go_meet
              case rel => exact ⟨rfl, rfl, HB3⟩
        · as_aux_lemma =>
            have k1 : ((nd i).kind == 1) = false := by simp [hk1]
            clear hk1
            go_wp2_with fail
            go_meet
            case rel => exact ⟨rfl, rfl, HB3⟩
      as_aux_lemma =>
        obtain ⟨rfl, rfl, HB4⟩ := hcut
        clear HB3 y1 v3 v4 HTT t1 t2
        have v1 := Below.kept HB4.out z1
        have v2 := Below.kept HB4.out z2
        have HIX : Hid _ := iss_any vb (voff + c * 4) (nu c) wc v1 v2
        go_upto_region 9 with fail
        go_cut [136] (fun T wy => T = .bool false ∧ Hid (Below w.heap.size w wy))
        case first =>
          go_wp2_with fail
          refine Calls.mono HIX.out ?_
          rintro e w5 ⟨rfl, rfl⟩
          cases hin : inl (nu c)
          · as_aux_lemma =>
              clear hin
              go_wp2_with fail
              go_meet
              case rel => exact ⟨rfl, HB4⟩
          · as_aux_lemma =>
              obtain ⟨D, P, hE⟩ := HN.out.even c hc hin
              have HEV : Hid _ := even_true ub vb voff m ucap nu c D P w5 (Below.kept HB4.out hu) (NCells.below HV.out HB4.out) hc hm hE.kid hkl hE.d hE.p hE.z hE.nz
              clear hin hE
              go_wp2_with fail
              refine Calls.mono HEV.out ?_
              rintro e w6 ⟨rfl, hb6⟩
              have HB6 : Hid (Below w.heap.size w w6) := HB4.out.trans (hb6.mono HB4.out.size)
              clear hb6 HEV
              go_wp2_with fail
              go_meet
              case rel => exact ⟨rfl, HB6⟩
        as_aux_lemma =>
          obtain ⟨rfl, HB5⟩ := hcut
          clear HB4 v1 v2 HIX
          have y4 := Below.kept HB5.out x4
          have v4 := Below.kept HB5.out z4
          obtain ⟨M, hM⟩ : ∃ M, ((nd i).kL < (nu c).kL ∧ M = (nu c).kL) ∨ (¬(nd i).kL < (nu c).kL ∧ M = (nd i).kL) := by
            by_cases h : (nd i).kL < (nu c).kL
            · exact ⟨_, .inl ⟨h, rfl⟩⟩
            · exact ⟨_, .inr ⟨h, rfl⟩⟩
          go_upto_region 12 with fail
          go_cut [147, 148] (fun B I wz => B = .int .i64 (M : Nat) ∧ I = .int .i64 0 ∧ Hid (Below w.heap.size w wz))
          case first =>
            rcases hM with ⟨hM, rfl⟩ | ⟨hM, rfl⟩
            · as_aux_lemma =>
                go_quiet (fail)
                go_wp2_with fail
                go_meet
                case rel => exact ⟨rfl, rfl, below_drewN' HB5.out _⟩
            · as_aux_lemma =>
                go_quiet (fail)
                go_wp2_with fail
                go_meet
                case rel => exact ⟨rfl, rfl, below_drewN' HB5.out _⟩
          as_aux_lemma =>
            obtain ⟨rfl, rfl, HB6⟩ := hcut
            clear HB5 y4 v4
            obtain ⟨f, hf⟩ : ∃ f : Nat → Nat, f = cn nd l := ⟨_, rfl⟩
            have HF : Hid (∀ z, f z = cn nd l z) := fun z => by rw [hf]
            obtain ⟨g, hg⟩ : ∃ g : Nat → Nat, g = fun j => 1 + ksm f (nd i).kz (min j (nd i).kL) := ⟨_, rfl⟩
            have HG : Hid (g 0 = 1 ∧ (∀ j, (nd i).kL ≤ j → g j = CC) ∧ (∀ j, j < (nd i).kL → (nd i).kz j = -1 → g (j + 1) = g j) ∧ (∀ j, j < (nd i).kL → (nd i).kz j ≠ -1 → g (j + 1) = g j + f ((nd i).kz j).toNat ∧ g (j + 1) ≤ CC)) := by
              have hC := HCN.out
              rw [← hf] at hC
              refine ⟨?_, ?_, ?_, ?_⟩
              · rw [hg]; simp [ksm]
              · intro j hj
                rw [hg, hC]
                show 1 + ksm f (nd i).kz (min j (nd i).kL) = _
                rw [Nat.min_eq_right hj]
              · intro j hj hk
                rw [hg]
                show 1 + ksm f (nd i).kz (min (j + 1) (nd i).kL) = 1 + ksm f (nd i).kz (min j (nd i).kL)
                rw [Nat.min_eq_left (show j + 1 ≤ (nd i).kL from hj), Nat.min_eq_left (Nat.le_of_lt hj), ksm, if_pos hk]
                omega
              · intro j hj hk
                rw [hg]
                show 1 + ksm f (nd i).kz (min (j + 1) (nd i).kL) = 1 + ksm f (nd i).kz (min j (nd i).kL) + _ ∧ 1 + ksm f (nd i).kz (min (j + 1) (nd i).kL) ≤ CC
                rw [Nat.min_eq_left (show j + 1 ≤ (nd i).kL from hj), Nat.min_eq_left (Nat.le_of_lt hj)]
                have h1 := ksm_mono f (nd i).kz (show j + 1 ≤ (nd i).kL from hj)
                rw [hC]
                refine ⟨?_, by omega⟩
                rw [ksm, if_neg hk]
                omega
            have HMM : Hid ((nd i).kL ≤ M ∧ (nu c).kL ≤ M ∧ M ≤ 128 ∧ ∀ j, j < M → j < (nd i).kL ∨ j < (nu c).kL) := by
              show _ ∧ _ ∧ _ ∧ _
              rcases hM with ⟨h1, rfl⟩ | ⟨h1, rfl⟩
              · exact ⟨by omega, by omega, by omega, fun j hj => by omega⟩
              · exact ⟨by omega, by omega, by omega, fun j hj => by omega⟩
            have hM128 := HMM.out.2.2.1
            have HKX : Hid (IRow w .i16 (nd i).kA (nd i).kL (nd i).kz) := (HR.out i hi).1.i
            have HKY : Hid (IRow w .i16 (nu c).kA (nu c).kL (nu c).kz) := (HV.out c hc).1.i
            have HIL : Hid (inl (nu c) = inl (nd i)) := by have := HN.out.inl_eq hc; rw [HII.out] at this; exact this
            clear hg hf hM HCN
            go_wp2_with fail
            go_loopg [18, 148] M (fun k W J wr => ∃ j : Nat, j + k = M ∧ W = .int .i64 ((g j : Nat) : Int) ∧ J = .int .i64 (j : Nat) ∧ Hid (Below w.heap.size w wr))
            case atStart => exact ⟨0, by omega, by rw [HG.out.1]; rfl, rfl, HB6⟩
            obtain ⟨j, hjk, rfl, rfl, HBX⟩ := hrel
            clear HB6
            have y4 := Below.kept HBX.out x4
            have v4 := Below.kept HBX.out z4
            by_cases hjM : j < M
            case neg => as_aux_lemma =>
              have hje : j = M := by omega
              have hgM : g j = CC := HG.out.2.1 j (by have := HMM.out.1; omega)
              rw [hgM]
              clear hgM hje
              go_wp2_with fail
              exact bodyPost_ret (v := .tuple #[.int .i64 (CC : Nat), .bool true]) (by simp [results, Fahg.results28]) rfl ⟨rfl, HBX.out⟩
            by_cases hjx : j < (nd i).kL
            case neg => as_aux_lemma =>
              have hjy : j < (nu c).kL := by have := HMM.out.2.2.2 j hjM; omega
              have hno := HN.out.nokid c hc j hjy (by rw [HII.out]; exact fun h => absurd h hjx)
              rcases HKY.out with h0 | ⟨c2, p2, e2, hc2⟩
              · omega
              have a2 := Below.kept HBX.out (hc2 j hjy).1
              rw [e2] at v4
              rw [hno] at a2
              have hgj : g (j + 1) = g j := by rw [HG.out.2.1 j (by omega), HG.out.2.1 (j + 1) (by omega)]
              have HGJ : Hid _ := hgj
              clear e2 hc2 hno hgj
              go_wp2_with fail
              go_roundg (gk - 1)
              case rel => exact ⟨j + 1, by omega, by rw [HGJ.out], by simp, HBX⟩
              case measure => omega
            rcases HKX.out with h0 | ⟨c1, p1, e1, hc1⟩
            · omega
            have a1 := Below.kept HBX.out (hc1 j hjx).1
            rw [e1] at y4
            clear e1 hc1
            by_cases hk : (nd i).kz j = -1
            · rw [hk] at a1
              have HGJ : Hid (g (j + 1) = g j) := HG.out.2.2.1 j hjx hk
              by_cases hjy : j < (nu c).kL
              · as_aux_lemma =>
                  have hno := HN.out.nokid c hc j hjy (by rw [HII.out]; exact fun _ => hk)
                  rcases HKY.out with h0 | ⟨c2, p2, e2, hc2⟩
                  · omega
                  have a2 := Below.kept HBX.out (hc2 j hjy).1
                  rw [e2] at v4
                  rw [hno] at a2
                  clear e2 hc2 hno hk
                  go_wp2_with fail
                  go_roundg (gk - 1)
                  case rel => exact ⟨j + 1, by omega, by rw [HGJ.out], by simp, HBX⟩
                  case measure => omega
              · as_aux_lemma =>
                  clear hk
                  go_wp2_with fail
                  go_roundg (gk - 1)
                  case rel => exact ⟨j + 1, by omega, by rw [HGJ.out], by simp, HBX⟩
                  case measure => omega
            as_aux_lemma =>
              obtain ⟨hjy, c', hc', hcm, hsrc, hel⟩ := HN.out.kid c hc j (by rw [HII.out]; exact hjx) (by rw [HII.out]; exact hk)
              rw [HII.out] at hsrc hel
              obtain ⟨hg1, hg2⟩ := HG.out.2.2.2 j hjx hk
              have hkid := HT.out.kid hi hjx hk
              have hpk := (pw_kid HPW.out hjx hk).2
              obtain ⟨z, hz⟩ : ∃ z : Nat, z = ((nd i).kz j).toNat := ⟨_, rfl⟩
              rw [← hz] at hsrc hkid hpk hg1
              have hzz : (nd i).kz j = z := by omega
              rcases HKY.out with h0 | ⟨c2, p2, e2, hc2⟩
              · omega
              have a2 := Below.kept HBX.out (hc2 j hjy).1
              rw [e2] at v4
              rw [hc'] at a2
              rw [hzz] at a1
              have n1 : ((z : Int) == -1) = false := by simp
              have n2 : ((c' : Int) == -1) = false := by simp
              have v1 := Below.kept HBX.out z1
              have v2 := Below.kept HBX.out z2
              have h512 := HC512.out
              have hfz : f z ≤ 512 := by omega
              have HIH := IH.out c' _ _ wr (Below.kept HBX.out ht) (Below.kept HBX.out hu) (NCells.below HR.out HBX.out) (NCells.below HV.out HBX.out) hcm (by rw [hsrc]; exact hpk) (by rw [hsrc, ← HF.out z]; exact hfz)
              rw [hsrc, hel, ← HIL.out, ← HF.out z] at HIH
              have HIX : Hid _ := iss_any vb (voff + c * 4) (nu c) wr v1 v2
              obtain ⟨fz, hfz2⟩ : ∃ fz, fz = f z := ⟨_, rfl⟩
              rw [← hfz2] at HIH hg1 hfz
              have HG1 : Hid _ := hg1
              have hgb : g j + fz ≤ 512 := by omega
              have HI2 : Hid _ := HIH
              generalize inl (nu c) = il at *
              clear hg1 hg2 hkid hpk hz hzz hc' hcm hsrc hel e2 hc2 hk hfz2 HIH h512 IH HPW
              go_wp2_with fail
              refine Calls.mono HIX.out ?_
              rintro e w7 ⟨rfl, rfl⟩
              go_wp2_with fail
              refine Calls.mono HI2.out ?_
              rintro e w8 ⟨rfl, hb8⟩
              have HB8 : Hid (Below w.heap.size w w8) := HBX.out.trans (hb8.mono HBX.out.size)
              clear hb8 HI2 HIX
              go_wp2_with fail
              go_roundg (gk - 1)
              case rel => exact ⟨j + 1, by omega, by rw [HG1.out]; simp, by simp, HB8⟩
              case measure => omega
end Go.Proofs.Ygcfah
