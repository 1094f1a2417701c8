/- tree.Norm. -/
import Derived.Test.YgcfahTns
import Derived.Test.YgcfahTrm
import Derived.BigRegion
import Derived.Deep.RegionWith
import Derived.Deep.RegionHeld3
import Derived.Deep.DeepCutAuto
namespace Go.Proofs.Ygcfah
open Go.RowKit
set_option linter.unusedVariables false
set_option linter.unusedSimpArgs false
theorem putF_self {α : Type} (f : Nat → α) (k : Nat) (v : α) (h : v = f k) : putF f k v = f := by
  funext x
  unfold putF
  by_cases hx : x = k
  · rw [if_pos hx, h, hx]
  · rw [if_neg hx]
set_option maxRecDepth 100000 in
set_option maxHeartbeats 16000000 in
theorem norm_main2 (tb b off n cap r : Nat) (nd : Nat → NodeC) : NormSays2 tb b off n cap nd r := by
  intro w ht ht2 hr hC
  have hlim := hC.1
  have hT : Tok n nd := ⟨fun x hx => (hC.2.1 x hx).1, fun x hx => (hC.2.1 x hx).2⟩
  have hrn : r < n := by have := hlim.2.2; omega
  have hn := hlim.1
  have HCK := check_main tb b off n cap (r : Nat) nd w ht ht2 hr hlim
  rw [pB_true hC] at HCK
  have HCK2 : Hid _ := HCK
  have HR : Hid (NCells w b off n nd) := hr
  have HT : Hid (Tok n nd) := hT
  have HC : Hid _ := hC
  have hr1 : ((r : Int) == -1) = false := by simp
  have hkr := hT.kl hrn
  clear HCK hr hC hT hlim
  go_enter Fahg.func25, Fahg.ntmps25
  go_wp2_with fail
  refine Calls.mono HCK2.out ?_
  rintro e w1 ⟨rfl, hb1⟩
  have HB1 : Hid _ := hb1
  have t0 := Below.kept hb1 ht
  have t1 := Below.kept hb1 ht2
  have htb : tb < w1.heap.size := World.block_lt_of_cell? w1 _ t0
  clear hb1 HCK2
  have HST : Hid _ := NMem.start w w1 HB1.out (fun _ => default)
  have HNB : Hid (Below w1.heap.size w1 (newWorld w1)) := by
    unfold newWorld
    exact below_alloc (below_alloc (below_alloc (below_alloc (below_alloc (Below.refl _ _) (Nat.le_refl _) _) (Nat.le_refl _) _) (Nat.le_refl _) _) (Nat.le_refl _) _) (Nat.le_refl _) _
  have HNW : Hid (newWorld w1 = ((((w1.alloc (.cells #[.int .u8 0, .int .u8 0, .slice none 0 0, .slice none 0 0] 61)).alloc (.cells #[.slice (some ⟨w1.heap.size, 0, none⟩) 1 1, .int .i16 0] 53)).alloc (.cells Fahg.zeroCells158 158)).alloc (.cells Fahg.zeroCells159 159)).alloc (.cells Fahg.zeroCells159 159)) := rfl
  go_upto_region 6 with fail
  rw [← HNW.out]
  generalize newWorld w1 = w2 at *
  obtain ⟨h, hh⟩ : ∃ h, h = w1.heap.size := ⟨_, rfl⟩
  rw [← hh] at HST ⊢
  have y0 := Below.kept HNB.out t0
  have y1 := Below.kept HNB.out t1
  have a0 := HST.out.aF.c 0 (by omega)
  have z0 := HST.out.aF.z 0 (by omega)
  have hO1 : h + 1 = h + 1 := rfl
  obtain ⟨O, hO⟩ : ∃ O, O = h + 1 := ⟨_, rfl⟩
  obtain ⟨F, hF⟩ : ∃ F, F = h + 2 := ⟨_, rfl⟩
  obtain ⟨Dd, hD⟩ : ∃ Dd, Dd = h + 3 := ⟨_, rfl⟩
  obtain ⟨Pp, hP⟩ : ∃ Pp, Pp = h + 4 := ⟨_, rfl⟩
  rw [show h + 1 + 1 + 1 + 1 = h + 4 from rfl, show h + 1 + 1 + 1 = h + 3 from rfl, show h + 1 + 1 = h + 2 from rfl, ← hO, ← hF, ← hD, ← hP]
  rw [← hO, ← hF, ← hD, ← hP] at HST
  rw [← hF] at a0 z0
  have HST1 : Hid _ := HST.out.setF (x := 0) (by omega) r
  clear hh hO hF hD hP HNW HNB
  have tb2 : tb ≠ F := by
    intro e
    have := HST.out.bF
    have h1 : tb < w.heap.size := World.block_lt_of_cell? w _ ht
    omega
  go_upto_region 7 with fail
  generalize w2.setCell ⟨F, 0, none⟩ (.int .i16 ((r : Nat) : Int)) = w3 at *
  clear HST y0 y1 a0 z0 t0 t1 hO1 tb2 htb
  have y0 := Below.kept HST1.out.bel ht
  have y1 := Below.kept HST1.out.bel ht2
  obtain ⟨td, htd⟩ : ∃ td, td = trimC 0 (nd r).dz (nd r).dL := ⟨_, rfl⟩
  obtain ⟨tp, htp⟩ : ∃ tp, tp = trimC (-1) (nd r).kz (nd r).kL := ⟨_, rfl⟩
  have HTR : Hid (∀ W, Below w.heap.size w W → Calls Fahg.prog 82 #[.pointer (some ⟨b, off + r * 4, none⟩)] W fun e w' => e = .returned (.tuple #[.int .i64 ((td : Nat) : Int), .int .i64 ((tp : Nat) : Int)]) ∧ Below W.heap.size W w') := by
    intro W hW
    obtain ⟨g0, g1, g2, g3, g4⟩ := NCells.below HR.out hW r hrn
    rw [htd, htp]
    exact trimmed_any b (off + r * 4) (nd r) W g0 (by omega) (by omega) g3 g4
  have HTD : Hid _ := htd
  have HTP : Hid _ := htp
  clear htd htp
  have hDP : Dd ≠ Pp := HST1.out.ne.2.2.2.2.2.1
  have hPD : Pp ≠ Dd := fun e => hDP e.symm
  go_cut [3] (fun X wc => X = .pointer (some ⟨O, 0, none⟩) ∧ Hid (NMem w wc O F Dd Pp h 1 1 0 #[.int .u8 0, .int .u8 0, .slice none 0 0, .slice none 0 0] (putF (fun _ => 0) 0 r) (putF (fun _ => 0) 0 td) (putF (fun _ => 0) 0 tp) (fun _ => default)))
  case first =>
    as_aux_lemma =>
      --[A1
      have tD : tb ≠ Dd := by
        intro e
        have := HST1.out.bD
        have h1 : tb < w.heap.size := World.block_lt_of_cell? w _ ht
        omega
      have tP : tb ≠ Pp := by
        intro e
        have := HST1.out.bP
        have h1 : tb < w.heap.size := World.block_lt_of_cell? w _ ht
        omega
      go_region_held3 (fun W => W.cell? ⟨tb, 0, none⟩ = some (.slice (some ⟨b, off, none⟩) n cap) ∧ W.cell? ⟨tb, 1, none⟩ = some (.int .i16 ((r : Nat) : Int))) (first | (go_keep; done) | (refine ⟨?_, ?_⟩ <;> (repeat rw [World.cell?_setCell_other _ _ _ _ (by intro e; injection e; omega)]) <;> assumption))
        (first | (go_at_call 82; refine Calls.mono (HTR.out _ (by first | exact HST1.out.bel.drew | exact HST1.out.bel)) ?_; rintro e wJ ⟨rfl, hbJ⟩; have HJ : Hid (Below w3.heap.size w3 wJ) := (Below.drew (Below.refl _ _)).trans hbJ; have k0 : wJ.cell? ⟨tb, 0, none⟩ = some (.slice (some ⟨b, off, none⟩) n cap) := Below.kept HJ.out y0; have k1 : wJ.cell? ⟨tb, 1, none⟩ = some (.int .i16 ((r : Nat) : Int)) := Below.kept HJ.out y1; have j0 : wJ.cell? ⟨Dd, 0, none⟩ = some (.int .i64 0) := (HST1.out.below HJ.out).aD.c 0 (by omega); have j1 : wJ.frozen? ⟨Dd, 0, none⟩ = false := (HST1.out.below HJ.out).aD.z 0 (by omega); have j2 : wJ.cell? ⟨Pp, 0, none⟩ = some (.int .i64 0) := (HST1.out.below HJ.out).aP.c 0 (by omega); have j3 : wJ.frozen? ⟨Pp, 0, none⟩ = false := (HST1.out.below HJ.out).aP.z 0 (by omega); clear hbJ))
      all_goals go_wp2_with fail
      all_goals go_meet
      all_goals first
        | exact ⟨rfl, ((HST1.out.below HJ.out).setD (by omega) _).setP (by omega) _⟩
        | exact ⟨rfl, ((HST1.out.below HJ.out).setP (by omega) _).setD (by omega) _⟩
      --]
  as_aux_lemma =>
    obtain ⟨rfl, HM⟩ := hcut
    clear HST1 y0 y1 HTR
    obtain ⟨CR, hCR⟩ : ∃ CR, CR = cnr nd r := ⟨_, rfl⟩
    have HCR : Hid _ := hCR
    have hpw : pwr nd r 1 false < 1000 := by
      rcases HC.out.2.2.2 with h | h
      · omega
      · rw [Int.toNat_natCast] at h; omega
    have hCn : CR ≤ n := by rw [hCR]; exact cn_root_le HC.out.2.2.1 HT.out hrn hpw
    have HQ0 : Hid (Qe n nd 1 (putF (fun _ => 0) 0 r) (putF (fun _ => 0) 0 td) (putF (fun _ => 0) 0 tp) (fun _ => false)) := Qe.start HT.out hrn hpw _ _ _ _ rfl rfl HTD.out HTP.out
    clear hCR
    go_wp2_with fail
    go_loopg [7] CR (fun k I wr => ∃ (i N s cp : Nat) (cur : Array Value) (src gD gP sD sP : Nat → Nat) (el : Nat → Bool) (nu : Nat → NodeC), i + k = CR ∧ I = .int .i64 (i : Nat) ∧ Hid (NMem w wr O F Dd Pp s N cp i cur src gD gP nu) ∧ Hid (Out n nd r CR i N src sD sP gD gP el nu))
    case atStart => exact ⟨0, 1, h, 1, _, _, _, _, _, _, fun _ => false, _, by omega, rfl, HM, Out.start HQ0.out HCR.out rfl rfl⟩
    clear HM HQ0
    obtain ⟨i, N, s, cp, cur, src, gD, gP, sD, sP, el, nu, hik, rfl, HM, HOUT⟩ := hrel
    have o0 : wr.cell? ⟨O, 0, none⟩ = some (.slice (some ⟨s, 0, none⟩) N cp) := cell_of_heap HM.out.hO rfl
    by_cases hiN : i < N
    case neg =>
      as_aux_lemma =>
        --[A2
        have hiN2 : i = N := by have := HOUT.out.iN; omega
        have HRES : Hid (NormRes2 n nd r wr (.returned (.pointer (some ⟨O, 0, none⟩)))) := by
          subst hiN2
          have hNC : i = CR := by have := HOUT.out.sum; rw [Nat.sub_self] at this; exact this
          have hO := HOUT.out
          rw [← hNC] at hO
          refine NormRes2.mk O s i cp nu src sD sP gD gP el (by omega) (by rw [hNC]; exact HCR.out) hO o0 (cell_of_heap HM.out.hO rfl) ?_
          intro c hc
          obtain ⟨g0, g1, g2, g3, g4⟩ := HM.out.nodes c hc
          rw [Nat.zero_add]
          exact ⟨g0, cell_of_heap HM.out.hs g1, cell_of_heap HM.out.hs g2, cell_of_heap HM.out.hs g3, cell_of_heap HM.out.hs g4⟩
        clear hiN2
        go_wp2_with fail
        exact bodyPost_ret (v := .pointer (some ⟨O, 0, none⟩)) (by simp [results, Fahg.results25]) rfl ⟨HRES.out, HM.out.bel⟩
        --]
    as_aux_lemma =>
      have hN512 : N ≤ 512 := by
        have h1 := qS_ge (nd := nd) (src := src) (N - i) i fun k _ hk => HOUT.out.qe.one HT.out (by omega)
        have h2 := HOUT.out.sum
        omega
      have hqn := HOUT.out.qe.lt i hiN
      obtain ⟨q, hq⟩ : ∃ q, q = src i := ⟨_, rfl⟩
      have HQI : Hid _ := hq
      rw [← hq] at hqn
      have f0 : wr.cell? ⟨F, i, none⟩ = some (.int .i16 ((q : Nat) : Int)) := by rw [hq]; exact HM.out.aF.c i (by omega)
      clear hq
      have y0 := Below.kept HM.out.bel ht
      obtain ⟨n0, n1, n2, n3, n4⟩ := NCells.below HR.out HM.out.bel q hqn
      obtain ⟨kb1, kb2⟩ := n0.k
      obtain ⟨cb1, cb2⟩ := n0.c
      have hq128 := HT.out.kl hqn
      clear n0
      go_wp2_with fail
      go_quiet (fail)
      have HM1 : Hid _ := HM.out.below (wr' := wr.drewN nq) (below_drewN' (Below.refl _ _) nq)
      have HB1x : Hid (Below w.heap.size w (wr.drewN nq)) := below_drewN' HM.out.bel nq
      generalize wr.drewN nq = w4 at *
      clear HM o0 f0 y0 n1 n2 n3 n4
      obtain ⟨_, n1, n2, n3, n4⟩ := NCells.below HR.out HB1x.out q hqn
      have y0 := Below.kept HB1x.out ht
      have hbb : b < w4.heap.size := World.block_lt_of_cell? w4 _ n1
      have HG5 : Hid (∀ C : Array Value, NMem w ((w4.alloc (.cells C 61)).drew) O F Dd Pp s N cp i cur src gD gP nu ∧ ((w4.alloc (.cells C 61)).drew).heap[w4.heap.size]? = some (.cells C 61 (0, 0)) ∧ Below w.heap.size w ((w4.alloc (.cells C 61)).drew) ∧ w4.heap.size < ((w4.alloc (.cells C 61)).drew).heap.size) := by
        intro C
        have hbb : Below w4.heap.size w4 ((w4.alloc (.cells C 61)).drew) := (below_alloc (Below.refl _ _) (Nat.le_refl _) _).drew
        refine ⟨HM1.out.below hbb, alloc_new w4 _, HB1x.out.trans (hbb.mono HB1x.out.size), ?_⟩
        show w4.heap.size < (w4.alloc (.cells C 61)).heap.size
        rw [World.size_alloc]
        omega
      go_wp2_with fail
      go_region
      have hx := HG5.out #[.int .u8 (nd q).kind, .int .u8 (nd q).code, .slice none 0 0, .slice none 0 0]
      generalize (w4.alloc (.cells #[.int .u8 (nd q).kind, .int .u8 (nd q).code, .slice none 0 0, .slice none 0 0] 61)).drew = w5 at *
      obtain ⟨hm5, hG, hb5, hGl⟩ := hx
      have hGb : w.heap.size ≤ w4.heap.size := HB1x.out.size
      have HGA : Hid (O < w4.heap.size ∧ F < w4.heap.size ∧ Dd < w4.heap.size ∧ Pp < w4.heap.size ∧ s ≠ w4.heap.size ∧ w.heap.size ≤ w4.heap.size) := by
        have k1 := HM1.out.slt
        exact ⟨k1.2, HM1.out.aF.lt (by omega), HM1.out.aD.lt (by omega), HM1.out.aP.lt (by omega), by omega, hGb⟩
      have HGR : Hid (∀ c, c < i → (∀ x, (nu c).dA = some x → x.block < w4.heap.size) ∧ (∀ x, (nu c).kA = some x → x.block < w4.heap.size)) := by
        intro c hc
        have := HM1.out.rows c hc
        exact ⟨fun x hx => (this.1 x hx).1, fun x hx => (this.2 x hx).1⟩
      have HM5 : Hid _ := hm5
      have HHG : Hid _ := hG
      have HB5 : Hid _ := hb5
      clear HG5 hm5 hG hb5 HM1 HB1x y0 n1 n2 n3 n4 hbb
      generalize w4.heap.size = G at *
      obtain ⟨_, n1, n2, n3, n4⟩ := NCells.below HR.out HB5.out q hqn
      have y0 := Below.kept HB5.out ht
      have d0 := HM5.out.aD.c i (by omega)
      have d1 := HM5.out.aD.z i (by omega)
      have p0 := HM5.out.aP.c i (by omega)
      have p1 := HM5.out.aP.z i (by omega)
      have hDP2 : Dd ≠ Pp := HM5.out.ne.2.2.2.2.2.1
      have bD : b ≠ Dd := by have := HM5.out.bD; have h1 : b < w.heap.size := World.block_lt_of_cell? w _ (HR.out q hqn).2.1; omega
      have bP : b ≠ Pp := by have := HM5.out.bP; have h1 : b < w.heap.size := World.block_lt_of_cell? w _ (HR.out q hqn).2.1; omega
      obtain ⟨D', hD'⟩ : ∃ D', D' = if (nd q).kind = 2 then (nd q).dL else gD i := ⟨_, rfl⟩
      obtain ⟨P', hP'⟩ : ∃ P', P' = if (nd q).kind = 2 then (nd q).kL else gP i := ⟨_, rfl⟩
      have HD' : Hid _ := hD'
      have HP' : Hid _ := hP'
      clear hD' hP'
      go_upto_if 81 with fail
      go_cut [3] (fun X wc => X = .pointer (some ⟨O, 0, none⟩) ∧ Hid (NMem w wc O F Dd Pp s N cp i cur src (putF gD i D') (putF gP i P') nu) ∧ Hid (wc.heap[G]? = some (.cells #[.int .u8 (nd q).kind, .int .u8 (nd q).code, .slice none 0 0, .slice none 0 0] 61 (0, 0))))
      case first =>
        --[A3
        by_cases hk2 : (nd q).kind = 2
        · as_aux_lemma =>
            have k2 : ((nd q).kind == 2) = true := by simp [hk2]
            have e1 := HD'.out
            have e2 := HP'.out
            rw [if_pos hk2] at e1 e2
            have hG1 : G ≠ Dd := by have := HGA.out.2.2.1; omega
            have hG2 : G ≠ Pp := by have := HGA.out.2.2.2.1; omega
            have HE1 : Hid _ := e1
            have HE2 : Hid _ := e2
            clear hk2 e1 e2
            go_wp2_with fail
            go_region
            all_goals go_wp2_with fail
            all_goals go_meet
            all_goals rw [HE1.out, HE2.out]
            all_goals first
              | exact ⟨rfl, ((HM5.out.setD (by omega) _).setP (by omega) _).below (Below.drew (Below.refl _ _)), ((heap_far hG2 _).trans ((heap_far hG1 _).trans HHG.out))⟩
              | exact ⟨rfl, ((HM5.out.setP (by omega) _).setD (by omega) _).below (Below.drew (Below.refl _ _)), ((heap_far hG1 _).trans ((heap_far hG2 _).trans HHG.out))⟩
        · as_aux_lemma =>
            have k2 : ((nd q).kind == 2) = false := by simp [hk2]
            have e1 := HD'.out
            have e2 := HP'.out
            rw [if_neg hk2] at e1 e2
            have e3 : putF gD i D' = gD := putF_self gD i D' e1
            have e4 : putF gP i P' = gP := putF_self gP i P' e2
            have HE3 : Hid _ := e3
            have HE4 : Hid _ := e4
            clear hk2 e1 e2 e3 e4
            go_wp2_with fail
            go_meet
            case rel => exact ⟨rfl, by rw [HE3.out, HE4.out]; exact HM5.out, HHG⟩
        --]
      as_aux_lemma =>
        obtain ⟨rfl, HM6, HG6⟩ := hcut
        obtain ⟨w6, hw6⟩ : ∃ w6, w6 = wc := ⟨_, rfl⟩
        subst hw6
        clear HM5 HHG HB5 n1 n2 n3 n4 y0 d0 d1 p0 p1
        obtain ⟨Di, hDi⟩ : ∃ Di, Di = gD i := ⟨_, rfl⟩
        obtain ⟨Pi, hPi⟩ : ∃ Pi, Pi = gP i := ⟨_, rfl⟩
        have HIN : Hid (Inn n nd r CR i 0 N src sD sP (putF gD i D') (putF gP i P') el nu (fun _ => 0) q Di Pi) := by
          rw [HQI.out, hDi, hPi]; exact Inn.start HT.out HOUT.out hiN D' P' _
        rw [← hDi] at HD'
        rw [← hPi] at HP'
        have hsec := HIN.out.secs HT.out HD'.out HP'.out
        have hD128 := hsec.1
        have hP128 := hsec.2.1
        clear hsec HOUT HQI hDi hPi
        have HPi : Hid (putF gP i P' i = P') := by show putF gP i P' i = P'; simp [putF]
        obtain ⟨_, _, _, n3, _⟩ := NCells.below HR.out HM6.out.bel q hqn
        have d0 : w6.cell? ⟨Dd, i, none⟩ = some (.int .i64 ((D' : Nat) : Int)) := by have := HM6.out.aD.c i (by omega); simpa [putF] using this
        have g2 : w6.cell? ⟨G, 2, none⟩ = some (.slice none 0 0) := cell_of_heap HG6.out rfl
        have HSZ : Hid (∀ W, Below w6.heap.size w6 W → Calls Fahg.prog 83 #[.slice (nd q).dA (nd q).dL (nd q).dC, .int .i64 ((D' : Nat) : Int)] W fun e w' => ∃ dA, e = .returned (.slice dA D' D') ∧ Below w6.heap.size w6 w' ∧ IRow w' .u64 dA D' (szw (nd q).dz (nd q).dL) ∧ (∀ y, dA = some y → w6.heap.size ≤ y.block ∧ y.block < w'.heap.size) ∧ (dA = none → D' = 0)) := by
          intro W hW
          obtain ⟨k0, _⟩ := NCells.below (NCells.below HR.out HM6.out.bel) hW q hqn
          refine Calls.mono (sized_any (nd q).dA (nd q).dL (nd q).dC D' (nd q).dz W k0.d hD128) ?_
          rintro e w' ⟨dA, rfl, hb, hr, hB, hn⟩
          exact ⟨dA, rfl, hW.trans (hb.mono hW.size), hr, fun y hy => ⟨Nat.le_trans hW.size (hB y hy).1, (hB y hy).2⟩, hn⟩
        go_upto_region 15 with fail
        go_cut [3] (fun X wc => X = .pointer (some ⟨O, 0, none⟩) ∧ ∃ dA, Hid (RMem w wc O F Dd Pp s N cp i cur src (putF gD i D') (putF gP i P') nu G (nd q).kind (nd q).code dA D' (szw (nd q).dz (nd q).dL) (.slice none 0 0) 0 (fun _ => 0)))
        case first =>
          as_aux_lemma =>
            --[B3
            have i0 : (0 : Int) ≤ ((i : Nat) : Int) := by omega
            have i1 : ((i : Nat) : Int) < 512 := by omega
            have hGD2 : Dd ≠ G := by have := HGA.out.2.2.1; omega
            have hbD2 : b ≠ G := by have := HGA.out.2.2.2.2.2; have h1 : b < w.heap.size := World.block_lt_of_cell? w _ (HR.out q hqn).2.1; omega
            go_region_held3 (fun W => W.cell? ⟨b, off + q * 4 + 2, none⟩ = some (.slice (nd q).dA (nd q).dL (nd q).dC) ∧ W.cell? ⟨Dd, i, none⟩ = some (.int .i64 ((D' : Nat) : Int))) (first | (go_keep; done) | (refine ⟨?_, ?_⟩ <;> (repeat rw [World.cell?_setCell_other _ _ _ _ (by intro e; injection e; omega)]) <;> assumption))
              (first | (go_at_call 83; refine Calls.mono (HSZ.out _ (by first | exact (Below.refl _ _).drew | exact Below.refl _ _)) ?_; rintro e wJ ⟨dA, rfl, hbJ, hrJ, hBJ, hnJ⟩; have HJ : Hid (Below w6.heap.size w6 wJ) := hbJ; have HRJ : Hid _ := hrJ; have HBJ : Hid _ := hBJ; have HNJ : Hid _ := hnJ; have k0 : wJ.cell? ⟨b, off + q * 4 + 2, none⟩ = some (.slice (nd q).dA (nd q).dL (nd q).dC) := Below.kept HJ.out n3; have k1 : wJ.cell? ⟨Dd, i, none⟩ = some (.int .i64 ((D' : Nat) : Int)) := Below.kept HJ.out d0; have j0 : wJ.cell? ⟨G, 2, none⟩ = some (.slice none 0 0) := Below.kept HJ.out g2; have j1 : wJ.frozen? ⟨G, 2, none⟩ = false := frozen_of_heap ((HJ.out.block G (Array.getElem?_eq_some_iff.1 HG6.out).1).trans HG6.out) 2; clear hbJ hrJ hBJ hnJ))
            all_goals go_wp2_with fail
            all_goals go_meet
            all_goals exact ⟨rfl, dA, RMem.start HM6.out HG6.out HGA.out HGR.out HJ.out HRJ.out HBJ.out HNJ.out _⟩
            --]
        as_aux_lemma =>
          obtain ⟨rfl, dA, HR7⟩ := hcut
          obtain ⟨w7, hw7⟩ : ∃ w7, w7 = wc := ⟨_, rfl⟩
          subst hw7
          clear HM6 HG6 HSZ d0 g2 n3 HGA HGR
          obtain ⟨DZ, hDZ⟩ : ∃ DZ, DZ = szw (nd q).dz (nd q).dL := ⟨_, rfl⟩
          rw [← hDZ] at HR7
          have HDZ : Hid _ := hDZ
          clear hDZ
          obtain ⟨_, n1, n2, n3, n4⟩ := NCells.below HR.out HR7.out.m.bel q hqn
          go_upto_region 17 with fail
          go_cut [12] (fun X wc => X = .bool (inl (nd q)) ∧ wc = w7)
          case first =>
            --[B4
            by_cases hk2 : (nd q).kind = 2
            · by_cases hk7 : (nd q).code = 7
              · as_aux_lemma =>
                  have k2 : ((nd q).kind == 2) = true := by simp [hk2]
                  have k7 : ((nd q).code == 7) = true := by simp [hk7]
                  have HIL : Hid (inl (nd q) = true) := by show inl (nd q) = true; simp [inl, hk2, hk7]
                  clear hk2 hk7
                  go_wp2_with fail
                  go_meet
                  case rel => exact ⟨by rw [HIL.out], rfl⟩
              · as_aux_lemma =>
                  have k2 : ((nd q).kind == 2) = true := by simp [hk2]
                  have k7 : ((nd q).code == 7) = false := by simp [hk7]
                  have HIL : Hid (inl (nd q) = false) := by show inl (nd q) = false; simp [inl, hk2, hk7]
                  clear hk2 hk7
                  go_wp2_with fail
                  go_meet
                  case rel => exact ⟨by rw [HIL.out], rfl⟩
            · as_aux_lemma =>
                have k2 : ((nd q).kind == 2) = false := by simp [hk2]
                have HIL : Hid (inl (nd q) = false) := by show inl (nd q) = false; simp [inl, hk2]
                clear hk2
                go_wp2_with fail
                go_meet
                case rel => exact ⟨by rw [HIL.out], rfl⟩
            --]
          as_aux_lemma =>
            obtain ⟨rfl, rfl⟩ := hcut
            obtain ⟨IL, hIL⟩ : ∃ IL, IL = inl (nd q) := ⟨_, rfl⟩
            rw [← hIL]
            have HIL : Hid _ := hIL
            clear hIL
            obtain ⟨d0, hd0⟩ : ∃ d0 : Nat, d0 = if IL = true then ev2 nd q else 0 := ⟨_, rfl⟩
            obtain ⟨p0, hp0⟩ : ∃ p0 : Nat, p0 = if IL = true then evP nd (nd q).kz (nd q).kL else 0 := ⟨_, rfl⟩
            have HD0 : Hid _ := hd0
            have HP0 : Hid _ := hp0
            clear hd0 hp0
            have HEV : Hid (IL = true → ∀ W, Below w.heap.size w W → Calls Fahg.prog 84 #[.pointer (some ⟨tb, 0, none⟩), .pointer (some ⟨b, off + q * 4, none⟩)] W fun e w' => e = .returned (.tuple #[.int .i64 (ev2 nd q : Nat), .int .i64 (evP nd (nd q).kz (nd q).kL : Nat)]) ∧ Below W.heap.size W w') := by
              intro hI W hW
              have hk27 : (nd q).kind = 2 ∧ (nd q).code = 7 := by have := HIL.out; rw [hI] at this; have h2 := this.symm; unfold inl at h2; simpa using h2
              exact evened_any tb b off n cap nd q W (Below.kept hW ht) (NCells.below HR.out hW) hqn hn (HT.out.el hqn hk27.1 hk27.2) hq128.1
            go_upto_if 117 with fail
            go_cut [10, 11] (fun X Y wc => X = .int .i64 ((d0 : Nat) : Int) ∧ Y = .int .i64 ((p0 : Nat) : Int) ∧ Hid (RMem w wc O F Dd Pp s N cp i cur src (putF gD i D') (putF gP i P') nu G (nd q).kind (nd q).code dA D' DZ (.slice none 0 0) 0 (fun _ => 0)))
            case first =>
              --[B5
              cases IL
              · as_aux_lemma =>
                  have e1 := HD0.out
                  have e2 := HP0.out
                  simp only [Bool.false_eq_true, if_false] at e1 e2
                  have HE1 : Hid _ := e1
                  have HE2 : Hid _ := e2
                  clear e1 e2
                  go_wp2_with fail
                  go_meet
                  case rel => exact ⟨by rw [HE1.out]; rfl, by rw [HE2.out]; rfl, HR7⟩
              · as_aux_lemma =>
                  have e1 := HD0.out
                  have e2 := HP0.out
                  simp only [if_true] at e1 e2
                  have HE1 : Hid _ := e1
                  have HE2 : Hid _ := e2
                  clear e1 e2
                  go_wp2_with fail
                  refine Calls.mono (HEV.out (by simp) _ HR7.out.m.bel) ?_
                  rintro e w8 ⟨rfl, hb8⟩
                  have HB8 : Hid _ := hb8
                  clear hb8
                  go_wp2_with fail
                  go_meet
                  case rel => exact ⟨by rw [HE1.out], by rw [HE2.out], HR7.out.below HB8.out⟩
              --]
            as_aux_lemma =>
              obtain ⟨rfl, rfl, HR8⟩ := hcut
              clear HR7 n1 n2 n3 n4 HEV
              go_wp2_with fail
              go_loopg [13] P' (fun k J wx => ∃ (j N s cp : Nat) (cur : Array Value) (src gD gP sD sP : Nat → Nat) (el : Nat → Bool) (ku : Nat → Int) (kv : Value), j + k = P' ∧ J = .int .i64 (j : Nat) ∧ Hid (RMem w wx O F Dd Pp s N cp i cur src gD gP nu G (nd q).kind (nd q).code dA D' DZ kv j ku) ∧ Hid (Inn n nd r CR i j N src sD sP gD gP el nu ku q Di Pi) ∧ Hid (gP i = P'))
              case atStart => exact ⟨0, N, s, cp, cur, src, _, _, sD, sP, el, _, _, by omega, rfl, HR8, HIN, HPi⟩
              clear HR8 HIN HPi hiN hN512
              obtain ⟨j, N2, s2, cp2, cur2, src2, gD2, gP2, sD2, sP2, el2, ku, kv, hjk, rfl, HRX, HIX, HPX⟩ := hrel
              obtain ⟨kA, kC, rfl⟩ := HRX.out.kvs
              have p9 : wr.cell? ⟨Pp, i, none⟩ = some (.int .i64 ((P' : Nat) : Int)) := by have := HRX.out.m.aP.c i (by have := HIX.out.iN; have := (HIX.out.lt HT.out).1; omega); rw [HPX.out] at this; exact this
              by_cases hjP : j < P'
              case neg =>
                as_aux_lemma =>
                  --[C1
                  have hjE : j = P' := by omega
                  have hi2 := HIX.out.iN
                  have hN2 : N2 ≤ 512 := by have := (HIX.out.lt HT.out).1; omega
                  obtain ⟨y, cur3, y1, y2, y3, y4, y5, y6, hm⟩ := HRX.out.fill hi2 ⟨kb1, kb2⟩ ⟨cb1, cb2⟩ hD128 (HIX.out.wf hN2)
                  have HO2 : Hid (Out n nd r CR (i + 1) N2 src2 sD2 sP2 gD2 gP2 el2 (putF nu i y)) := HIX.out.done HT.out HD'.out (by rw [hjE]; exact HP'.out) y1 y2 y3 (by rw [y4]; exact HDZ.out) y5 y6
                  have HM9 : Hid _ := hm
                  have hiC : i < CR := by have := (HIX.out.lt HT.out).1; omega
                  have o0 : wr.cell? ⟨O, 0, none⟩ = some (.slice (some ⟨s2, 0, none⟩) N2 cp2) := cell_of_heap HRX.out.m.hO rfl
                  have q0 : wr.cell? ⟨G, 0, none⟩ = some (.int .u8 (nd q).kind) := cell_of_heap HRX.out.hG rfl
                  have q1 : wr.cell? ⟨G, 1, none⟩ = some (.int .u8 (nd q).code) := cell_of_heap HRX.out.hG rfl
                  have q2 : wr.cell? ⟨G, 2, none⟩ = some (.slice dA D' D') := cell_of_heap HRX.out.hG rfl
                  have q3 : wr.cell? ⟨G, 3, none⟩ = some (.slice kA j kC) := cell_of_heap HRX.out.hG rfl
                  have hcs : i * 4 + 4 ≤ cur2.size := by rw [HRX.out.m.sz]; have := HRX.out.m.nc; omega
                  obtain ⟨v0, r0⟩ : ∃ v, wr.cell? ⟨s2, i * 4, none⟩ = some v := ⟨_, cell_of_heap HRX.out.m.hs (Array.getElem?_eq_getElem (by omega))⟩
                  obtain ⟨v1, r1⟩ : ∃ v, wr.cell? ⟨s2, i * 4 + 1, none⟩ = some v := ⟨_, cell_of_heap HRX.out.m.hs (Array.getElem?_eq_getElem (by omega))⟩
                  obtain ⟨v2, r2⟩ : ∃ v, wr.cell? ⟨s2, i * 4 + 2, none⟩ = some v := ⟨_, cell_of_heap HRX.out.m.hs (Array.getElem?_eq_getElem (by omega))⟩
                  obtain ⟨v3, r3⟩ : ∃ v, wr.cell? ⟨s2, i * 4 + 3, none⟩ = some v := ⟨_, cell_of_heap HRX.out.m.hs (Array.getElem?_eq_getElem (by omega))⟩
                  have z0 := frozen_of_heap HRX.out.m.hs (i * 4)
                  have z1 := frozen_of_heap HRX.out.m.hs (i * 4 + 1)
                  have z2 := frozen_of_heap HRX.out.m.hs (i * 4 + 2)
                  have z3 := frozen_of_heap HRX.out.m.hs (i * 4 + 3)
                  have hsG : s2 ≠ G := HRX.out.lo.2.2.2.2.1
                  have hsO : s2 ≠ O := HRX.out.m.ne.2.2.2.2.2.2.1
                  clear hm hjE y1 y2 y3 y4 y5 y6 hcs
                  go_wp2_with fail
                  go_region
                  go_wp2_with fail
                  go_roundg (CR - (i + 1))
                  case rel => exact ⟨i + 1, N2, s2, cp2, cur3, src2, gD2, gP2, sD2, sP2, el2, putF nu i y, by omega, by simp, HM9.out.below (Below.drew (Below.refl _ _)), HO2⟩
                  case measure => omega
                  --]
              as_aux_lemma =>
                have hi2 := HIX.out.iN
                have hltN := HIX.out.lt HT.out
                have hN2 : N2 ≤ 512 := by have := hltN.1; omega
                obtain ⟨m0, m1, m2, m3, m4⟩ := NCells.below HR.out HRX.out.m.bel q hqn
                have HKI : Hid (IRow wr .i16 (nd q).kA (nd q).kL (nd q).kz) := m0.i
                clear m0
                have g3 : wr.cell? ⟨G, 3, none⟩ = some (.slice kA j kC) := cell_of_heap HRX.out.hG rfl
                by_cases hjk2 : j < (nd q).kL
                case neg =>
                  as_aux_lemma =>
                    --[C2
                    obtain ⟨s9, c9', w9, hrun, c3, f3, hR'⟩ := HRX.out.kid (by omega) (-1)
                    have HRUN : Hid _ := hrun
                    have HR' : Hid _ := hR'
                    have HI' : Hid _ := HIX.out.null (fun h => absurd h hjk2)
                    clear hR' hrun
                    go_wp2_with (at_builtin; refine wpList_app2 rfl _ _ _ rfl _ _ _ _ rfl rfl HRUN.out ?_)
                    go_roundg (gk - 1)
                    case rel => exact ⟨j + 1, N2, s2, cp2, cur2, src2, gD2, gP2, sD2, sP2, el2, _, _, by omega, by simp, HR', HI', HPX⟩
                    case measure => omega
                    --]
                rcases HKI.out with h0 | ⟨b2, off2, e2, hc2⟩
                · omega
                have c9 := (hc2 j hjk2).1
                rw [e2] at m4
                clear hc2 HKI
                by_cases hm : (nd q).kz j = -1
                · as_aux_lemma =>
                    --[C3
                    rw [hm] at c9
                    obtain ⟨s9, c9', w9, hrun, c3, f3, hR'⟩ := HRX.out.kid (by omega) (-1)
                    have HRUN : Hid _ := hrun
                    have HR' : Hid _ := hR'
                    have HI' : Hid _ := HIX.out.null (fun h => hm)
                    clear hR' hm hrun
                    go_wp2_with (at_builtin; refine wpList_app2 rfl _ _ _ rfl _ _ _ _ rfl rfl HRUN.out ?_)
                    go_roundg (gk - 1)
                    case rel => exact ⟨j + 1, N2, s2, cp2, cur2, src2, gD2, gP2, sD2, sP2, el2, _, _, by omega, by simp, HR', HI', HPX⟩
                    case measure => omega
                    --]
                as_aux_lemma =>
                  have hkid := HT.out.kid hqn hjk2 hm
                  obtain ⟨z, hz⟩ : ∃ z : Nat, z = ((nd q).kz j).toNat := ⟨_, rfl⟩
                  rw [← hz] at hkid
                  have hzz : (nd q).kz j = z := hkid.2.2.symm
                  rw [hzz] at c9
                  have hz1 : ((z : Int) == -1) = false := by simp
                  have hzn : z < n := hkid.2.1
                  have hNC : N2 < 512 := by have := hltN.2 hjk2 hm; omega
                  obtain ⟨td, htd⟩ : ∃ td, td = trimC 0 (nd z).dz (nd z).dL := ⟨_, rfl⟩
                  obtain ⟨tp, htp⟩ : ∃ tp, tp = trimC (-1) (nd z).kz (nd z).kL := ⟨_, rfl⟩
                  obtain ⟨D3, hD3⟩ : ∃ D3 : Nat, D3 = if IL = true then d0 else td := ⟨_, rfl⟩
                  obtain ⟨P3, hP3⟩ : ∃ P3 : Nat, P3 = if IL = true then p0 else tp := ⟨_, rfl⟩
                  have HSEC : Hid (Sec nd z (inl (nd q)) D3 P3 ∧ (inl (nd q) = true → D3 = ev2 nd q ∧ P3 = evP nd (nd q).kz (nd q).kL)) := by
                    refine sec_any HT.out hqn hjk2 hm hz ?_ ?_
                    · rw [hD3, htd, HD0.out, ← HIL.out]; cases IL <;> rfl
                    · rw [hP3, htp, HP0.out, ← HIL.out]; cases IL <;> rfl
                  have HIP : Hid (∀ (gD' gP' : Nat → Nat), (∀ c, c < N2 → gD' c = gD2 c ∧ gP' c = gP2 c) → gD' N2 = D3 ∧ gP' N2 = P3 → Inn n nd r CR i (j + 1) (N2 + 1) (putF src2 N2 z) (putF sD2 N2 D3) (putF sP2 N2 P3) gD' gP' (putF el2 N2 (inl (nd q))) nu (putF ku j ((N2 : Nat) : Int)) q Di Pi) := fun gD' gP' h1 h2 => HIX.out.push HT.out hjk2 hm hz HSEC.out.1 HSEC.out.2 h1 h2
                  have HTR : Hid (∀ W, Below w.heap.size w W → Calls Fahg.prog 82 #[.pointer (some ⟨b, off + z * 4, none⟩)] W fun e w' => e = .returned (.tuple #[.int .i64 ((td : Nat) : Int), .int .i64 ((tp : Nat) : Int)]) ∧ Below W.heap.size W w') := by
                    intro W hW
                    obtain ⟨g0, g1, g2, g3, g4⟩ := NCells.below HR.out hW z hzn
                    have := HT.out.kl hzn
                    rw [htd, htp]
                    exact trimmed_any b (off + z * 4) (nd z) W g0 (by omega) (by omega) g3 g4
                  have HD3 : Hid _ := hD3
                  have HP3 : Hid _ := hP3
                  have o0 : wr.cell? ⟨O, 0, none⟩ = some (.slice (some ⟨s2, 0, none⟩) N2 cp2) := cell_of_heap HRX.out.m.hO rfl
                  have x0 := HRX.out.m.aF.c N2 hNC
                  have x1 := HRX.out.m.aF.z N2 hNC
                  have x2 := HRX.out.m.aD.c N2 hNC
                  have x3 := HRX.out.m.aD.z N2 hNC
                  have x4 := HRX.out.m.aP.c N2 hNC
                  have x5 := HRX.out.m.aP.z N2 hNC
                  obtain ⟨hne1, hne2, hne3, hne4, hne5, hne6, _⟩ := HRX.out.m.ne
                  have HRY : Hid _ := ((HRX.out.setF hNC z).setD hNC d0).setP hNC p0
                  clear hm hz hzz hkid htd htp hD3 hP3 HSEC
                  go_upto_if 174 with fail
                  generalize ((wr.setCell ⟨F, N2, none⟩ (.int .i16 ((z : Nat) : Int))).setCell ⟨Dd, N2, none⟩ (.int .i64 ((d0 : Nat) : Int))).setCell ⟨Pp, N2, none⟩ (.int .i64 ((p0 : Nat) : Int)) = w9 at *
                  clear x0 x1 x2 x3 x4 x5 o0 c9 m1 m2 m3 m4 g3 p9
                  go_cut [14] (fun X wc => X = .int .i64 ((N2 : Nat) : Int) ∧ ∃ gD3 gP3 : Nat → Nat, Hid (RMem w wc O F Dd Pp s2 N2 cp2 i cur2 (putF src2 N2 z) gD3 gP3 nu G (nd q).kind (nd q).code dA D' DZ (.slice kA j kC) j ku) ∧ Hid (∀ c, c < N2 → gD3 c = gD2 c ∧ gP3 c = gP2 c) ∧ Hid (gD3 N2 = D3 ∧ gP3 N2 = P3))
                  case first =>
                    --[C4
                    cases IL
                    · as_aux_lemma =>
                        have e1 := HD3.out
                        have e2 := HP3.out
                        simp only [Bool.false_eq_true, if_false] at e1 e2
                        have HE1 : Hid _ := e1
                        have HE2 : Hid _ := e2
                        clear e1 e2
                        have y0 := Below.kept HRY.out.m.bel ht
                        have y1 : w9.cell? ⟨F, N2, none⟩ = some (.int .i16 ((z : Nat) : Int)) := by have := HRY.out.m.aF.c N2 hNC; simpa [putF] using this
                        have i0 : (0 : Int) ≤ ((N2 : Nat) : Int) := by omega
                        have i1 : ((N2 : Nat) : Int) < 512 := by omega
                        have htbl : tb < w.heap.size := World.block_lt_of_cell? w _ ht
                        have tD : tb ≠ Dd := by have := HRY.out.m.bD; omega
                        have tP : tb ≠ Pp := by have := HRY.out.m.bP; omega
                        go_wp2_with fail
                        go_region_held3 (fun W => W.cell? ⟨tb, 0, none⟩ = some (.slice (some ⟨b, off, none⟩) n cap) ∧ W.cell? ⟨F, N2, none⟩ = some (.int .i16 ((z : Nat) : Int))) (first | (go_keep; done) | (refine ⟨?_, ?_⟩ <;> (repeat rw [World.cell?_setCell_other _ _ _ _ (by intro e; injection e; omega)]) <;> assumption))
                          (first | (go_at_call 82; refine Calls.mono (HTR.out _ (by first | exact HRY.out.m.bel.drew | exact HRY.out.m.bel)) ?_; rintro e wJ ⟨rfl, hbJ⟩; have HJ : Hid (Below w9.heap.size w9 wJ) := (Below.drew (Below.refl _ _)).trans hbJ; have k0 : wJ.cell? ⟨tb, 0, none⟩ = some (.slice (some ⟨b, off, none⟩) n cap) := Below.kept HJ.out y0; have k1 : wJ.cell? ⟨F, N2, none⟩ = some (.int .i16 ((z : Nat) : Int)) := Below.kept HJ.out y1; have j0 := (HRY.out.m.below HJ.out).aD.c N2 hNC; have j1 : wJ.frozen? ⟨Dd, N2, none⟩ = false := (HRY.out.m.below HJ.out).aD.z N2 hNC; have j2 := (HRY.out.m.below HJ.out).aP.c N2 hNC; have j3 : wJ.frozen? ⟨Pp, N2, none⟩ = false := (HRY.out.m.below HJ.out).aP.z N2 hNC; clear hbJ))
                        all_goals go_wp2_with fail
                        all_goals go_meet
                        all_goals first
                          | exact ⟨rfl, _, _, ((HRY.out.below HJ.out).setD hNC _).setP hNC _, fun c hc => (by have hcne : c ≠ N2 := (by omega); simp [putF, hcne]), (by show _ ∧ _; simp [putF, HE1.out, HE2.out])⟩
                          | exact ⟨rfl, _, _, ((HRY.out.below HJ.out).setP hNC _).setD hNC _, fun c hc => (by have hcne : c ≠ N2 := (by omega); simp [putF, hcne]), (by show _ ∧ _; simp [putF, HE1.out, HE2.out])⟩
                    · as_aux_lemma =>
                        have e1 := HD3.out
                        have e2 := HP3.out
                        simp only [if_true] at e1 e2
                        have HE1 : Hid _ := e1
                        have HE2 : Hid _ := e2
                        clear e1 e2
                        go_wp2_with fail
                        go_meet
                        case rel => exact ⟨rfl, _, _, HRY, fun c hc => (by have hcne : c ≠ N2 := (by omega); simp [putF, hcne]), (by show _ ∧ _; simp [putF, HE1.out, HE2.out])⟩
                    --]
                  as_aux_lemma =>
                    obtain ⟨rfl, gD3, gP3, HRZ, HG1, HG2⟩ := hcut
                    obtain ⟨w10, hw10⟩ : ∃ w10, w10 = wc := ⟨_, rfl⟩
                    subst hw10
                    have HI3 : Hid _ := HIP.out gD3 gP3 HG1.out HG2.out
                    have HP9 : Hid (gP3 i = P') := (HG1.out i hi2).2.trans HPX.out
                    clear HRY HTR HIP HD3 HP3 HG1 HG2 HRX
                    obtain ⟨s11, c11, w11, hrun, c3, f3, hR'⟩ := HRZ.out.kid (by omega) ((N2 : Nat) : Int)
                    have g3 : w10.cell? ⟨G, 3, none⟩ = some (.slice kA j kC) := cell_of_heap HRZ.out.hG rfl
                    have HR' : Hid _ := hR'
                    have HRUN : Hid _ := hrun
                    clear hR' hrun
                    go_upto_region 30 with fail
                    go_cut [3] (fun X wc => X = .pointer (some ⟨O, 0, none⟩) ∧ Hid (RMem w wc O F Dd Pp s2 N2 cp2 i cur2 (putF src2 N2 z) gD3 gP3 nu G (nd q).kind (nd q).code dA D' DZ (.slice (some ⟨s11, 0, none⟩) (j + 1) c11) (j + 1) (putF ku j ((N2 : Nat) : Int))))
                    case first =>
                      as_aux_lemma =>
                        --[C5
                        go_wp2_with (at_builtin; refine wpList_app2 rfl _ _ _ rfl _ _ _ _ rfl rfl HRUN.out ?_)
                        go_meet
                        case rel => exact ⟨rfl, HR'⟩
                        --]
                    as_aux_lemma =>
                      obtain ⟨rfl, HRW⟩ := hcut
                      obtain ⟨w12, hw12⟩ : ∃ w12, w12 = wc := ⟨_, rfl⟩
                      subst hw12
                      clear HR' HRZ HRUN c3 f3 g3
                      --[C6
                      obtain ⟨s3, cp3, cur3, w13, hrun, c3, f3, hR3⟩ := HRW.out.node (by omega) (by omega)
                      have o0 : w12.cell? ⟨O, 0, none⟩ = some (.slice (some ⟨s2, 0, none⟩) N2 cp2) := cell_of_heap HRW.out.m.hO rfl
                      have HR3 : Hid _ := hR3
                      have HRUN : Hid _ := hrun
                      clear hR3 hrun
                      go_wp2_with (at_builtin; refine wpList_app2 rfl _ _ _ rfl _ _ _ _ rfl rfl HRUN.out ?_)
                      go_roundg (gk - 1)
                      case rel => exact ⟨j + 1, N2 + 1, s3, cp3, cur3, putF src2 N2 z, gD3, gP3, putF sD2 N2 D3, putF sP2 N2 P3, putF el2 N2 (inl (nd q)), putF ku j ((N2 : Nat) : Int), _, by omega, by simp, HR3, HI3, HP9⟩
                      case measure => omega
                      --]
theorem norm_main (tb b off n cap r : Nat) (nd : Nat → NodeC) : NormSays tb b off n cap nd r := (norm_main2 tb b off n cap r nd).says
end Go.Proofs.Ygcfah
