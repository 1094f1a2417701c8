/- law.NormOnce: trees of two nodes and more. -/
import Derived.Test.YgcfahUon
import Derived.BigRegion
import Derived.Deep.RegionWith
import Derived.Deep.RegionHeld3
import Derived.Deep.DeepCutAuto
import Derived.Deep.OwnRows
namespace Go.Proofs.Ygcfah
open Go.ChangeShapes Go.WideShapes Go.ChangeAt Go.RowKit
set_option linter.unusedVariables false
set_option linter.unusedSimpArgs false
set_option maxRecDepth 100000 in
set_option maxHeartbeats 16000000 in
theorem once_many (b off n cap : Nat) (root : Int) (iv : Nat) (nd : Nat → NodeC) (w : World) (hn2 : 2 ≤ n) (hiv : iv ≤ 65535) (hr : NCells w b off n nd) (hC : CheckP n root nd) (hck : Hid (∀ tb w', w'.cell? ⟨tb, 0, none⟩ = some (.slice (some ⟨b, off, none⟩) n cap) → w'.cell? ⟨tb, 1, none⟩ = some (.int .i16 root) → Below w.heap.size w w' → (Calls Fahg.prog 23 #[.pointer (some ⟨tb, 0, none⟩)] w' fun e w'' => e = .returned (.bool true) ∧ Below w'.heap.size w' w'') ∧ (Calls Fahg.prog 25 #[.pointer (some ⟨tb, 0, none⟩)] w' fun e w'' => ∃ ub, e = .returned (.pointer (some ⟨ub, 0, none⟩)) ∧ Below w'.heap.size w' w'' ∧ NormGood w'' ub) ∧ (Calls Fahg.prog 26 #[.pointer (some ⟨tb, 0, none⟩), .pointer (some ⟨tb, 0, none⟩)] w' fun e w'' => e = .returned (.bool true) ∧ Below w'.heap.size w' w''))) :
    Calls Fahg.prog 6 #[.agg #[.slice (some ⟨b, off, none⟩) n cap, .int .i16 root], .int .u16 ((iv : Nat) : Int)] w fun e w' => e = .returned (.bool true) ∧ Below w.heap.size w w' := by
  have hT : Tok n nd := ⟨fun x hx => (hC.2.1 x hx).1, fun x hx => (hC.2.1 x hx).2⟩
  have hn := hC.1.1
  have HT : Hid (Tok n nd) := hT
  have HC : Hid _ := hC
  have HR : Hid (NCells w b off n nd) := hr
  clear hT hC hr
  obtain ⟨kk, hkk⟩ : ∃ kk, kk = iv % (n - 1) := ⟨_, rfl⟩
  have hk1 : kk + 1 < n := by have := Nat.mod_lt iv (show 0 < n - 1 by omega); omega
  have hrem : Int.tmod ((iv : Nat) : Int) (((n : Nat) : Int) - 1) = ((kk : Nat) : Int) := by
    rw [show ((n : Nat) : Int) - 1 = ((n - 1 : Nat) : Int) by omega, hkk]
    exact Int.ofNat_tmod iv (n - 1) |>.symm
  have hn0 : (((n : Nat) : Int) - 1 == 0) = false := by simp; omega
  have hn1 : decide (((n : Nat) : Int) < 2) = false := by simp; omega
  clear hkk
  obtain ⟨w1, hw1⟩ : ∃ w1, w1 = w.alloc (.cells #[.slice (some ⟨b, off, none⟩) n cap, .int .i16 root] 53) := ⟨_, rfl⟩
  have hb1 : Below w.heap.size w w1 := by rw [hw1]; exact below_alloc (Below.refl _ _) (Nat.le_refl _) _
  have g0 : w1.cell? ⟨w.heap.size, 0, none⟩ = some (.slice (some ⟨b, off, none⟩) n cap) := by rw [hw1]; simp [go_sem]
  have g1 : w1.cell? ⟨w.heap.size, 1, none⟩ = some (.int .i16 root) := by rw [hw1]; simp [go_sem]
  have HB1 : Hid _ := hb1
  have HW1 : Hid _ := hw1
  clear hb1 hw1
  go_enter Fahg.func6, Fahg.ntmps6
  go_wp2_with fail
  rw [← HW1.out]
  refine Calls.mono (hck.out w.heap.size w1 g0 g1 HB1.out).2.1 ?_
  rintro e w2 ⟨ub, rfl, hb2, hG⟩
  have HB2 : Hid (Below w.heap.size w w2) := HB1.out.trans (hb2.mono HB1.out.size)
  have HG : Hid _ := hG
  have k0 := Below.kept hb2 g0
  have k1 := Below.kept hb2 g1
  clear hb2 g0 g1 hG
  go_wp2_with fail
  refine Calls.mono (hck.out w.heap.size w2 k0 k1 HB2.out).1 ?_
  rintro e w3 ⟨rfl, hb3⟩
  have HB3 : Hid (Below w.heap.size w w3) := HB2.out.trans (hb3.mono HB2.out.size)
  have HC3 : Hid (Below w2.heap.size w2 w3) := hb3
  have m0 := Below.kept hb3 k0
  have m1 := Below.kept hb3 k1
  clear hb3 k0 k1
  go_wp2_with fail
  refine Calls.mono (HG.out.1 w3 HC3.out) ?_
  rintro e w4 ⟨rfl, hb4⟩
  have HB4 : Hid (Below w.heap.size w w4) := HB3.out.trans (hb4.mono HB3.out.size)
  have HC4 : Hid (Below w2.heap.size w2 w4) := HC3.out.trans (hb4.mono HC3.out.size)
  have k0 := Below.kept hb4 m0
  have k1 := Below.kept hb4 m1
  clear hb4 m0 m1
  go_wp2_with fail
  refine Calls.mono (HG.out.2 w4 HC4.out) ?_
  rintro e w5 ⟨vb, rfl, hb5, hE⟩
  have HB5 : Hid (Below w.heap.size w w5) := HB4.out.trans (hb5.mono HB4.out.size)
  have HE : Hid _ := hE
  have m0 := Below.kept hb5 k0
  have m1 := Below.kept hb5 k1
  clear hb5 hE k0 k1
  go_wp2_with fail
  refine Calls.mono (HE.out w5 (Below.refl _ _)) ?_
  rintro e w6 ⟨rfl, hb6⟩
  have HB6 : Hid (Below w.heap.size w w6) := HB5.out.trans (hb6.mono HB5.out.size)
  have k0 := Below.kept hb6 m0
  have k1 := Below.kept hb6 m1
  clear hb6 m0 m1 HE HG HC3 HC4
  go_wp2_with fail
  refine Calls.mono (hck.out w.heap.size w6 k0 k1 HB6.out).2.2 ?_
  rintro e w7 ⟨rfl, hb7⟩
  have HB7 : Hid (Below w.heap.size w w7) := HB6.out.trans (hb7.mono HB6.out.size)
  have m0 := Below.kept hb7 k0
  have m1 := Below.kept hb7 k1
  clear hb7 k0 k1
  have HR7 : Hid (NCells w7 b off n nd) := NCells.below HR.out HB7.out
  obtain ⟨q0, _, _, _, n4⟩ := HR7.out kk (by omega)
  have HKI : Hid (IRow w7 .i16 (nd kk).kA (nd kk).kL (nd kk).kz) := q0.i
  have hkl := HT.out.kl (show kk < n by omega)
  clear q0 HR hck HB1 HB2 HB3 HB4 HB5 HB6
  generalize (nd kk).kA = kA at *
  go_wp2_with fail
  go_loopg [72] (nd kk).kL (fun k J wr => ∃ j : Nat, j + k = (nd kk).kL ∧ J = .int .i64 ((j : Nat) : Int) ∧ Hid (Below w7.heap.size w7 wr) ∧ Hid (∀ x, x < j → (nd kk).kz x ≠ ((kk : Nat) : Int) + 1))
  case atStart => exact ⟨0, by omega, rfl, Below.refl _ _, fun x hx => absurd hx (by omega)⟩
  obtain ⟨j, hjk, rfl, HB8, HNO⟩ := hrel
  clear n4
  have HBW : Hid (Below w.heap.size w wr) := HB7.out.trans (HB8.out.mono HB7.out.size)
  by_cases hjl : j < (nd kk).kL
  · as_aux_lemma =>
      --[A1
      rcases HKI.out with h0 | ⟨b2, off2, e2, hc2⟩
      · omega
      subst e2
      have c9 := Below.kept HB8.out (hc2 j hjl).1
      clear hc2
      by_cases hm : (nd kk).kz j = ((kk : Nat) : Int) + 1
      · have d1 : ((nd kk).kz j == ((kk : Nat) : Int) + 1) = true := by simp [hm]
        clear hm
        go_wp2_with fail
        go_ret
        exact ⟨rfl, HBW.out⟩
      · have d1 : ((nd kk).kz j == ((kk : Nat) : Int) + 1) = false := by simp [hm]
        have HNO2 : Hid (∀ x, x < j + 1 → (nd kk).kz x ≠ ((kk : Nat) : Int) + 1) := by
          intro x hx
          by_cases hxj : x = j
          · rw [hxj]; exact hm
          · exact HNO.out x (by omega)
        clear hm
        go_wp2_with fail
        go_roundg (gk - 1)
        case rel => exact ⟨j + 1, by omega, by simp, HB8, HNO2⟩
        case measure => omega
      --]
  as_aux_lemma =>
    have hjE : j = (nd kk).kL := by omega
    rw [hjE] at HNO
    have m0' := Below.kept HB8.out m0
    have m1' := Below.kept HB8.out m1
    have HR8 : Hid (NCells wr b off n nd) := NCells.below HR7.out HB8.out
    obtain ⟨w8, hw8⟩ : ∃ w8, w8 = wr := ⟨_, rfl⟩
    subst hw8
    obtain ⟨tb, htb⟩ : ∃ tb, tb = w.heap.size := ⟨_, rfl⟩
    rw [← htb] at m0' m1'
    clear m0 m1 HKI HR7 HB8 hjE
    obtain ⟨C, hC, hCs⟩ : ∃ C : Array Value, (∀ w, (Instr.makeSlice 50 (.int .i64 ((n : Nat) : Int)) (.int .i64 ((n : Nat) : Int))).run Fahg.prog w = .ok (.slice (some ⟨w.heap.size, 0, none⟩) n n) (w.alloc (.cells C 61))) ∧ C.size = n * 4 := by
      obtain ⟨i, hi', hz, hsz, hby⟩ := info61
      refine ⟨madeCells (Value.agg #[.int .u8 0, .int .u8 0, .slice none 0 0, .slice none 0 0]).cells (n * 4), fun w => ?_, size_madeCells _ _⟩
      have := run_make (P := Fahg.prog) w 50 61 i _ Fahg.underlying50 hi' hz .i64 .i64 n n (by omega) (Int.le_refl _) (by rw [hby]; omega) (by omega)
      rw [hsz] at this
      simpa using this
    have HCs : Hid _ := hCs
    obtain ⟨rt, hrt⟩ : ∃ rt, rt = swI kk root := ⟨_, rfl⟩
    have HSW : Hid (∀ w, Calls Fahg.prog 27 #[.int .i16 root, .int .i16 ((kk : Nat) : Int)] w fun e w' => e = .returned (.int .i16 rt) ∧ w' = w) := by
      intro w
      rw [hrt]
      exact swapped_any kk root (by omega) w
    have HRT : Hid _ := hrt
    clear hCs hrt
    go_upto_region 15 with fail
    rw [← htb]
    have HTB : Hid _ := htb
    clear htb
    go_cut [9] (fun X wc => ∃ (U V : Nat), X = .pointer (some ⟨U, 0, none⟩) ∧ Hid (UMem w8 wc U V n rt kk nd 0 C))
    case first =>
      as_aux_lemma =>
        --[A2
        go_region_held3 (fun W => W.cell? ⟨tb, 0, none⟩ = some (.slice (some ⟨b, off, none⟩) n cap) ∧ W.cell? ⟨tb, 1, none⟩ = some (.int .i16 root)) (first | (go_keep; done)) (first | (go_at_call 27; refine Calls.mono (HSW.out _) ?_; rintro e wJ ⟨rfl, rfl⟩))
        all_goals go_wp2_with fail
        all_goals go_meet
        all_goals first
          | exact ⟨_, _, rfl, UMem.start1 w8 n rt kk nd C HCs.out⟩
          | exact ⟨_, _, rfl, UMem.start2 w8 n rt kk nd C HCs.out⟩
        --]
    as_aux_lemma =>
      obtain ⟨U, V, rfl, HU0⟩ := hcut
      have m0 := Below.kept HU0.out.bel m0'
      have HNO2 := HNO
      clear hC HCs HNO hjk hjl
      go_wp2_with fail
      go_loopg [93] n (fun k J wr => ∃ (j : Nat) (cur : Array Value), j + k = n ∧ J = .int .i64 ((j : Nat) : Int) ∧ Hid (UMem w8 wr U V n rt kk nd j cur))
      case atStart => exact ⟨0, C, by omega, rfl, HU0⟩
      clear m0 HU0
      obtain ⟨j, cur, hjn, rfl, HU⟩ := hrel
      by_cases hj : j < n
      case neg =>
        as_aux_lemma =>
          --[A3
          have hjE : j = n := by omega
          subst hjE
          obtain ⟨un, hun, hSw⟩ := HU.out.fin HR8.out HT.out hk1 hn
          have g0 : wr.cell? ⟨U, 0, none⟩ = some (.slice (some ⟨V, 0, none⟩) j j) := cell_of_heap HU.out.hU rfl
          have g1 : wr.cell? ⟨U, 1, none⟩ = some (.int .i16 (swI kk root)) := by rw [← HRT.out]; exact cell_of_heap HU.out.hU rfl
          have HSG : Hid _ := swap_good tb b off j cap U V kk root nd un wr (Below.kept HU.out.bel m0') (Below.kept HU.out.bel m1') (NCells.below HR8.out HU.out.bel) HC.out g0 g1 hun hSw hk1 HNO2.out
          clear hun hSw g0 g1
          have HBX : Hid (Below w.heap.size w wr) := HBW.out.trans (HU.out.bel.mono HBW.out.size)
          go_wp2_with fail
          refine Calls.mono (HSG.out wr (Below.refl _ _)).1 ?_
          rintro e w9 ⟨rfl, hb9⟩
          have HB9 : Hid _ := hb9
          clear hb9
          go_wp2_with fail
          refine Calls.mono (HSG.out w9 HB9.out).2.1 ?_
          rintro e w10 ⟨rfl, hb10⟩
          have HB10 : Hid (Below wr.heap.size wr w10) := HB9.out.trans (hb10.mono HB9.out.size)
          clear hb10
          go_wp2_with fail
          refine Calls.mono (HSG.out w10 HB10.out).2.2 ?_
          rintro e w11 ⟨rfl, hb11⟩
          have HB11 : Hid (Below w.heap.size w w11) := HBX.out.trans ((HB10.out.trans (hb11.mono HB10.out.size)).mono HBX.out.size)
          clear hb11
          go_wp2_with fail
          go_ret
          exact ⟨rfl, HB11.out⟩
          --]
      as_aux_lemma =>
        obtain ⟨wo, hwo⟩ : ∃ wo, wo = wr := ⟨_, rfl⟩
        subst hwo
        obtain ⟨q0, q1, q2, q3, q4⟩ := NCells.below HR8.out HU.out.bel j hj
        have HKI : Hid (IRow w8 .i16 (nd j).kA (nd j).kL (nd j).kz) := (HR8.out j hj).1.i
        have hkj := HT.out.kl hj
        clear q0
        have hmk := run_make_row' (P := Fahg.prog) 59 51 (.int .i16 0) 2 Fahg.underlying59 (by kernel_rfl) rfl .i64 .i64 (nd j).kL (by omega) (by omega)
        have HW9 : Hid _ := umade wo #[.int .u8 (nd j).kind, .int .u8 (nd j).code, .slice (nd j).dA (nd j).dL (nd j).dC, .slice (nd j).kA (nd j).kL (nd j).kC] (nd j).kL (fun q => .int .i16 (if q < 0 then swI kk ((nd j).kz q) else 0)) (by funext q; rw [if_neg (by omega)]) _ rfl
        go_upto_region 20 with fail
        generalize (wo.alloc (.cells #[.int .u8 (nd j).kind, .int .u8 (nd j).code, .slice (nd j).dA (nd j).dL (nd j).dC, .slice (nd j).kA (nd j).kL (nd j).kC] 61)).alloc (.cells (madeCells #[.int .i16 0] (nd j).kL) 51) = w9 at *
        obtain ⟨hb9, hG9, hA9, hl9⟩ := HW9.out
        obtain ⟨G, hG⟩ : ∃ G, G = wo.heap.size := ⟨_, rfl⟩
        obtain ⟨H0, hH0⟩ : ∃ H0, H0 = wo.heap.size + 1 := ⟨_, rfl⟩
        rw [← hH0, ← hG]
        rw [← hG] at hG9
        rw [← hH0] at hA9 hl9
        have HB9 : Hid _ := hb9
        have HG9 : Hid _ := hG9
        have HA9 : Hid _ := hA9
        have HL9 : Hid _ := hl9
        have g3 : w9.cell? ⟨G, 3, none⟩ = some (.slice (nd j).kA (nd j).kL (nd j).kC) := cell_of_heap hG9 rfl
        have HGG : Hid (G = wo.heap.size ∧ H0 = wo.heap.size + 1) := ⟨hG, hH0⟩
        clear hb9 hG9 hA9 hl9 hmk HW9 q1 q2 q3 q4 hG hH0
        generalize (nd j).kA = kA2 at *
        go_wp2_with fail
        go_loopg [105] (nd j).kL (fun k X wx => ∃ x : Nat, x + k = (nd j).kL ∧ X = .int .i64 ((x : Nat) : Int) ∧ Hid (Below wo.heap.size wo wx) ∧ Hid (wx.heap[G]? = some (.cells #[.int .u8 (nd j).kind, .int .u8 (nd j).code, .slice (nd j).dA (nd j).dL (nd j).dC, .slice kA2 (nd j).kL (nd j).kC] 61 (0, 0))) ∧ Hid (Arr wx H0 (nd j).kL (fun q => .int .i16 (if q < x then swI kk ((nd j).kz q) else 0))) ∧ Hid (H0 < wx.heap.size))
        case atStart => exact ⟨0, by omega, rfl, HB9, HG9, HA9, HL9⟩
        clear HB9 HG9 HA9 HL9 g3
        obtain ⟨x, hxk, rfl, HBX, HGX, HAX, HLX⟩ := hrel
        have HB8 : Hid (Below w8.heap.size w8 wr) := HU.out.bel.trans (HBX.out.mono HU.out.bel.size)
        by_cases hx : x < (nd j).kL
        · as_aux_lemma =>
            --[A4
            rcases HKI.out with h0 | ⟨b2, off2, e2, hc2⟩
            · omega
            subst e2
            have c9 := Below.kept HB8.out (hc2 x hx).1
            obtain ⟨y, hy⟩ : ∃ y, y = swI kk ((nd j).kz x) := ⟨_, rfl⟩
            have HSX : Hid (∀ w, Calls Fahg.prog 27 #[.int .i16 ((nd j).kz x), .int .i16 ((kk : Nat) : Int)] w fun e w' => e = .returned (.int .i16 y) ∧ w' = w) := by
              intro w
              rw [hy]
              exact swapped_any kk _ (by omega) w
            have HY : Hid _ := hy
            have x0 := HAX.out.c x hx
            have x1 := HAX.out.z x hx
            clear hc2 hy
            go_wp2_with fail
            refine Calls.mono (HSX.out _) ?_
            rintro e wJ ⟨rfl, rfl⟩
            go_wp2_with fail
            go_roundg (gk - 1)
            case rel =>
              refine ⟨x + 1, by omega, by simp, HBX.out.setCell (p := ⟨H0, x, none⟩) (by have := HGG.out.2; show wo.heap.size ≤ H0; omega) _, (heap_far (by show G ≠ H0; have := HGG.out; omega) _).trans HGX.out, (HAX.out.set hx _).congr fun q hq => ?_, ?_⟩
              · show putF (fun q => Value.int .i16 (if q < x then swI kk ((nd j).kz q) else 0)) x (.int .i16 y) q = Value.int .i16 (if q < x + 1 then swI kk ((nd j).kz q) else 0)
                unfold putF
                by_cases hqx : q = x
                · rw [if_pos hqx, if_pos (by omega), HY.out, hqx]
                · rw [if_neg hqx]
                  show Value.int .i16 (if q < x then swI kk ((nd j).kz q) else 0) = _
                  by_cases hq2 : q < x
                  · rw [if_pos hq2, if_pos (by omega)]
                  · rw [if_neg hq2, if_neg (by omega)]
              · have := HLX.out
                show H0 < (World.setCell _ _ _).heap.size
                simpa [World.setCell] using this
            case measure => omega
            --]
        as_aux_lemma =>
          --[A5
          have hxE : x = (nd j).kL := by omega
          have hA : Arr wr H0 (nd j).kL (fun q => .int .i16 (swI kk ((nd j).kz q))) := HAX.out.congr fun q hq => by rw [if_pos (by omega)]
          obtain ⟨cur', hF⟩ := HU.out.fill HBX.out (by have := HGG.out.2; omega) HLX.out hA hk1 hj
          have hsl := sw_lt hk1 hj
          have HUX := HU.out.below HBX.out
          have hU1 := HUX.hU
          have hV1 := HUX.hV
          have hVs := HUX.sz
          obtain ⟨sj, hsj⟩ : ∃ sj, sj = sw kk j := ⟨_, rfl⟩
          rw [← hsj] at hF hsl
          have hwr : IntKind.i16.wrap ((j : Nat) : Int) = ((j : Nat) : Int) := by simp [IntKind.wrap, IntKind.bits, IntKind.signed]; omega
          have HSX : Hid (∀ (w : World) (y : Int), y = ((j : Nat) : Int) → Calls Fahg.prog 27 #[.int .i16 y, .int .i16 ((kk : Nat) : Int)] w fun e w' => e = .returned (.int .i16 ((sj : Nat) : Int)) ∧ w' = w) := by
            intro w y hy
            rw [hy, hsj, ← swI_nat]
            exact swapped_any kk _ (by omega) w
          have HF : Hid _ := hF
          have u0 : wr.cell? ⟨U, 0, none⟩ = some (.slice (some ⟨V, 0, none⟩) n n) := cell_of_heap hU1 rfl
          have p0 : wr.cell? ⟨G, 0, none⟩ = some (.int .u8 (nd j).kind) := cell_of_heap HGX.out rfl
          have p1 : wr.cell? ⟨G, 1, none⟩ = some (.int .u8 (nd j).code) := cell_of_heap HGX.out rfl
          have p2 : wr.cell? ⟨G, 2, none⟩ = some (.slice (nd j).dA (nd j).dL (nd j).dC) := cell_of_heap HGX.out rfl
          obtain ⟨v0, r0⟩ : ∃ v, wr.cell? ⟨V, sj * 4, none⟩ = some v := ⟨_, cell_of_heap hV1 (Array.getElem?_eq_getElem (by omega))⟩
          obtain ⟨v1, r1⟩ : ∃ v, wr.cell? ⟨V, sj * 4 + 1, none⟩ = some v := ⟨_, cell_of_heap hV1 (Array.getElem?_eq_getElem (by omega))⟩
          obtain ⟨v2, r2⟩ : ∃ v, wr.cell? ⟨V, sj * 4 + 2, none⟩ = some v := ⟨_, cell_of_heap hV1 (Array.getElem?_eq_getElem (by omega))⟩
          obtain ⟨v3, r3⟩ : ∃ v, wr.cell? ⟨V, sj * 4 + 3, none⟩ = some v := ⟨_, cell_of_heap hV1 (Array.getElem?_eq_getElem (by omega))⟩
          have z0 := frozen_of_heap hV1 (sj * 4)
          have z1 := frozen_of_heap hV1 (sj * 4 + 1)
          have z2 := frozen_of_heap hV1 (sj * 4 + 2)
          have z3 := frozen_of_heap hV1 (sj * 4 + 3)
          have hVU : U ≠ V := HUX.ne
          have hVG : G ≠ V := by have := HU.out.lt.2; have := HGG.out.1; omega
          have i0 : (0 : Int) ≤ ((sj : Nat) : Int) := by omega
          have i1 : ((sj : Nat) : Int) < ((n : Nat) : Int) := by omega
          have hj5 : j ≤ 511 := by omega
          have HST4 : Hid (Stp (fun x => x = V) wr (((((wr.setCell ⟨V, sj * 4, none⟩ (.int .u8 (nd j).kind)).setCell ⟨V, sj * 4 + 1, none⟩ (.int .u8 (nd j).code)).setCell ⟨V, sj * 4 + 2, none⟩ (.slice (nd j).dA (nd j).dL (nd j).dC)).setCell ⟨V, sj * 4 + 3, none⟩ (.slice (some ⟨H0, 0, none⟩) (nd j).kL (nd j).kL)).drew)) := (((((Stp.refl (fun x => x = V) wr).setCell (p := ⟨V, sj * 4, none⟩) (fun _ => rfl) _).setCell (p := ⟨V, sj * 4 + 1, none⟩) (fun _ => rfl) _).setCell (p := ⟨V, sj * 4 + 2, none⟩) (fun _ => rfl) _).setCell (p := ⟨V, sj * 4 + 3, none⟩) (fun _ => rfl) _).drew
          clear hA hF HUX hU1 hV1 hVs hsj hxE
          go_wp2_with fail
          go_region_held3 (fun W => W.cell? ⟨U, 0, none⟩ = some (.slice (some ⟨V, 0, none⟩) n n) ∧ W.cell? ⟨G, 0, none⟩ = some (.int .u8 (nd j).kind) ∧ W.cell? ⟨G, 1, none⟩ = some (.int .u8 (nd j).code) ∧ W.cell? ⟨G, 2, none⟩ = some (.slice (nd j).dA (nd j).dL (nd j).dC)) (first | (exact ⟨u0, p0, p1, p2⟩) | (exact ⟨(Stp.cell (p := ⟨U, 0, none⟩) HST4.out hVU u0), (Stp.cell (p := ⟨G, 0, none⟩) HST4.out hVG p0), (Stp.cell (p := ⟨G, 1, none⟩) HST4.out hVG p1), (Stp.cell (p := ⟨G, 2, none⟩) HST4.out hVG p2)⟩)) (first | (go_at_call 27; refine Calls.mono (HSX.out _ _ rfl) ?_; rintro e wJ ⟨rfl, rfl⟩))
          all_goals go_wp2_with fail
          all_goals go_roundg (n - (j + 1))
          all_goals first
            | exact ⟨j + 1, cur', by omega, by simp, HF.out.below (Below.drew (Below.refl _ _))⟩
            | omega
          --]
end Go.Proofs.Ygcfah
