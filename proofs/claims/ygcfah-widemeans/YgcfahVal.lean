/- wide.Validate in the range of lengths. -/
import Derived.Test.YgcfahPf
import Derived.Deep.LoopGhost
namespace Go.Proofs.Ygcfah
open Go.RowKit
set_option linter.unusedVariables false
set_option linter.unusedSimpArgs false
theorem ans_no (res : Nat → Option (Option Node)) (S : Nat → Bool) (left a d : Nat) (st : List (Nat × Nat)) (nd : Node) (h : res a = some (some nd)) (hd : d ≤ 8) (hn : (decide (nd.cost ≤ left) && free S nd.lo nd.n && nd.pad) = false) : ans res S left ((a, d) :: st) = false := by
  cases hp : nd.pad with
  | false => exact ans_pad res S left a d st nd h hp
  | true =>
    rw [ans_step res S left a d st nd h hd hp]
    rw [hp, Bool.and_true] at hn
    rw [hn, Bool.false_and]
theorem Wlk.below {w w' : World} {g : Nat} {v : Value} {S : Nat → Bool} {n : Nat} {st : Nat → Nat × Nat} {L : Int} (h : Wlk w g v S st n L) (hb : Below w.heap.size w w') : Wlk w' g v S st n L := by
  have hg : g < w.heap.size := World.block_lt_of_cell? w ⟨g, 0, none⟩ h.a
  obtain ⟨s, hs, hr⟩ := h.s
  exact ⟨(hb.cell (p := ⟨g, 0, none⟩) hg).trans h.a, ⟨s, hs.below hb, hr⟩, h.k.below hb, ⟨(hb.cell (p := ⟨g, 518, none⟩) hg).trans h.l.c, (hb.frozen (p := ⟨g, 518, none⟩) hg).trans h.l.f⟩⟩
theorem Wlk.paid {w w' : World} {g : Nat} {v : Value} {S : Nat → Bool} {n : Nat} {st : Nat → Nat × Nat} {L L' : Int} (h : Wlk w g v S st n L) (hw : Within g 518 519 w w') (hl : Lft w' g L') : Wlk w' g v S st n L' := by
  obtain ⟨s, hs, hr⟩ := h.s
  exact ⟨(hw.cell _ (by omega)).trans h.a, ⟨s, ⟨fun q hq => (hw.cell _ (by omega)).trans (hs.c q hq), fun q hq => (hw.frozen _).trans (hs.f q hq)⟩, hr⟩,
    ⟨fun i hi => (hw.cell _ (by omega)).trans (h.k.at_ i hi), fun i hi => (hw.cell _ (by omega)).trans (h.k.dp i hi), fun j h1 h2 => (hw.frozen _).trans (h.k.f j h1 h2), (hw.cell _ (by omega)).trans h.k.n⟩, hl⟩
theorem Wlk.pop {w : World} {g : Nat} {v : Value} {S : Nat → Bool} {n : Nat} {st : Nat → Nat × Nat} {L : Int} (h : Wlk w g v S st (n + 1) L) : Wlk (w.setCell ⟨g, 517, none⟩ (.int .u16 n)) g v S st n L := by
  obtain ⟨s, hs, hr⟩ := h.s
  refine ⟨(World.cell?_setCell_other _ _ _ _ (by intro e; injection e; omega)).trans h.a, ⟨s, ⟨fun q hq => (World.cell?_setCell_other _ _ _ _ (by intro e; injection e; omega)).trans (hs.c q hq), fun q hq => by simp [go_sem, hs.f q hq]⟩, hr⟩,
    ⟨fun i hi => (World.cell?_setCell_other _ _ _ _ (by intro e; injection e; omega)).trans (h.k.at_ i hi), fun i hi => (World.cell?_setCell_other _ _ _ _ (by intro e; injection e; omega)).trans (h.k.dp i hi), fun j h1 h2 => by simp [go_sem, h.k.f j h1 h2], World.cell?_setCell_same' _ _ _ (by rw [h.k.n]; rfl)⟩,
    ⟨(World.cell?_setCell_other _ _ _ _ (by intro e; injection e; omega)).trans h.l.c, by simp [go_sem, h.l.f]⟩⟩
theorem Wlk.claimed {w w' : World} {g : Nat} {v : Value} {S S' : Nat → Bool} {n : Nat} {st : Nat → Nat × Nat} {L : Int} (h : Wlk w g v S st n L) (hw : Within g 1 5 w w') (hs : ∃ s', Set4 w' g 1 s' ∧ Rep s' S') : Wlk w' g v S' st n L :=
  ⟨(hw.cell _ (by omega)).trans h.a, hs, ⟨fun i hi => (hw.cell _ (by omega)).trans (h.k.at_ i hi), fun i hi => (hw.cell _ (by omega)).trans (h.k.dp i hi), fun j h1 h2 => (hw.frozen _).trans (h.k.f j h1 h2), (hw.cell _ (by omega)).trans h.k.n⟩,
    ⟨(hw.cell _ (by omega)).trans h.l.c, (hw.frozen _).trans h.l.f⟩⟩
theorem Wlk.followed {w w' : World} {g : Nat} {v : Value} {S : Nat → Bool} {n n' : Nat} {st st' : Nat → Nat × Nat} {L : Int} (h : Wlk w g v S st n L) (hw : Within g 5 518 w w') (hk : Stk w' g st' n') : Wlk w' g v S st' n' L := by
  obtain ⟨s, hs, hr⟩ := h.s
  exact ⟨(hw.cell _ (by omega)).trans h.a, ⟨s, ⟨fun q hq => (hw.cell _ (by omega)).trans (hs.c q hq), fun q hq => (hw.frozen _).trans (hs.f q hq)⟩, hr⟩, hk,
    ⟨(hw.cell _ (by omega)).trans h.l.c, (hw.frozen _).trans h.l.f⟩⟩

set_option maxRecDepth 100000 in
set_option maxHeartbeats 1000000 in
theorem validate_x (ANS : Bool) (b off len cap : Nat) (bud : Nat) (hbud : bud ≤ 4294967295) (z : Int → Int) (w : World) (hl : 1 ≤ len) (hl2 : len ≤ 256) (hz : Row w b off len z) (hb : b < w.heap.size) (hANS : Hid (ANS = ans (resOf z len) (fun i => i == 0) bud [(0, 1)])) :
    Calls Fahg.prog 44 #[.slice (some ⟨b, off, none⟩) len cap, .int .u32 bud] w fun e w' => e = .returned (.bool ANS) ∧ Below w.heap.size w w' := by
  have h1 : decide ((len : Int) < 1) = false := by simp; omega
  have h2 : decide ((256 : Int) < len) = false := by simp; omega
  have hst := wk_store (some ⟨b, off, none⟩) len cap bud w
  have W0 := wk_fresh (.slice (some ⟨b, off, none⟩) len cap) bud w
  obtain ⟨C, hC⟩ : ∃ C, C = wkCells (.slice (some ⟨b, off, none⟩) len cap) bud := ⟨_, rfl⟩
  rw [← hC] at hst W0
  clear hC
  have HW0 : Hid _ := W0
  obtain ⟨s, hs, hr⟩ := W0.s
  have c1 := hs.c 0 (by omega)
  have f1 := hs.f 0 (by omega)
  simp only [Nat.add_zero] at c1 f1
  have HZ : Hid _ := hz
  clear hs hr W0 hz
  go_enter Fahg.func44, Fahg.ntmps44
  go_wp2_with fail
  have W1 := HW0.out.set0
  obtain ⟨w0, hw0⟩ : ∃ w0, w0 = w.alloc (.cells (C.setIfInBounds 1 (.int .u64 1)) 202) := ⟨_, rfl⟩
  have ew : ((w.alloc (.cells C 202)).setCell ⟨w.heap.size, 1, none⟩ (.int .u64 1)) = w0 := by rw [hw0]; simp [go_sem]
  rw [ew] at W1
  rw [← hw0]
  have HB0 : Hid (Below w.heap.size w w0) := by rw [hw0]; exact below_alloc (Below.refl _ _) (Nat.le_refl _) _
  clear hw0 ew hst c1 f1 HW0
  refine (push_F w.heap.size 0 1 1 0 _ w0 0 rfl W1.k (by omega) (by omega) (by omega)).mono ?_
  rintro e w1 ⟨rfl, hWi, hSt⟩
  have hz0 : w.heap.size < w0.heap.size := World.block_lt_of_cell? w0 ⟨w.heap.size, 0, none⟩ W1.a
  have W2 : Wlk w1 w.heap.size (.slice (some ⟨b, off, none⟩) len cap) (fun i => i == 0) (pushF (fun x => (0, 0)) 0 (fun k => 0 + k) 1 1) 1 bud := by
    obtain ⟨s, hs, hr⟩ := W1.s
    exact ⟨(hWi.cell 0 (by omega)).trans W1.a, ⟨s, ⟨fun q hq => (hWi.cell _ (by omega)).trans (hs.c q hq), fun q hq => (hWi.frozen _).trans (hs.f q hq)⟩, hr⟩, hSt, ⟨(hWi.cell _ (by omega)).trans W1.l.c, (hWi.frozen _).trans W1.l.f⟩⟩
  have HB1 : Hid (Below w.heap.size w w1) := HB0.out.trans (hWi.off.below (Nat.le_refl _) (by omega))
  have HW2 : Hid _ := W2
  clear W1 W2 hWi hSt HB0 hz0 w0
  go_wp2_with fail
  generalize hG : w.heap.size = G at *
  go_loopg [24] (256 : Nat) (fun k _ wr => ∃ (n : Nat) (S : Nat → Bool) (st : Nat → Nat × Nat) (L : Nat), n + cnt S 256 = k ∧ k ≤ 256 ∧ L ≤ 4294967295 ∧ Wlk wr G (.slice (some ⟨b, off, none⟩) len cap) S st n L ∧ Below G w wr ∧ ans (resOf z len) S L (stkL st n) = ANS ∧ ∀ i, i < n → (st i).1 < len ∧ (st i).2 ≤ 9)
  case atStart =>
    exact ⟨1, _, _, bud, by decide, by omega, hbud, HW2.out, HB1.out, hANS.out.symm, fun i hi => by
      obtain rfl : i = 0 := by omega
      exact ⟨by simp [pushF]; omega, by simp [pushF]⟩⟩
  case round =>
    obtain ⟨n, S, st, L, hk, hk2, hL, hW, hB, hA, hI⟩ := hrel
    cases n with
    | zero =>
      have c1 := hW.k.n
      have HB : Hid _ := hB
      have HA : Hid _ := hA
      clear hW hB hA hI
      go_wp2_with fail
      go_ret
      have := HA.out
      rw [stkL, ans_nil] at this
      exact ⟨ret_bool this, by rw [hG]; exact HB.out⟩
    | succ n =>
      have c1 := hW.k.n
      have f1 := hW.k.f 517 (by omega) (by omega)
      have hn : n < 256 := by omega
      have c2 := hW.k.at_ n hn
      have c3 := hW.k.dp n hn
      have i1 := hI n (by omega)
      have HW : Hid _ := hW
      have HB : Hid _ := hB
      have HA : Hid _ := hA
      have HI : Hid _ := hI
      have HK : Hid _ := hk
      clear hW hB hA hI hk
      go_wp2_with fail
      have hG2 : G < wr.heap.size := World.block_lt_of_cell? wr ⟨G, 517, none⟩ c1
      have hbw : Below G w ((wr.setCell ⟨G, 517, none⟩ (.int .u16 n)).alloc (.cells #[.int .u16 (st n).1, .int .u8 (st n).2] 199)) := below_alloc (HB.out.setCell (Nat.le_refl _) _) (by omega) _
      have hRow := Row.below HZ.out hbw hb
      refine (resolve_in b off len cap (st n).1 z (by omega) (by omega) hl2 _ hRow).mono ?_
      rintro e w3 ⟨rfl, hb3⟩
      have HB3 : Hid (Below G w w3) := hbw.trans (hb3.mono (by simp; omega))
      have hs3 : wr.heap.size < w3.heap.size := by have := hb3.size; simp at this; omega
      have m3 : ∀ o, w3.cell? ⟨wr.heap.size, o, none⟩ = #[.int .u16 (st n).1, .int .u8 (st n).2][o]? := fun o => (hb3.cell (p := ⟨wr.heap.size, o, none⟩) (by simp)).trans (World.cell?_alloc_at _ _ _ _ (by simp))
      have W3 : Wlk w3 G (.slice (some ⟨b, off, none⟩) len cap) S st n L := ((HW.out.pop).below (below_alloc (Below.refl _ _) (Nat.le_refl _) _)).below hb3
      have hrs := rsv_ok z len (st n).1 (by omega) (by omega) (by omega) (fun i h h' => (HZ.out i h h').2)
      have hsh := rsv_shape z len (st n).1 (by omega) (by omega) hl2 (fun i h h' => (HZ.out i h h').2)
      have hres : resOf z len (st n).1 = if (rsv z len (st n).1).2 = false then none else if (rsv z len (st n).1).1.kind = 0 then some none else some (some (nodeOf z (rsv z len (st n).1).1)) := rfl
      have HHA := HA.out
      rw [stkL] at HHA
      clear hb3 hbw hRow c1 c2 c3 f1 HB HW
      generalize rsv z len (st n).1 = r at *
      obtain ⟨p, ok⟩ := r
      cases ok with
      | false =>
        obtain rfl : p = WP.nul := hrs.no rfl
        have ha : ANS = false := by rw [← HHA]; exact ans_refused _ _ _ _ _ _ (by simpa using hres)
        clear hrs hsh hres HHA HA
        simp only [WP.val, WP.nul]
        go_wp2_with fail
        go_ret
        exact ⟨ret_bool ha.symm, by rw [hG]; exact below_alloc HB3.out (by omega) _⟩
      | true =>
        by_cases hnul : p = WP.nul
        · subst hnul
          have ha : ans (resOf z len) S L (stkL st n) = ANS := by rw [← HHA]; exact (ans_null _ _ _ _ _ _ (by simpa [WP.nul] using hres)).symm
          have HHa : Hid _ := ha
          have HW3 : Hid _ := W3
          have HD : Hid _ := HK.out
          clear hrs hsh hres HHA HA ha W3
          simp only [WP.val, WP.nul]
          go_wp2_with fail
          have e1 := HD.out
          go_roundg (gk - 1)
          case rel => exact ⟨n, S, st, L, by omega, by omega, hL, HW3.out.below (below_alloc (Below.refl _ _) (Nat.le_refl _) _), below_alloc HB3.out (by omega) _, HHa.out, fun i hi => HI.out i (by omega)⟩
          case measure => omega
        · have hshp := (hsh rfl).resolve_left hnul
          obtain ⟨pok, pk0⟩ := shape_ok hl2 hshp
          have hres2 : resOf z len (st n).1 = some (some (nodeOf z p)) := by simpa [pk0] using hres
          have hk0 : (p.kind == 0) = false := by simpa using pk0
          obtain ⟨p1, p2, p3, p4, p5, p6⟩ := p
          simp only at hk0
          have HSH : Hid _ := hshp
          have HOK : Hid _ := pok
          have HRS : Hid _ := hres2
          have HHH : Hid _ := HHA
          have HW3 : Hid _ := W3
          have m0 := m3 0
          have m1 := m3 1
          simp only [show ∀ a b : Value, #[a, b][0]? = some a from fun _ _ => rfl, show ∀ a b : Value, #[a, b][1]? = some b from fun _ _ => rfl] at m0 m1
          clear hrs hsh hres hres2 HHA HA W3 pok pk0 hshp hnul m3
          simp only [WP.val]
          by_cases hdp : 8 < (st n).2
          · have ha : ANS = false := by rw [← HHH.out]; exact ans_deep _ _ _ _ _ _ _ HRS.out hdp
            have HHa : Hid _ := ha
            clear ha
            go_wp2_with fail
            go_ret
            exact ⟨ret_bool HHa.out.symm, by first | (rw [hG]; exact below_alloc HB3.out (by omega) _) | exact below_alloc HB3.out (by omega) _⟩
          · have hdp2 : (st n).2 ≤ 8 := by omega
            have hno := fun h => ans_no _ S L _ (st n).2 (stkL st n) _ HRS.out hdp2 h
            have hyes := fun h => ans_step _ S L _ (st n).2 (stkL st n) _ HRS.out hdp2 h
            rw [show ((st n).1, (st n).2) = st n from rfl, HHH.out] at hno hyes
            have HNO : Hid _ := hno
            have HYES : Hid _ := hyes
            clear hno hyes
            have W4 := HW3.out.below (below_alloc (Below.refl _ _) (Nat.le_refl _) (.cells #[.int .u8 p1, .int .u16 p2, .int .u8 p3, .int .u8 p4, .int .u8 p5, .int .u32 p6] 78))
            have hB4 : Below G w (w3.alloc (.cells #[.int .u8 p1, .int .u16 p2, .int .u8 p3, .int .u8 p4, .int .u8 p5, .int .u32 p6] 78)) := below_alloc HB3.out (by omega) _
            go_wp2_with fail
            have bc := wCost_bd ⟨p1, p2, p3, p4, p5, p6⟩ HOK.out
            by_cases hc : wCost ⟨p1, p2, p3, p4, p5, p6⟩ ≤ (L : Int)
            · refine (pay_yes G L p1 p2 p3 p4 p5 p6 HOK.out _ W4.l hc (by omega)).mono ?_
              rintro e w5 ⟨rfl, hW5, hL5⟩
              have W5 : Wlk w5 G (.slice (some ⟨b, off, none⟩) len cap) S st n (L - wCost ⟨p1, p2, p3, p4, p5, p6⟩) := W4.paid hW5 hL5
              have hB5 : Below G w w5 := hB4.trans (hW5.off.below (Nat.le_refl _) (by simp; omega))
              have m5 : ∀ o, w5.cell? ⟨w3.heap.size, o, none⟩ = #[.int .u8 p1, .int .u16 p2, .int .u8 p3, .int .u8 p4, .int .u8 p5, .int .u32 p6][o]? := fun o => (hW5.off.cell (by simp) (by omega)).trans (World.cell?_alloc_at _ _ _ _ rfl)
              have n1 : w5.cell? ⟨wr.heap.size, 1, none⟩ = some (.int .u8 (st n).2) := (hW5.off.cell (by simp; omega) (by omega)).trans (by simp [go_sem, hs3, m1])
              have hs5 : w3.heap.size < w5.heap.size := by have := hW5.off.size; simp at this; omega
              have HW5 : Hid _ := W5
              have HB5 : Hid _ := hB5
              clear W4 hB4 hW5 hL5 W5 hB5 m0 m1 HB3 HW3
              have r1 := m5 0
              have r2 := m5 1
              have r3 := m5 2
              have r4 := m5 3
              have r5 := m5 4
              have r6 := m5 5
              simp only [show ∀ a b c d e f : Value, #[a, b, c, d, e, f][0]? = some a from fun _ _ _ _ _ _ => rfl, show ∀ a b c d e f : Value, #[a, b, c, d, e, f][1]? = some b from fun _ _ _ _ _ _ => rfl, show ∀ a b c d e f : Value, #[a, b, c, d, e, f][2]? = some c from fun _ _ _ _ _ _ => rfl, show ∀ a b c d e f : Value, #[a, b, c, d, e, f][3]? = some d from fun _ _ _ _ _ _ => rfl, show ∀ a b c d e f : Value, #[a, b, c, d, e, f][4]? = some e from fun _ _ _ _ _ _ => rfl, show ∀ a b c d e f : Value, #[a, b, c, d, e, f][5]? = some f from fun _ _ _ _ _ _ => rfl] at r1 r2 r3 r4 r5 r6
              clear m5
              go_wp2_with fail
              obtain ⟨s5, hs4, hr5⟩ := HW5.out.s
              obtain ⟨nl, nn, nb, nk, nm⟩ := shape_node z hl2 HSH.out
              simp only [WP.words] at nl nn
              refine (wclaim_any G s5 S p1 p2 p3 p4 p5 p6 HOK.out _ _ w5 hs4 hr5 nl nn (by omega)).mono ?_
              rintro e w6 ⟨rfl, hW6, s6, hs6, hr6⟩
              cases hfree : free S (nodeOf z ⟨p1, p2, p3, p4, p5, p6⟩).lo (nodeOf z ⟨p1, p2, p3, p4, p5, p6⟩).n with
              | false =>
                have ha : ANS = false := HNO.out (by rw [hfree]; simp)
                have HHa : Hid _ := ha
                have HB6 : Hid _ := HB5.out.trans (hW6.off.below (Nat.le_refl _) (by omega))
                clear ha hW6 hs6 hr6 hfree nl nn nb nk nm hs4 hr5
                go_wp2_with fail
                go_ret
                exact ⟨ret_bool HHa.out.symm, by first | (rw [hG]; exact HB6.out) | exact HB6.out⟩
              | true =>
                have W6 : Wlk w6 G (.slice (some ⟨b, off, none⟩) len cap) (join S (nodeOf z ⟨p1, p2, p3, p4, p5, p6⟩).lo (nodeOf z ⟨p1, p2, p3, p4, p5, p6⟩).n) st n (L - wCost ⟨p1, p2, p3, p4, p5, p6⟩) := HW5.out.claimed hW6 ⟨s6, hs6, hr6⟩
                have hB6 : Below G w w6 := HB5.out.trans (hW6.off.below (Nat.le_refl _) (by omega))
                have hs6' : w3.heap.size < w6.heap.size := by have := hW6.off.size; omega
                have t1 := (hW6.off.cell (o := 0) hs5 (by omega)).trans r1
                have t2 := (hW6.off.cell (o := 1) hs5 (by omega)).trans r2
                have t3 := (hW6.off.cell (o := 2) hs5 (by omega)).trans r3
                have t4 := (hW6.off.cell (o := 3) hs5 (by omega)).trans r4
                have t5 := (hW6.off.cell (o := 4) hs5 (by omega)).trans r5
                have t6 := (hW6.off.cell (o := 5) hs5 (by omega)).trans r6
                have n6 := (hW6.off.cell (o := 1) (show wr.heap.size < w5.heap.size by omega) (by omega)).trans n1
                have HW6 : Hid _ := W6
                have HB6 : Hid _ := hB6
                have HF : Hid _ := hfree
                have HN : Hid _ := And.intro nb (And.intro nk nm)
                clear W6 hB6 hW6 hs6 hr6 hfree nl nn nb nk nm hs4 hr5 r1 r2 r3 r4 r5 r6 n1 HW5 HB5
                go_wp2_with fail
                refine (padded_shape G b off len cap z _ HSH.out hl2 _ HW6.out.a (Row.below HZ.out HB6.out hb)).mono ?_
                rintro e w7 ⟨rfl, hb7⟩
                cases hpad : padB z ⟨p1, p2, p3, p4, p5, p6⟩ with
                | false =>
                  have ha : ANS = false := HNO.out (by rw [show (nodeOf z ⟨p1, p2, p3, p4, p5, p6⟩).pad = false from hpad]; simp)
                  have HHa : Hid _ := ha
                  have HB7 : Hid _ := HB6.out.trans (hb7.mono (by omega))
                  clear ha hb7 hpad
                  go_wp2_with fail
                  go_ret
                  exact ⟨ret_bool HHa.out.symm, by first | (rw [hG]; exact HB7.out) | exact HB7.out⟩
                | true =>
                  have ha := HYES.out hpad
                  rw [HF.out, decide_eq_true (show (nodeOf z ⟨p1, p2, p3, p4, p5, p6⟩).cost ≤ L by simp only [nodeOf]; omega), Bool.true_and, Bool.true_and] at ha
                  have HHa : Hid _ := ha
                  have W7 := HW6.out.below hb7
                  have hB7 : Below G w w7 := HB6.out.trans (hb7.mono (by omega))
                  have t1' := (hb7.cell (p := ⟨w3.heap.size, 0, none⟩) hs6').trans t1
                  have t2' := (hb7.cell (p := ⟨w3.heap.size, 1, none⟩) hs6').trans t2
                  have t3' := (hb7.cell (p := ⟨w3.heap.size, 2, none⟩) hs6').trans t3
                  have t4' := (hb7.cell (p := ⟨w3.heap.size, 3, none⟩) hs6').trans t4
                  have t5' := (hb7.cell (p := ⟨w3.heap.size, 4, none⟩) hs6').trans t5
                  have t6' := (hb7.cell (p := ⟨w3.heap.size, 5, none⟩) hs6').trans t6
                  have n7 := (hb7.cell (p := ⟨wr.heap.size, 1, none⟩) (show wr.heap.size < w6.heap.size by omega)).trans n6
                  have HW7 : Hid _ := W7
                  have HB7 : Hid _ := hB7
                  have hs7 : G < w7.heap.size := by have := hb7.size; omega
                  clear ha W7 hB7 hb7 hpad t1 t2 t3 t4 t5 t6 n6 HB6 HW6
                  have hd9 : ((st n).2 : Int) + 1 ≤ 255 := by omega
                  have kc := cnt_join256 S _ _ HF.out (by have := HN.out.1; omega)
                  have kn : kidN ⟨p1, p2, p3, p4, p5, p6⟩ ≤ (nodeOf z ⟨p1, p2, p3, p4, p5, p6⟩).n := by have := HN.out.2.1; simpa [nodeOf] using this
                  have kk := HK.out
                  have HKK : Hid (n + kidN ⟨p1, p2, p3, p4, p5, p6⟩ + cnt (join S (nodeOf z ⟨p1, p2, p3, p4, p5, p6⟩).lo (nodeOf z ⟨p1, p2, p3, p4, p5, p6⟩).n) 256 < gk) := by show _ < _; omega
                  clear kc kn kk
                  go_wp2_with fail
                  refine (follow_shape G len _ HSH.out hl2 ((st n).2 + 1) n st w7 HW7.out.k (by have := HKK.out; omega) (by omega)).mono ?_
                  rintro e w8 ⟨rfl, hW8, hS8⟩
                  have HW8 : Hid _ := HW7.out.followed hW8 hS8
                  have HB8 : Hid _ := HB7.out.trans (hW8.off.below (Nat.le_refl _) (by omega))
                  clear hW8 hS8 HW7 HB7
                  go_wp2_with fail
                  go_roundg (n + kidN ⟨p1, p2, p3, p4, p5, p6⟩ + cnt (join S (nodeOf z ⟨p1, p2, p3, p4, p5, p6⟩).lo (nodeOf z ⟨p1, p2, p3, p4, p5, p6⟩).n) 256)
                  case rel =>
                    refine ⟨n + kidN ⟨p1, p2, p3, p4, p5, p6⟩, join S (nodeOf z ⟨p1, p2, p3, p4, p5, p6⟩).lo (nodeOf z ⟨p1, p2, p3, p4, p5, p6⟩).n, pushF st n (kidAt ⟨p1, p2, p3, p4, p5, p6⟩) ((st n).2 + 1) (kidN ⟨p1, p2, p3, p4, p5, p6⟩), L - (wCost ⟨p1, p2, p3, p4, p5, p6⟩).toNat, rfl, by have := HKK.out; omega, by omega, ?_, HB8.out, ?_, ?_⟩
                    · rw [show ((L - (wCost ⟨p1, p2, p3, p4, p5, p6⟩).toNat : Nat) : Int) = L - wCost ⟨p1, p2, p3, p4, p5, p6⟩ by omega]; exact HW8.out
                    · rw [stkL_pushF]; exact HHa.out.symm
                    · intro i hi
                      by_cases hin : i < n
                      · have : pushF st n (kidAt ⟨p1, p2, p3, p4, p5, p6⟩) ((st n).2 + 1) (kidN ⟨p1, p2, p3, p4, p5, p6⟩) i = st i := by unfold pushF; rw [if_neg (by omega)]
                        rw [this]; exact HI.out i (by omega)
                      · have : pushF st n (kidAt ⟨p1, p2, p3, p4, p5, p6⟩) ((st n).2 + 1) (kidN ⟨p1, p2, p3, p4, p5, p6⟩) i = (kidAt ⟨p1, p2, p3, p4, p5, p6⟩ (i - n), (st n).2 + 1) := by unfold pushF; rw [if_pos (by omega)]
                        rw [this]
                        exact ⟨HN.out.2.2 _ (by simp only [nodeOf, List.mem_map, List.mem_range]; exact ⟨i - n, by omega, rfl⟩), by simp only []; omega⟩
                  case measure => exact HKK.out
            · refine (pay_no G L p1 p2 p3 p4 p5 p6 HOK.out _ W4.l (by omega)).mono ?_
              rintro e w5 ⟨rfl, hb5⟩
              have ha : ANS = false := HNO.out (by simp [nodeOf]; omega)
              have HHa : Hid _ := ha
              have HB5 : Hid _ := hB4.trans (hb5.mono (by simp; omega))
              clear ha hb5 hB4 W4
              go_wp2_with fail
              go_ret
              exact ⟨ret_bool HHa.out.symm, by first | (rw [hG]; exact HB5.out) | exact HB5.out⟩
end Go.Proofs.Ygcfah
