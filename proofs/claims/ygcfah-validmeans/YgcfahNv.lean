/- vmodel.visit: the shapes. -/
import Derived.Test.YgcfahNrun
import Derived.Test.YgcfahNz
import Derived.Deep.LoopGhost
namespace Go.Proofs.Ygcfah
open Go.RowKit
set_option linter.unusedVariables false
set_option linter.unusedSimpArgs false

set_option maxRecDepth 100000 in
set_option maxHeartbeats 2000000 in
theorem nvisit_struct (b off len cap : Nat) (z : Int → Int) (B g left : Nat) (hl2 : len ≤ 256) (hb : b < B) (hBg : B ≤ g) (hleft : left ≤ 7) (IH : Hid (NVisitOk b off len cap z B g left))
    (a : Nat) (s : (Nat → Bool) × Nat) (w : World) (ha : a < len) (hRow : Row w b off len z) (hBw : B ≤ w.heap.size) (hM : NMst w B g s.1) (V : Option ((Nat → Bool) × Nat))
    (A D P : Nat) (hD : D ≤ 8) (hP : P ≤ 8) (hA : A + (D + P) ≤ len) (hSh : Hid (NShape len ⟨1, A, D, P, 0, 0⟩)) (hr : rsn z len a = (⟨1, A, D, P, 0, 0⟩, true))
    (hV : Hid (V = if free s.1 (nodeOf z ⟨1, A, D, P, 0, 0⟩).lo (nodeOf z ⟨1, A, D, P, 0, 0⟩).n && padB z ⟨1, A, D, P, 0, 0⟩ then visL (vis (resN z len) left) (join s.1 (nodeOf z ⟨1, A, D, P, 0, 0⟩).lo (nodeOf z ⟨1, A, D, P, 0, 0⟩).n, s.2) ((List.range P).map fun k => A + D + k) else none)) :
    Calls Fahg.prog 90 #[.slice (some ⟨b, off, none⟩) len cap, .int .i64 a, .int .i64 ((left + 1 : Nat) : Int), .pointer (some ⟨g, 0, none⟩)] w fun e w' => e = .returned (.bool V.isSome) ∧ NMv B g w w' ∧ ∀ s', V = some s' → NMst w' B g s'.1 := by
  have hwr : IntKind.u16.wrap (a : Int) = a := by rw [IntKind.wrap_u16]; omega
  have hres := nresolve_in b off len cap a z (by omega) (by omega) hl2 w hRow
  rw [hr] at hres
  simp only [WP.nval] at hres
  have HRS : Hid _ := hres
  have HM : Hid _ := hM
  have HR : Hid _ := hRow
  generalize hlo : (nodeOf z ⟨1, A, D, P, 0, 0⟩).lo = lo at *
  generalize hnn : (nodeOf z ⟨1, A, D, P, 0, 0⟩).n = nn at *
  have HLO : Hid _ := hlo
  have HNN : Hid _ := hnn
  clear hres hr hM hRow hlo hnn
  go_enter Fahg.func90, Fahg.ntmps90
  go_wp2_with fail
  refine Calls.mono HRS.out ?_
  rintro e w1 ⟨rfl, hb1⟩
  have hB2 : Below w.heap.size w (w1.alloc (.cells #[.int .u8 1, .int .u16 A, .int .u8 D, .int .u8 P, .int .u8 0, .int .u16 0] 34)) := below_alloc hb1 (Nat.le_refl _) _
  have hgl : g < w.heap.size := HM.out.lt
  have hgl1 : g < w1.heap.size := Nat.lt_of_lt_of_le hgl hb1.size
  clear hb1 HRS
  go_wp2_with fail
  have hgat := ngather_shape B g z len hl2 _ hSh.out s.1 (w1.alloc (.cells #[.int .u8 1, .int .u16 A, .int .u8 D, .int .u8 P, .int .u8 0, .int .u16 0] 34)) hBg (HM.out.below hB2)
  rw [HLO.out, HNN.out] at hgat
  refine hgat.mono ?_
  rintro e w3 ⟨rfl, hv3, hm3⟩
  clear hgat
  have hp3 := (hv3.block w1.heap.size (by simp) (by omega) (.inr (by intro c f; rw [heap_alloc_last]; intro e; injection e with e; injection e with e1 e2; exact absurd e2 (by decide)))).trans (heap_alloc_last _ _)
  have HV3 : Hid (NMv B g w w3) := (NMv.of_below hB2).trans hv3
  have hBw3 : B ≤ w3.heap.size := Nat.le_trans hBw HV3.out.size
  have hRow3 : Row w3 b off len z := Row.below HR.out (HV3.out.below hBg hBw) hb
  clear hv3 hB2
  cases hf : free s.1 lo nn with
  | false =>
    have hVn : V = none := by rw [hV.out, hf]; simp
    have HVn : Hid _ := hVn
    clear hV hm3 hf hVn
    go_wp2_with fail
    go_ret
    have e := HVn.out
    subst e
    exact ⟨rfl, HV3.out, fun s' h => by cases h⟩
  | true =>
    have hm3' := hm3 hf
    have HF : Hid _ := hf
    have r1 := cell_heap (o := 0) hp3
    have r2 := cell_heap (o := 1) hp3
    have r3 := cell_heap (o := 2) hp3
    have r4 := cell_heap (o := 3) hp3
    have r5 := cell_heap (o := 4) hp3
    have r6 := cell_heap (o := 5) hp3
    simp only [one0, one1, one2, one3, one4, one5] at r1 r2 r3 r4 r5 r6
    have HM3 : Hid _ := hm3'
    have HR3 : Hid _ := hRow3
    have HP3 : Hid _ := hp3
    clear hm3 hm3' hf hp3 hRow3
    go_wp2_with fail
    go_quiet (fail)
    go_wp2_with fail
    have HM4 : Hid (NMst (w3.drewN nq) B g (join s.1 lo nn)) := HM3.out.below (below_drewN' (Below.refl _ _) _)
    have HR4 : Hid (Row (w3.drewN nq) b off len z) := HR3.out
    have HV4 : Hid (NMv B g w (w3.drewN nq)) := HV3.out.trans (.of_below (below_drewN' (Below.refl _ _) _))
    refine (nrun b off len cap z B g left hl2 (by omega) hb hBg IH (A + D) (P) _ (by push_cast; try rfl) (by omega) (join s.1 lo nn, s.2) (w3.drewN nq) HR4.out hBw3 HM4.out V ?_).mono ?_
    · show _ = _
      have e := hV.out
      rw [HF.out, show padB z ⟨1, A, D, P, 0, 0⟩ = true from by simp [padB], Bool.true_and, if_pos rfl] at e
      exact e
    rintro e w5 ⟨rfl, hv5, hm5⟩
    have HV5 : Hid _ := HV4.out.trans hv5
    have HM5 : Hid _ := hm5
    clear hv5 hm5
    go_wp2_with fail
    go_ret
    exact ⟨rfl, HV5.out, HM5.out⟩

set_option maxRecDepth 100000 in
set_option maxHeartbeats 2000000 in
theorem nvisit_ptrs (b off len cap : Nat) (z : Int → Int) (B g left : Nat) (hl2 : len ≤ 256) (hb : b < B) (hBg : B ≤ g) (hleft : left ≤ 7) (IH : Hid (NVisitOk b off len cap z B g left))
    (a : Nat) (s : (Nat → Bool) × Nat) (w : World) (ha : a < len) (hRow : Row w b off len z) (hBw : B ≤ w.heap.size) (hM : NMst w B g s.1) (V : Option ((Nat → Bool) × Nat))
    (A C : Nat) (hC : C ≤ 128) (hA : A + C ≤ len) (hSh : Hid (NShape len ⟨2, A, 0, 0, 6, C⟩)) (hr : rsn z len a = (⟨2, A, 0, 0, 6, C⟩, true))
    (hV : Hid (V = if free s.1 (nodeOf z ⟨2, A, 0, 0, 6, C⟩).lo (nodeOf z ⟨2, A, 0, 0, 6, C⟩).n && padB z ⟨2, A, 0, 0, 6, C⟩ then visL (vis (resN z len) left) (join s.1 (nodeOf z ⟨2, A, 0, 0, 6, C⟩).lo (nodeOf z ⟨2, A, 0, 0, 6, C⟩).n, s.2) ((List.range C).map fun k => A + k) else none)) :
    Calls Fahg.prog 90 #[.slice (some ⟨b, off, none⟩) len cap, .int .i64 a, .int .i64 ((left + 1 : Nat) : Int), .pointer (some ⟨g, 0, none⟩)] w fun e w' => e = .returned (.bool V.isSome) ∧ NMv B g w w' ∧ ∀ s', V = some s' → NMst w' B g s'.1 := by
  have hwr : IntKind.u16.wrap (a : Int) = a := by rw [IntKind.wrap_u16]; omega
  have hres := nresolve_in b off len cap a z (by omega) (by omega) hl2 w hRow
  rw [hr] at hres
  simp only [WP.nval] at hres
  have HRS : Hid _ := hres
  have HM : Hid _ := hM
  have HR : Hid _ := hRow
  generalize hlo : (nodeOf z ⟨2, A, 0, 0, 6, C⟩).lo = lo at *
  generalize hnn : (nodeOf z ⟨2, A, 0, 0, 6, C⟩).n = nn at *
  have HLO : Hid _ := hlo
  have HNN : Hid _ := hnn
  clear hres hr hM hRow hlo hnn
  go_enter Fahg.func90, Fahg.ntmps90
  go_wp2_with fail
  refine Calls.mono HRS.out ?_
  rintro e w1 ⟨rfl, hb1⟩
  have hB2 : Below w.heap.size w (w1.alloc (.cells #[.int .u8 2, .int .u16 A, .int .u8 0, .int .u8 0, .int .u8 6, .int .u16 C] 34)) := below_alloc hb1 (Nat.le_refl _) _
  have hgl : g < w.heap.size := HM.out.lt
  have hgl1 : g < w1.heap.size := Nat.lt_of_lt_of_le hgl hb1.size
  clear hb1 HRS
  go_wp2_with fail
  have hgat := ngather_shape B g z len hl2 _ hSh.out s.1 (w1.alloc (.cells #[.int .u8 2, .int .u16 A, .int .u8 0, .int .u8 0, .int .u8 6, .int .u16 C] 34)) hBg (HM.out.below hB2)
  rw [HLO.out, HNN.out] at hgat
  refine hgat.mono ?_
  rintro e w3 ⟨rfl, hv3, hm3⟩
  clear hgat
  have hp3 := (hv3.block w1.heap.size (by simp) (by omega) (.inr (by intro c f; rw [heap_alloc_last]; intro e; injection e with e; injection e with e1 e2; exact absurd e2 (by decide)))).trans (heap_alloc_last _ _)
  have HV3 : Hid (NMv B g w w3) := (NMv.of_below hB2).trans hv3
  have hBw3 : B ≤ w3.heap.size := Nat.le_trans hBw HV3.out.size
  have hRow3 : Row w3 b off len z := Row.below HR.out (HV3.out.below hBg hBw) hb
  clear hv3 hB2
  cases hf : free s.1 lo nn with
  | false =>
    have hVn : V = none := by rw [hV.out, hf]; simp
    have HVn : Hid _ := hVn
    clear hV hm3 hf hVn
    go_wp2_with fail
    go_ret
    have e := HVn.out
    subst e
    exact ⟨rfl, HV3.out, fun s' h => by cases h⟩
  | true =>
    have hm3' := hm3 hf
    have HF : Hid _ := hf
    have r1 := cell_heap (o := 0) hp3
    have r2 := cell_heap (o := 1) hp3
    have r3 := cell_heap (o := 2) hp3
    have r4 := cell_heap (o := 3) hp3
    have r5 := cell_heap (o := 4) hp3
    have r6 := cell_heap (o := 5) hp3
    simp only [one0, one1, one2, one3, one4, one5] at r1 r2 r3 r4 r5 r6
    have HM3 : Hid _ := hm3'
    have HR3 : Hid _ := hRow3
    have HP3 : Hid _ := hp3
    clear hm3 hm3' hf hp3 hRow3
    go_wp2_with fail
    go_quiet (fail)
    go_wp2_with fail
    have HM4 : Hid (NMst (w3.drewN nq) B g (join s.1 lo nn)) := HM3.out.below (below_drewN' (Below.refl _ _) _)
    have HR4 : Hid (Row (w3.drewN nq) b off len z) := HR3.out
    have HV4 : Hid (NMv B g w (w3.drewN nq)) := HV3.out.trans (.of_below (below_drewN' (Below.refl _ _) _))
    refine (nrun b off len cap z B g left hl2 (by omega) hb hBg IH (A) (C) _ (by push_cast; try rfl) (by omega) (join s.1 lo nn, s.2) (w3.drewN nq) HR4.out hBw3 HM4.out V ?_).mono ?_
    · show _ = _
      have e := hV.out
      rw [HF.out, show padB z ⟨2, A, 0, 0, 6, C⟩ = true from by simp [padB], Bool.true_and, if_pos rfl] at e
      exact e
    rintro e w5 ⟨rfl, hv5, hm5⟩
    have HV5 : Hid _ := HV4.out.trans hv5
    have HM5 : Hid _ := hm5
    clear hv5 hm5
    go_wp2_with fail
    go_ret
    exact ⟨rfl, HV5.out, HM5.out⟩

set_option maxRecDepth 100000 in
set_option maxHeartbeats 2000000 in
theorem nvisit_scalar (b off len cap : Nat) (z : Int → Int) (B g left : Nat) (hl2 : len ≤ 256) (hb : b < B) (hBg : B ≤ g) (hleft : left ≤ 7) (IH : Hid (NVisitOk b off len cap z B g left))
    (a : Nat) (s : (Nat → Bool) × Nat) (w : World) (ha : a < len) (hRow : Row w b off len z) (hBw : B ≤ w.heap.size) (hM : NMst w B g s.1) (V : Option ((Nat → Bool) × Nat))
    (A c C W : Nat) (hc1 : 2 ≤ c) (hc5 : c ≤ 5) (h6 : ((c : Int) == 6) = false) (h7 : ((c : Int) == 7) = false) (hC : C ≤ 128) (hW : (W : Int) = ((C : Int) * elBits c + 63) / 64) (hA : A + W ≤ len) (hw : WP.words ⟨2, A, 0, 0, c, C⟩ = (W : Int)) (hSh : Hid (NShape len ⟨2, A, 0, 0, c, C⟩)) (hr : rsn z len a = (⟨2, A, 0, 0, c, C⟩, true))
    (hV : Hid (V = if free s.1 (nodeOf z ⟨2, A, 0, 0, c, C⟩).lo (nodeOf z ⟨2, A, 0, 0, c, C⟩).n && padB z ⟨2, A, 0, 0, c, C⟩ then visL (vis (resN z len) left) (join s.1 (nodeOf z ⟨2, A, 0, 0, c, C⟩).lo (nodeOf z ⟨2, A, 0, 0, c, C⟩).n, s.2) ([]) else none)) :
    Calls Fahg.prog 90 #[.slice (some ⟨b, off, none⟩) len cap, .int .i64 a, .int .i64 ((left + 1 : Nat) : Int), .pointer (some ⟨g, 0, none⟩)] w fun e w' => e = .returned (.bool V.isSome) ∧ NMv B g w w' ∧ ∀ s', V = some s' → NMst w' B g s'.1 := by
  have hwr : IntKind.u16.wrap (a : Int) = a := by rw [IntKind.wrap_u16]; omega
  have hres := nresolve_in b off len cap a z (by omega) (by omega) hl2 w hRow
  rw [hr] at hres
  simp only [WP.nval] at hres
  have HRS : Hid _ := hres
  have HM : Hid _ := hM
  have HR : Hid _ := hRow
  generalize hlo : (nodeOf z ⟨2, A, 0, 0, c, C⟩).lo = lo at *
  generalize hnn : (nodeOf z ⟨2, A, 0, 0, c, C⟩).n = nn at *
  have HLO : Hid _ := hlo
  have HNN : Hid _ := hnn
  clear hres hr hM hRow hlo hnn
  go_enter Fahg.func90, Fahg.ntmps90
  go_wp2_with fail
  refine Calls.mono HRS.out ?_
  rintro e w1 ⟨rfl, hb1⟩
  have hB2 : Below w.heap.size w (w1.alloc (.cells #[.int .u8 2, .int .u16 A, .int .u8 0, .int .u8 0, .int .u8 c, .int .u16 C] 34)) := below_alloc hb1 (Nat.le_refl _) _
  have hgl : g < w.heap.size := HM.out.lt
  have hgl1 : g < w1.heap.size := Nat.lt_of_lt_of_le hgl hb1.size
  clear hb1 HRS
  go_wp2_with fail
  have hgat := ngather_shape B g z len hl2 _ hSh.out s.1 (w1.alloc (.cells #[.int .u8 2, .int .u16 A, .int .u8 0, .int .u8 0, .int .u8 c, .int .u16 C] 34)) hBg (HM.out.below hB2)
  rw [HLO.out, HNN.out] at hgat
  refine hgat.mono ?_
  rintro e w3 ⟨rfl, hv3, hm3⟩
  clear hgat
  have hp3 := (hv3.block w1.heap.size (by simp) (by omega) (.inr (by intro c f; rw [heap_alloc_last]; intro e; injection e with e; injection e with e1 e2; exact absurd e2 (by decide)))).trans (heap_alloc_last _ _)
  have HV3 : Hid (NMv B g w w3) := (NMv.of_below hB2).trans hv3
  have hBw3 : B ≤ w3.heap.size := Nat.le_trans hBw HV3.out.size
  have hRow3 : Row w3 b off len z := Row.below HR.out (HV3.out.below hBg hBw) hb
  clear hv3 hB2
  cases hf : free s.1 lo nn with
  | false =>
    have hVn : V = none := by rw [hV.out, hf]; simp
    have HVn : Hid _ := hVn
    clear hV hm3 hf hVn
    go_wp2_with fail
    go_ret
    have e := HVn.out
    subst e
    exact ⟨rfl, HV3.out, fun s' h => by cases h⟩
  | true =>
    have hm3' := hm3 hf
    have HF : Hid _ := hf
    have r1 := cell_heap (o := 0) hp3
    have r2 := cell_heap (o := 1) hp3
    have r3 := cell_heap (o := 2) hp3
    have r4 := cell_heap (o := 3) hp3
    have r5 := cell_heap (o := 4) hp3
    have r6 := cell_heap (o := 5) hp3
    simp only [one0, one1, one2, one3, one4, one5] at r1 r2 r3 r4 r5 r6
    have HM3 : Hid _ := hm3'
    have HR3 : Hid _ := hRow3
    have HP3 : Hid _ := hp3
    clear hm3 hm3' hf hp3 hRow3
    go_wp2_with fail
    go_quiet (fail)
    go_wp2_with fail
    have HM4 : Hid (NMst (w3.drewN nq) B g (join s.1 lo nn)) := HM3.out.below (below_drewN' (Below.refl _ _) _)
    have HR4 : Hid (Row (w3.drewN nq) b off len z) := HR3.out
    have HV4 : Hid (NMv B g w (w3.drewN nq)) := HV3.out.trans (.of_below (below_drewN' (Below.refl _ _) _))
    refine (ztail_shape b off len cap z A c C W hc1 hc5 hC hW hA hw hl2 hSh.out (w3.drewN nq) HR4.out (by show b < w3.heap.size; omega)).mono ?_
    rintro e w5 ⟨rfl, hb5⟩
    have HV5 : Hid (NMv B g w w5) := HV4.out.trans (.of_below hb5)
    have HM5 : Hid _ := HM4.out.below hb5
    have hVe := hV.out
    rw [HF.out, Bool.true_and] at hVe
    have HVE : Hid _ := hVe
    clear hb5 hVe hV
    generalize padB z ⟨2, A, 0, 0, c, C⟩ = PB at *
    go_wp2_with fail
    go_ret
    have e := HVE.out
    cases PB with
    | false =>
      rw [if_neg (by decide)] at e
      subst e
      exact ⟨rfl, HV5.out, fun s' h => by cases h⟩
    | true =>
      rw [if_pos rfl, visL] at e
      subst e
      exact ⟨rfl, HV5.out, fun s' h => by cases h; exact HM5.out⟩

set_option maxRecDepth 100000 in
set_option maxHeartbeats 2000000 in
theorem nvisit_structs (b off len cap : Nat) (z : Int → Int) (B g left : Nat) (hl2 : len ≤ 256) (hb : b < B) (hBg : B ≤ g) (hleft : left ≤ 7) (IH : Hid (NVisitOk b off len cap z B g left))
    (a : Nat) (s : (Nat → Bool) × Nat) (w : World) (ha : a < len) (hRow : Row w b off len z) (hBw : B ≤ w.heap.size) (hM : NMst w B g s.1) (V : Option ((Nat → Bool) × Nat))
    (A D P C : Nat) (hD : D ≤ 8) (hP : P ≤ 8) (hC : C ≤ 128) (hA1 : 1 ≤ A) (hA : A + C * (D + P) ≤ len) (hSh : Hid (NShape len ⟨2, A, D, P, 7, C⟩)) (hr : rsn z len a = (⟨2, A, D, P, 7, C⟩, true))
    (hV : Hid (V = if free s.1 (nodeOf z ⟨2, A, D, P, 7, C⟩).lo (nodeOf z ⟨2, A, D, P, 7, C⟩).n && padB z ⟨2, A, D, P, 7, C⟩ then visL (vis (resN z len) left) (join s.1 (nodeOf z ⟨2, A, D, P, 7, C⟩).lo (nodeOf z ⟨2, A, D, P, 7, C⟩).n, s.2) ((List.range (C * P)).map fun k => A + k / P * (D + P) + D + k % P) else none)) :
    Calls Fahg.prog 90 #[.slice (some ⟨b, off, none⟩) len cap, .int .i64 a, .int .i64 ((left + 1 : Nat) : Int), .pointer (some ⟨g, 0, none⟩)] w fun e w' => e = .returned (.bool V.isSome) ∧ NMv B g w w' ∧ ∀ s', V = some s' → NMst w' B g s'.1 := by
  have hwr : IntKind.u16.wrap (a : Int) = a := by rw [IntKind.wrap_u16]; omega
  have hres := nresolve_in b off len cap a z (by omega) (by omega) hl2 w hRow
  rw [hr] at hres
  simp only [WP.nval] at hres
  have HRS : Hid _ := hres
  have HM : Hid _ := hM
  have HR : Hid _ := hRow
  generalize hlo : (nodeOf z ⟨2, A, D, P, 7, C⟩).lo = lo at *
  generalize hnn : (nodeOf z ⟨2, A, D, P, 7, C⟩).n = nn at *
  have HLO : Hid _ := hlo
  have HNN : Hid _ := hnn
  clear hres hr hM hRow hlo hnn
  go_enter Fahg.func90, Fahg.ntmps90
  go_wp2_with fail
  refine Calls.mono HRS.out ?_
  rintro e w1 ⟨rfl, hb1⟩
  have hB2 : Below w.heap.size w (w1.alloc (.cells #[.int .u8 2, .int .u16 A, .int .u8 D, .int .u8 P, .int .u8 7, .int .u16 C] 34)) := below_alloc hb1 (Nat.le_refl _) _
  have hgl : g < w.heap.size := HM.out.lt
  have hgl1 : g < w1.heap.size := Nat.lt_of_lt_of_le hgl hb1.size
  clear hb1 HRS
  go_wp2_with fail
  have hgat := ngather_shape B g z len hl2 _ hSh.out s.1 (w1.alloc (.cells #[.int .u8 2, .int .u16 A, .int .u8 D, .int .u8 P, .int .u8 7, .int .u16 C] 34)) hBg (HM.out.below hB2)
  rw [HLO.out, HNN.out] at hgat
  refine hgat.mono ?_
  rintro e w3 ⟨rfl, hv3, hm3⟩
  clear hgat
  have hp3 := (hv3.block w1.heap.size (by simp) (by omega) (.inr (by intro c f; rw [heap_alloc_last]; intro e; injection e with e; injection e with e1 e2; exact absurd e2 (by decide)))).trans (heap_alloc_last _ _)
  have HV3 : Hid (NMv B g w w3) := (NMv.of_below hB2).trans hv3
  have hBw3 : B ≤ w3.heap.size := Nat.le_trans hBw HV3.out.size
  have hRow3 : Row w3 b off len z := Row.below HR.out (HV3.out.below hBg hBw) hb
  clear hv3 hB2
  cases hf : free s.1 lo nn with
  | false =>
    have hVn : V = none := by rw [hV.out, hf]; simp
    have HVn : Hid _ := hVn
    clear hV hm3 hf hVn
    go_wp2_with fail
    go_ret
    have e := HVn.out
    subst e
    exact ⟨rfl, HV3.out, fun s' h => by cases h⟩
  | true =>
    have hm3' := hm3 hf
    have HF : Hid _ := hf
    have r1 := cell_heap (o := 0) hp3
    have r2 := cell_heap (o := 1) hp3
    have r3 := cell_heap (o := 2) hp3
    have r4 := cell_heap (o := 3) hp3
    have r5 := cell_heap (o := 4) hp3
    have r6 := cell_heap (o := 5) hp3
    simp only [one0, one1, one2, one3, one4, one5] at r1 r2 r3 r4 r5 r6
    have HM3 : Hid _ := hm3'
    have HR3 : Hid _ := hRow3
    have HP3 : Hid _ := hp3
    clear hm3 hm3' hf hp3 hRow3
    go_wp2_with fail
    go_quiet (fail)
    go_wp2_with fail
    have HM4 : Hid (NMst (w3.drewN nq) B g (join s.1 lo nn)) := HM3.out.below (below_drewN' (Below.refl _ _) _)
    have HR4 : Hid (Row (w3.drewN nq) b off len z) := HR3.out
    have HV4 : Hid (NMv B g w (w3.drewN nq)) := HV3.out.trans (.of_below (below_drewN' (Below.refl _ _) _))
    have hVe := hV.out
    rw [HF.out, show padB z ⟨2, A, D, P, 7, C⟩ = true from by simp [padB], Bool.true_and, if_pos rfl] at hVe
    have HV5 : Hid _ := hVe
    have hp4 : (w3.drewN nq).heap[w1.heap.size]? = some (.cells #[.int .u8 2, .int .u16 A, .int .u8 D, .int .u8 P, .int .u8 7, .int .u16 C] 34 (0, 0)) := HP3.out
    have HP4 : Hid _ := hp4
    have hBw4 : w1.heap.size < (w3.drewN nq).heap.size := (Array.getElem?_eq_some_iff.1 hp4).1
    clear hVe hV r1 r2 r3 r4 r5 r6 HM3 HR3 HP3 HV3 hp4
    generalize (w3.drewN nq) = w4 at *
    go_loopg [14] (C : Nat) (fun k I wr => ∃ (e : Nat) (s' : (Nat → Bool) × Nat), e + k = C ∧ I = .int .i64 (e : Nat) ∧ NMst wr B g s'.1 ∧ NMv B g w wr ∧ wr.heap[w1.heap.size]? = some (.cells #[.int .u8 2, .int .u16 A, .int .u8 D, .int .u8 P, .int .u8 7, .int .u16 C] 34 (0, 0)) ∧ V = visL (vis (resN z len) left) s' (((List.range (C * P)).map fun k => A + k / P * (D + P) + D + k % P).drop (e * P)))
    case atStart => exact ⟨0, _, by omega, rfl, HM4.out, HV4.out, HP4.out, by rw [Nat.zero_mul, List.drop_zero]; exact HV5.out⟩
    case round =>
      obtain ⟨e, s1, he, rfl, hM, hv, hp, hVe⟩ := hrel
      have HM1 : Hid _ := hM
      have HV1 : Hid _ := hv
      have HVE : Hid _ := hVe
      have HP1 : Hid _ := hp
      have r2 := cell_heap (o := 1) hp
      have r3 := cell_heap (o := 2) hp
      have r4 := cell_heap (o := 3) hp
      have r6 := cell_heap (o := 5) hp
      simp only [one1, one2, one3, one5] at r2 r3 r4 r6
      clear hM hv hVe hp HM4 HV4 HV5 HP4 HR4
      by_cases hlt : e < C
      · have hiC : (e + 1) * (D + P) ≤ C * (D + P) := Nat.mul_le_mul_right _ (by omega)
        rw [Nat.add_mul, Nat.one_mul] at hiC
        have hm0 : 0 ≤ (e : Int) * ((D : Int) + P) := Int.mul_nonneg (by omega) (by omega)
        have hm1 : (e : Int) * ((D : Int) + P) ≤ 257 := by
          have : ((e * (D + P) : Nat) : Int) ≤ 257 := by omega
          simpa using this
        have hks : ((List.range (C * P)).map fun k => A + k / P * (D + P) + D + k % P).drop (e * P) = ((List.range P).map fun k => A + e * (D + P) + D + k) ++ ((List.range (C * P)).map fun k => A + k / P * (D + P) + D + k % P).drop ((e + 1) * P) := by
          have hle : (e + 1) * P ≤ C * P := Nat.mul_le_mul_right _ hlt
          rw [Nat.add_mul, Nat.one_mul] at hle ⊢
          apply List.ext_getElem?
          intro j
          rw [List.getElem?_drop]
          by_cases hj : j < P
          · rw [List.getElem?_append_left (by simpa using hj), List.getElem?_map, List.getElem?_map, List.getElem?_range (by omega), List.getElem?_range hj]
            simp only [Option.map_some]
            rw [Nat.mul_comm e P, Nat.mul_add_div (by omega), Nat.mul_add_mod, Nat.div_eq_of_lt hj, Nat.mod_eq_of_lt hj]; rfl
          · rw [List.getElem?_append_right (by simpa using hj), List.getElem?_drop]
            simp only [List.length_map, List.length_range]
            congr 1; omega
        have HKS : Hid _ := hks
        clear hks
        go_wp2_with fail
        have hwsz : B ≤ wr.heap.size := Nat.le_trans hBw HV1.out.size
        obtain ⟨V1, hV1⟩ : ∃ V1, V1 = visL (vis (resN z len) left) s1 ((List.range P).map fun k => A + e * (D + P) + D + k) := ⟨_, rfl⟩
        refine (nrun b off len cap z B g left hl2 (by omega) hb hBg IH (A + e * (D + P) + D) P _ (by push_cast; try rfl) (by omega) s1 wr (Row.below HR.out (HV1.out.below hBg hBw) hb) hwsz HM1.out V1 hV1).mono ?_
        rintro e' w5 ⟨rfl, hv5, hm5⟩
        have hVV := HVE.out
        rw [HKS.out, visL_append, ← hV1] at hVV
        have hp5 := (hv5.block w1.heap.size (Array.getElem?_eq_some_iff.1 HP1.out).1 (by omega) (.inr (by intro c f; rw [HP1.out]; intro e; injection e with e; injection e with e1 e2; exact absurd e2 (by decide)))).trans HP1.out
        have HV6 : Hid _ := HV1.out.trans hv5
        have HP5 : Hid _ := hp5
        clear hv5 HVE HV1 HM1 HKS hV1 HP1 hp5 r2 r3 r4 r6
        cases V1 with
        | none =>
          have HVn : Hid (V = none) := hVV
          clear hVV hm5
          simp only [Option.isSome_none]
          go_wp2_with fail
          go_ret
          have e := HVn.out
          subst e
          exact ⟨rfl, HV6.out, fun s' h => by cases h⟩
        | some s3 =>
          have HVn : Hid (V = visL (vis (resN z len) left) s3 (((List.range (C * P)).map fun k => A + k / P * (D + P) + D + k % P).drop ((e + 1) * P))) := hVV
          have HM6 : Hid _ := hm5 s3 rfl
          clear hVV hm5
          simp only [Option.isSome_some]
          go_wp2_with fail
          go_roundg (C - (e + 1))
          case rel => exact ⟨e + 1, s3, by omega, by simp, HM6.out, HV6.out, HP5.out, HVn.out⟩
          case measure => omega
      · obtain hie : e = C := by omega
        go_wp2_with fail
        go_ret
        have e1 := HVE.out
        rw [hie, drop_map_end, visL] at e1
        subst e1
        exact ⟨rfl, HV1.out, fun s' h => by cases h; exact HM1.out⟩
end Go.Proofs.Ygcfah
