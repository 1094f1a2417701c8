/- law.mark, a round. -/
import Derived.Test.YgcfahNstep
import Derived.Test.YgcfahQm
import Derived.Test.YgcfahQs
import Derived.Deep.LoopGhost
import Derived.Deep.RegionHeld3
namespace Go.Proofs.Ygcfah
open Go.RowKit
set_option linter.unusedVariables false
set_option linter.unusedSimpArgs false
/-- law.marks in memory. -/
structure Mk (w : World) (g : Nat) (F : Nat → Bool) (sum : Nat) : Prop where
  c : ∀ i, i < 256 → w.cell? ⟨g, i, none⟩ = some (.bool (F i))
  f : ∀ j, j < 257 → w.frozen? ⟨g, j, none⟩ = false
  n : w.cell? ⟨g, 256, none⟩ = some (.int .i64 sum)
theorem Mk.below {w w' : World} {g : Nat} {F : Nat → Bool} {sum : Nat} (h : Mk w g F sum) (hb : Below w.heap.size w w') : Mk w' g F sum := by
  have hg : g < w.heap.size := World.block_lt_of_cell? w ⟨g, 256, none⟩ h.n
  exact ⟨fun i hi => (hb.cell (p := ⟨g, i, none⟩) hg).trans (h.c i hi), fun j hj => (hb.frozen (p := ⟨g, j, none⟩) hg).trans (h.f j hj), (hb.cell (p := ⟨g, 256, none⟩) hg).trans h.n⟩
theorem Mk.lt {w : World} {g : Nat} {F : Nat → Bool} {sum : Nat} (h : Mk w g F sum) : g < w.heap.size := World.block_lt_of_cell? w ⟨g, 256, none⟩ h.n
theorem Mk.sum_ {w : World} {g : Nat} {F : Nat → Bool} {sum : Nat} (h : Mk w g F sum) (n : Nat) : Mk (w.setCell ⟨g, 256, none⟩ (.int .i64 n)) g F n :=
  ⟨fun i hi => (World.cell?_setCell_other _ _ _ _ (by intro e; injection e; omega)).trans (h.c i hi), fun j hj => by simp [go_sem, h.f j hj], World.cell?_setCell_same' _ _ _ (by rw [h.n]; rfl)⟩
theorem Mk.put {w : World} {g : Nat} {F : Nat → Bool} {sum : Nat} (h : Mk w g F sum) (i : Nat) (hi : i < 256) : Mk (w.setCell ⟨g, i, none⟩ (.bool true)) g (join F i 1) sum := by
  refine ⟨fun j hj => ?_, fun j hj => by simp [go_sem, h.f j hj], (World.cell?_setCell_other _ _ _ _ (by intro e; injection e; omega)).trans h.n⟩
  by_cases e : j = i
  · subst e
    rw [World.cell?_setCell_same' _ _ _ (by rw [h.c j hj]; rfl)]
    simp [join]
  · rw [World.cell?_setCell_other _ _ _ _ (by intro k; injection k; omega), h.c j hj]
    have : join F i 1 j = F j := by
      simp only [join]
      have : (decide (i ≤ j) && decide (j < i + 1)) = false := by simp; omega
      rw [this, Bool.or_false]
    rw [this]
/-- What mark does where all below is sound. -/
def MarkOk (b off len cap : Nat) (z : Int → Int) (g l : Nat) : Prop :=
  ∀ (a : Nat) (L : List Node) (F : Nat → Bool) (sum : Nat) (w : World), a < len → collect (resN z len) l a = some L → sum + wordsL L ≤ 100000 → Row w b off len z → b < w.heap.size → Mk w g F sum →
    Calls Fahg.prog 32 #[.slice (some ⟨b, off, none⟩) len cap, .int .i64 a, .int .i64 ((l + 1 : Nat) : Int), .pointer (some ⟨g, 0, none⟩)] w fun e w' => e = .returned (.bool true) ∧ Off g w w' ∧ Mk w' g (joinL F L) (sum + wordsL L)
theorem mark_at {b off len cap : Nat} {z : Int → Int} {g l : Nat} (h : MarkOk b off len cap z g l) (a : Nat) (L : List Node) (F : Nat → Bool) (sum : Nat) (w : World) (x : Int) (hx : x = ((l + 1 : Nat) : Int)) (ha : a < len) (hc : collect (resN z len) l a = some L) (hs : sum + wordsL L ≤ 100000) (hr : Row w b off len z) (hb : b < w.heap.size) (hm : Mk w g F sum) :
    Calls Fahg.prog 32 #[.slice (some ⟨b, off, none⟩) len cap, .int .i64 a, .int .i64 x, .pointer (some ⟨g, 0, none⟩)] w fun e w' => e = .returned (.bool true) ∧ Off g w w' ∧ Mk w' g (joinL F L) (sum + wordsL L) := by
  subst hx; exact h a L F sum w ha hc hs hr hb hm
theorem join_one (F : Nat → Bool) (lo d : Nat) : join (join F lo d) (lo + d) 1 = join F lo (d + 1) := join_add F lo d 1
set_option maxRecDepth 100000 in
set_option maxHeartbeats 2000000 in
theorem mark_x (b off len cap : Nat) (z : Int → Int) (hl2 : len ≤ 256) (g l a : Nat) (hle : l ≤ 8) (ha : a < len) (w : World) (hRow : Row w b off len z) (hb : b < w.heap.size) (hbg : b ≠ g) (F : Nat → Bool) (sum : Nat) (hM : Mk w g F sum)
    (p1 p2 p3 p4 p5 p6 : Int) (hSh : Hid (NShape len ⟨p1, p2, p3, p4, p5, p6⟩)) (hk0 : (p1 == 0) = false) (hr : rsn z len a = (⟨p1, p2, p3, p4, p5, p6⟩, true)) (lo n : Nat)
    (HFW : Hid (∀ w, Calls Fahg.prog 94 #[WP.nval ⟨p1, p2, p3, p4, p5, p6⟩] w fun e w' => e = .returned (.int .i64 lo) ∧ ∃ c nq, w' = (w.alloc (.cells c 34)).drewN nq))
    (HWD : Hid (∀ w, Calls Fahg.prog 95 #[WP.nval ⟨p1, p2, p3, p4, p5, p6⟩] w fun e w' => e = .returned (.int .u16 n) ∧ ∃ c nq, w' = (w.alloc (.cells c 34)).drewN nq)) (hln : n = 0 ∨ lo + n ≤ 256) (hlo : lo ≤ 256) (hn : n ≤ 257) (ks : List Nat) (LK : List Node) (hLK : Hid (collectL (collect (resN z len) l) ks = some LK)) (hsum : sum + n + wordsL LK ≤ 100000) (f0 c0 r0 st0 : Nat) (HSL : Hid (∀ w, Calls Fahg.prog 96 #[WP.nval ⟨p1, p2, p3, p4, p5, p6⟩] w fun e w' => e = .returned (slotsV f0 c0 r0 st0) ∧ Below w.heap.size w w')) (hc0 : ks.length = c0) (hc1 : c0 ≤ 256)
    (HAT : Hid (∀ k, k < c0 → ∃ y, ks.drop k = y :: ks.drop (k + 1) ∧ y < len ∧ ∀ w, Calls Fahg.prog 97 #[slotsV f0 c0 r0 st0, .int .i64 k] w fun e w' => e = .returned (.int .i64 y) ∧ ∃ cc nq, w' = (w.alloc (.cells cc 185)).drewN nq)) (IH : Hid (MarkOk b off len cap z g l)) :
    Calls Fahg.prog 32 #[.slice (some ⟨b, off, none⟩) len cap, .int .i64 a, .int .i64 ((l + 2 : Nat) : Int), .pointer (some ⟨g, 0, none⟩)] w fun e w' => e = .returned (.bool true) ∧ Off g w w' ∧ Mk w' g (joinL (join F lo n) LK) (sum + n + wordsL LK) := by
  have hwr : IntKind.u16.wrap (a : Int) = a := by rw [IntKind.wrap_u16]; omega
  have hwn : IntKind.i64.wrap (n : Int) = n := by rw [IntKind.wrap_i64]; omega
  have hres := nresolve_in b off len cap a z (by omega) (by omega) hl2 w hRow
  rw [hr] at hres
  simp only [WP.nval, slotsV] at hres HFW HWD HSL HAT
  have HRS : Hid _ := hres
  have HM : Hid _ := hM
  have HR : Hid _ := hRow
  clear hres hr hM hRow
  go_enter Fahg.func32, Fahg.ntmps32
  go_wp2_with fail
  refine Calls.mono HRS.out ?_
  rintro e w1 ⟨rfl, hb1⟩
  have hO1 : Off g w (w1.alloc (.cells #[.int .u8 p1, .int .u16 p2, .int .u8 p3, .int .u8 p4, .int .u8 p5, .int .u16 p6] 34)) := (Off.of_below hb1).alloc _
  have M2 := (HM.out.below hb1).below (below_alloc (Below.refl _ _) (Nat.le_refl _) (.cells #[.int .u8 p1, .int .u16 p2, .int .u8 p3, .int .u8 p4, .int .u8 p5, .int .u16 p6] 34))
  have hgl : g < w1.heap.size := (HM.out.below hb1).lt
  clear hb1 HRS
  go_wp2_with fail
  obtain ⟨w3, hw3⟩ : ∃ w3, w3 = w1.alloc (.cells #[.int .u8 p1, .int .u16 p2, .int .u8 p3, .int .u8 p4, .int .u8 p5, .int .u16 p6] 34) := ⟨_, rfl⟩
  rw [← hw3] at hO1 M2 ⊢
  have k : ∀ o, w3.cell? ⟨w1.heap.size, o, none⟩ = #[Value.int .u8 p1, .int .u16 p2, .int .u8 p3, .int .u8 p4, .int .u8 p5, .int .u16 p6][o]? := fun o => by rw [hw3]; exact World.cell?_alloc_at _ _ _ _ rfl
  have hz3 : w1.heap.size < w3.heap.size := by rw [hw3]; simp
  have r1 := k 0
  have r2 := k 1
  have r3 := k 2
  have r4 := k 3
  have r5 := k 4
  have r6 := k 5
  simp only [one0, one1, one2, one3, one4, one5] at r1 r2 r3 r4 r5 r6
  have HM2 : Hid _ := M2
  have HO1 : Hid _ := hO1
  have HK3 : Hid _ := k
  clear hw3 k M2 hO1
  go_region_held3 (fun w' => w'.cell? ⟨w1.heap.size, 0, none⟩ = some (.int .u8 p1) ∧ w'.cell? ⟨w1.heap.size, 1, none⟩ = some (.int .u16 p2) ∧ w'.cell? ⟨w1.heap.size, 2, none⟩ = some (.int .u8 p3) ∧ w'.cell? ⟨w1.heap.size, 3, none⟩ = some (.int .u8 p4) ∧ w'.cell? ⟨w1.heap.size, 4, none⟩ = some (.int .u8 p5) ∧ w'.cell? ⟨w1.heap.size, 5, none⟩ = some (.int .u16 p6) ∧ w1.heap.size < w'.heap.size) ((repeat' apply And.intro) <;> first | (simp [go_sem, r1, r2, r3, r4, r5, r6, hz3]; done) | (simp; omega))
    (first | (go_at_call 94; refine (HFW.out _).mono ?_; rintro e wI ⟨rfl, cA, nA, rfl⟩) | (go_at_call 95; refine (HWD.out _).mono ?_; rintro e wI ⟨rfl, cB, nB, rfl⟩))
  obtain ⟨w4, hw4⟩ : ∃ w4, w4 = ((((w3.alloc (Obj.cells cA 34)).drewN (1 + nA)).alloc (Obj.cells cB 34)).drewN nB) := ⟨_, rfl⟩
  rw [← hw4]
  have hb4 : Below w3.heap.size w3 w4 := by rw [hw4]; exact below_drewN' (below_alloc (below_drewN' (below_alloc (Below.refl _ _) (Nat.le_refl _) _) _) (Nat.le_refl _) _) _
  have k4 := fun o => (hb4.cell (p := ⟨w1.heap.size, o, none⟩) hz3).trans (HK3.out o)
  have M4 := HM2.out.below hb4
  have hO4 : Off g w w4 := HO1.out.trans (Off.of_below hb4)
  have hz4 : w1.heap.size < w4.heap.size := Nat.lt_of_lt_of_le hz3 hb4.size
  have c1 := M4.n
  have f1 := M4.f 256 (by omega)
  have HK4 : Hid _ := k4
  have HM4 : Hid _ := M4
  have HO4 : Hid _ := hO4
  clear hw4 hb4 k4 M4 hO4 r1 r2 r3 r4 r5 r6 HM2 HO1 HK3 HFW HWD
  go_wp2_with fail
  have M5 := HM4.out.sum_ (sum + n)
  rw [show ((sum + n : Nat) : Int) = (sum : Int) + n from by push_cast; rfl] at M5
  have hO5 : Off g w (w4.setCell ⟨g, 256, none⟩ (.int .i64 ((sum : Int) + n))) := HO4.out.setCell rfl _
  have k5 : ∀ o, (w4.setCell ⟨g, 256, none⟩ (.int .i64 ((sum : Int) + n))).cell? ⟨w1.heap.size, o, none⟩ = #[Value.int .u8 p1, .int .u16 p2, .int .u8 p3, .int .u8 p4, .int .u8 p5, .int .u16 p6][o]? := fun o => (World.cell?_setCell_other _ _ _ _ (by intro e; injection e; omega)).trans (HK4.out o)
  have hz5 : w1.heap.size < (w4.setCell ⟨g, 256, none⟩ (.int .i64 ((sum : Int) + n))).heap.size := by simpa using hz4
  generalize (w4.setCell ⟨g, 256, none⟩ (.int .i64 ((sum : Int) + n))) = w5 at *
  have HM5 : Hid _ := M5
  have HO5 : Hid _ := hO5
  have HK5 : Hid _ := k5
  clear M5 hO5 k5 HM4 HO4 HK4 c1 f1
  go_loopg [13] n (fun k I wr => ∃ d : Nat, d + k = n ∧ I = .int .i64 ((lo : Int) + d) ∧ Mk wr g (join F lo d) (sum + n) ∧ Off g w5 wr)
  case atStart => exact ⟨0, by omega, by simp, by rw [join_zero]; exact HM5.out, Off.refl _ _⟩
  obtain ⟨d, hd, rfl, hMd, hOd⟩ := hrel
  by_cases hlt : d < n
  case pos =>
    have c1 := hMd.c (lo + d) (by omega)
    have f1 := hMd.f (lo + d) (by omega)
    have HMd : Hid _ := hMd
    have HOd : Hid _ := hOd
    clear hMd hOd
    go_wp2_with fail
    go_roundg (gk - 1)
    case rel => exact ⟨d + 1, by omega, by simp; omega, by rw [← join_one]; exact HMd.out.put _ (by omega), HOd.out.setCell rfl _⟩
    case measure => omega
  have hdn : d = n := by omega
  rw [hdn] at hMd
  have HMd : Hid _ := hMd
  have HO6 : Hid (Off g w wr) := HO5.out.trans hOd
  have k6 := fun o => (hOd.cell (o := o) hz5 (show w1.heap.size ≠ g by omega)).trans (HK5.out o)
  have hz6 : w1.heap.size < wr.heap.size := Nat.lt_of_lt_of_le hz5 hOd.size
  have r1 := k6 0
  have r2 := k6 1
  have r3 := k6 2
  have r4 := k6 3
  have r5 := k6 4
  have r6 := k6 5
  simp only [one0, one1, one2, one3, one4, one5] at r1 r2 r3 r4 r5 r6
  clear hMd hOd k6 HM5 HO5 HK5
  go_wp2_with fail
  refine (HSL.out _).mono ?_
  rintro e w7 ⟨rfl, hb7⟩
  have M7 := HMd.out.below hb7
  have hO7 : Off g w w7 := HO6.out.trans (Off.of_below hb7)
  have HM7 : Hid _ := M7
  have HO7 : Hid _ := hO7
  have hgw7 : g < w7.heap.size := M7.lt
  clear M7 hO7 hb7 r1 r2 r3 r4 r5 r6 HMd HO6
  go_wp2_with fail
  obtain ⟨w8, hw8⟩ : ∃ w8, w8 = w7.alloc (.cells #[.int .i64 f0, .int .i64 c0, .int .i64 r0, .int .i64 st0] 185) := ⟨_, rfl⟩
  rw [← hw8]
  have M8 : Mk w8 g (join F lo n) (sum + n) := by rw [hw8]; exact HM7.out.below (below_alloc (Below.refl _ _) (Nat.le_refl _) _)
  have hO8 : Off g w w8 := by rw [hw8]; exact HO7.out.alloc _
  have k8 : ∀ o, w8.cell? ⟨w7.heap.size, o, none⟩ = #[Value.int .i64 f0, .int .i64 c0, .int .i64 r0, .int .i64 st0][o]? := fun o => by rw [hw8]; exact World.cell?_alloc_at _ _ _ _ rfl
  have hz8 : w7.heap.size < w8.heap.size := by rw [hw8]; simp
  have HM8 : Hid _ := M8
  have HO8 : Hid _ := hO8
  have HK8 : Hid _ := k8
  obtain ⟨FF, hFF⟩ : ∃ FF, FF = joinL (join F lo n) LK := ⟨_, rfl⟩
  obtain ⟨SS, hSS⟩ : ∃ SS, SS = sum + n + wordsL LK := ⟨_, rfl⟩
  rw [← hSS] at hsum
  have HFF : Hid _ := hFF
  have HSS : Hid _ := hSS
  clear hw8 M8 hO8 k8 HM7 HO7 HSL hFF hSS
  go_loopg [15] c0 (fun k I wr => ∃ (i : Nat) (F' : Nat → Bool) (sum' : Nat) (Lr : List Node), i + k = c0 ∧ I = .int .i64 (i : Nat) ∧ Mk wr g F' sum' ∧ Off g w8 wr ∧ collectL (collect (resN z len) l) (ks.drop i) = some Lr ∧ joinL F' Lr = FF ∧ sum' + wordsL Lr = SS)
  case atStart => exact ⟨0, _, _, LK, by omega, rfl, HM8.out, Off.refl _ _, by rw [List.drop_zero]; exact hLK.out, HFF.out.symm, HSS.out.symm⟩
  case round =>
    obtain ⟨i, F', sum', Lr, hi, rfl, hMi, hOi, hcl, hjf, hws⟩ := hrel
    have k9 := fun o => (hOi.cell (o := o) hz8 (show w7.heap.size ≠ g by omega)).trans (HK8.out o)
    have s0 := k9 0
    have s1 := k9 1
    have s2 := k9 2
    have s3 := k9 3
    simp only [show ∀ a b c d : Value, #[a, b, c, d][0]? = some a from fun _ _ _ _ => rfl, show ∀ a b c d : Value, #[a, b, c, d][1]? = some b from fun _ _ _ _ => rfl, show ∀ a b c d : Value, #[a, b, c, d][2]? = some c from fun _ _ _ _ => rfl, show ∀ a b c d : Value, #[a, b, c, d][3]? = some d from fun _ _ _ _ => rfl] at s0 s1 s2 s3
    have HMi : Hid _ := hMi
    have HOi : Hid _ := hOi
    have HCL : Hid _ := hcl
    have HJF : Hid _ := hjf
    have HWS : Hid _ := hws
    clear hMi hOi hcl hjf hws k9
    by_cases hlt : i < c0
    · obtain ⟨y, hy1, hy2, hy3⟩ := HAT.out i hlt
      have HY1 : Hid _ := hy1
      have HY3 : Hid _ := hy3
      clear hy1 hy3
      have hc := HCL.out
      rw [HY1.out, collectL] at hc
      obtain ⟨L1, hL1⟩ : ∃ L1, collect (resN z len) l y = some L1 := by
        cases h : collect (resN z len) l y with
        | none => rw [h] at hc; cases hc
        | some L1 => exact ⟨L1, rfl⟩
      rw [hL1, Option.bind_some] at hc
      obtain ⟨L2, hL2⟩ : ∃ L2, collectL (collect (resN z len) l) (ks.drop (i + 1)) = some L2 := by
        cases h : collectL (collect (resN z len) l) (ks.drop (i + 1)) with
        | none => rw [h] at hc; cases hc
        | some L2 => exact ⟨L2, rfl⟩
      rw [hL2, Option.map_some, Option.some.injEq] at hc
      have hj := HJF.out
      have hw := HWS.out
      rw [← hc, joinL_append] at hj
      rw [← hc, wordsL_append] at hw
      have HL1 : Hid _ := hL1
      have HL2 : Hid _ := hL2
      have HJ : Hid _ := hj
      have HWW : Hid _ := hw
      clear hc hL1 hL2 hj hw HCL HJF HWS
      go_wp2_with fail
      refine (HY3.out _).mono ?_
      rintro e w9 ⟨rfl, cc, nq, hw9⟩
      have hb9 : Below wr.heap.size wr w9 := by rw [hw9]; exact below_drewN' (below_alloc (Below.refl _ _) (Nat.le_refl _) _) _
      have hO9 : Off g w w9 := (HO8.out.trans HOi.out).trans (Off.of_below hb9)
      have hO89 : Off g w8 w9 := HOi.out.trans (Off.of_below hb9)
      have M9 := HMi.out.below hb9
      have HO9 : Hid _ := hO9
      have HO89 : Hid _ := hO89
      have HM9 : Hid _ := M9
      clear hw9 hb9 hO9 hO89 M9 s0 s1 s2 s3 HMi HOi HY3
      go_wp2_with fail
      refine (mark_at IH.out y L1 F' sum' w9 _ (by push_cast; omega) hy2 HL1.out (by have := HWW.out; omega) (Row.off HR.out HO9.out hb hbg) (Nat.lt_of_lt_of_le hb HO9.out.size) HM9.out).mono ?_
      rintro e w10 ⟨rfl, hO10, hM10⟩
      have HO10 : Hid _ := HO89.out.trans hO10
      have HM10 : Hid _ := hM10
      clear hO10 hM10
      go_wp2_with fail
      go_roundg (c0 - (i + 1))
      case rel => exact ⟨i + 1, _, _, L2, by omega, by simp, HM10.out, HO10.out, HL2.out, HJ.out, by have := HWW.out; omega⟩
      case measure => omega
    · have hie : i = c0 := by omega
      have e1 := HCL.out
      rw [hie, ← hc0, List.drop_length] at e1
      simp only [collectL, Option.some.injEq] at e1
      have hF := HJF.out
      have hS := HWS.out
      rw [← e1, joinL] at hF
      rw [← e1, wordsL, Nat.add_zero] at hS
      have HF : Hid _ := hF
      have HS : Hid _ := hS
      clear e1 hF hS
      go_wp2_with fail
      go_ret
      exact ⟨rfl, HO8.out.trans HOi.out, by rw [← HFF.out, ← HSS.out, ← HF.out, ← HS.out]; exact HMi.out⟩
end Go.Proofs.Ygcfah
