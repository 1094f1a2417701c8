/- law.NormMeans, where tree.Norm does what it is to do. -/
import Derived.Test.YgcfahTsv
import Derived.Test.YgcfahTnn
import Derived.Deep.RegionWith
namespace Go.Proofs.Ygcfah
open Go.RowKit
set_option linter.unusedVariables false
set_option linter.unusedSimpArgs false
set_option maxRecDepth 100000 in
set_option maxHeartbeats 2000000 in
/-- Check says no. -/
theorem nm_no (a : Option Addr) (n cap : Nat) (root : Int) (w : World) (hck : Hid (∀ tb w', w'.cell? ⟨tb, 0, none⟩ = some (.slice a n cap) → w'.cell? ⟨tb, 1, none⟩ = some (.int .i16 root) → Below w.heap.size w w' → Calls Fahg.prog 23 #[.pointer (some ⟨tb, 0, none⟩)] w' fun e w'' => e = .returned (.bool false) ∧ Below w'.heap.size w' w'')) :
    Calls Fahg.prog 7 #[.agg #[.slice a n cap, .int .i16 root]] w fun e w' => e = .returned (.bool true) ∧ Below w.heap.size w w' := by
  have hb1 : Below w.heap.size w (w.alloc (.cells #[.slice a n cap, .int .i16 root] 53)) := below_alloc (Below.refl _ _) (Nat.le_refl _) _
  have HC : Hid _ := hck.out w.heap.size (w.alloc (.cells #[.slice a n cap, .int .i16 root] 53)) (by simp [go_sem]) (by simp [go_sem]) hb1
  have HB1 : Hid _ := hb1
  clear hb1 hck
  go_enter Fahg.func7, Fahg.ntmps7
  go_wp2_with fail
  refine Calls.mono HC.out ?_
  rintro e w2 ⟨rfl, hb2⟩
  have HB2 : Hid (Below w.heap.size w w2) := HB1.out.trans (hb2.mono HB1.out.size)
  clear hb2
  go_wp2_with fail
  go_ret
  exact ⟨rfl, HB2.out⟩
set_option maxRecDepth 100000 in
set_option maxHeartbeats 2000000 in
/-- The null message. -/
theorem nm_null (a : Option Addr) (n cap : Nat) (w : World) (hck : Hid (∀ tb w', w'.cell? ⟨tb, 0, none⟩ = some (.slice a n cap) → w'.cell? ⟨tb, 1, none⟩ = some (.int .i16 (-1)) → Below w.heap.size w w' → Calls Fahg.prog 23 #[.pointer (some ⟨tb, 0, none⟩)] w' fun e w'' => e = .returned (.bool true) ∧ Below w'.heap.size w' w'')) :
    Calls Fahg.prog 7 #[.agg #[.slice a n cap, .int .i16 (-1)]] w fun e w' => e = .returned (.bool true) ∧ Below w.heap.size w w' := by
  obtain ⟨w1, hw1⟩ : ∃ w1, w1 = w.alloc (.cells #[.slice a n cap, .int .i16 (-1)] 53) := ⟨_, rfl⟩
  have hb1 : Below w.heap.size w w1 := by rw [hw1]; exact below_alloc (Below.refl _ _) (Nat.le_refl _) _
  have g0 : w1.cell? ⟨w.heap.size, 0, none⟩ = some (.slice a n cap) := by rw [hw1]; simp [go_sem]
  have g1 : w1.cell? ⟨w.heap.size, 1, none⟩ = some (.int .i16 (-1)) := by rw [hw1]; simp [go_sem]
  have HB1 : Hid _ := hb1
  have HW1 : Hid _ := hw1
  clear hb1 hw1
  go_enter Fahg.func7, Fahg.ntmps7
  go_wp2_with fail
  rw [← HW1.out]
  refine Calls.mono (hck.out w.heap.size w1 g0 g1 HB1.out) ?_
  rintro e w2 ⟨rfl, hb2⟩
  have HB2 : Hid (Below w.heap.size w w2) := HB1.out.trans (hb2.mono HB1.out.size)
  have k0 := Below.kept hb2 g0
  have k1 := Below.kept hb2 g1
  clear hb2
  have HN : Hid _ := norm_null w.heap.size (.slice a n cap) (-1) true w2 k1 (hck.out w.heap.size w2 k0 k1 HB2.out) (.inr rfl)
  go_wp2_with fail
  refine Calls.mono HN.out ?_
  rintro e w3 ⟨hres, hb3⟩
  have HB3 : Hid (Below w.heap.size w w3) := HB2.out.trans (hb3.mono HB2.out.size)
  have m1 := Below.kept hb3 k1
  clear hb3 HN g0 g1 k0 k1
  cases hres with
  | mk ub u0 u1' =>
    have y0 := u0
    have y1 := u1'
    clear u0 u1'
    go_wp2_with fail
    go_ret
    exact ⟨rfl, HB3.out⟩
set_option maxRecDepth 100000 in
set_option maxHeartbeats 2000000 in
theorem nm_main (b off n cap r : Nat) (nd : Nat → NodeC) (w : World) (hr : NCells w b off n nd) (hC : CheckP n (r : Nat) nd) (hS : Hid (∀ tb, NormSays tb b off n cap nd r)) :
    Calls Fahg.prog 7 #[.agg #[.slice (some ⟨b, off, none⟩) n cap, .int .i16 (r : Nat)]] w fun e w' => e = .returned (.bool true) ∧ Below w.heap.size w w' := by
  have hlim := hC.1
  have hT : Tok n nd := ⟨fun x hx => (hC.2.1 x hx).1, fun x hx => (hC.2.1 x hx).2⟩
  have hpw : pwr nd r 1 false ≤ 255 := by
    rcases hC.2.2.2 with h | h
    · omega
    · rw [Int.toNat_natCast] at h; omega
  have hcn := cn_root_le hC.2.2.1 hT (show r < n by have := hlim.2.2; omega) (by omega)
  have hn := hlim.1
  obtain ⟨w1, hw1⟩ : ∃ w1, w1 = w.alloc (.cells #[.slice (some ⟨b, off, none⟩) n cap, .int .i16 (r : Nat)] 53) := ⟨_, rfl⟩
  have hb1 : Below w.heap.size w w1 := by rw [hw1]; exact below_alloc (Below.refl _ _) (Nat.le_refl _) _
  have g0 : w1.cell? ⟨w.heap.size, 0, none⟩ = some (.slice (some ⟨b, off, none⟩) n cap) := by rw [hw1]; simp [go_sem]
  have g1 : w1.cell? ⟨w.heap.size, 1, none⟩ = some (.int .i16 (r : Nat)) := by rw [hw1]; simp [go_sem]
  have HR : Hid (NCells w b off n nd) := hr
  have HCK := check_main w.heap.size b off n cap (r : Nat) nd w1 g0 g1 (NCells.below hr hb1) hlim
  rw [pB_true hC] at HCK
  have HCK2 : Hid _ := HCK
  have HB1 : Hid _ := hb1
  have HW1 : Hid _ := hw1
  have HC : Hid _ := hC
  have HT : Hid (Tok n nd) := hT
  clear hb1 hw1 HCK hC hT hr hlim
  have hr1 : ((r : Int) == -1) = false := by simp
  go_enter Fahg.func7, Fahg.ntmps7
  go_wp2_with fail
  rw [← HW1.out]
  refine Calls.mono HCK2.out ?_
  rintro e w2 ⟨rfl, hb2⟩
  have HB2 : Hid (Below w.heap.size w w2) := HB1.out.trans (hb2.mono HB1.out.size)
  have k0 := Below.kept hb2 g0
  have k1 := Below.kept hb2 g1
  clear hb2
  have HN : Hid _ := hS.out w.heap.size w2 k0 k1 (NCells.below HR.out HB2.out) HC.out
  go_wp2_with fail
  refine Calls.mono HN.out ?_
  rintro e w3 ⟨hres, hb3⟩
  have HB3 : Hid (Below w.heap.size w w3) := HB2.out.trans (hb3.mono HB2.out.size)
  have m0 := Below.kept hb3 k0
  have m1 := Below.kept hb3 k1
  clear hb3 HN g0 g1 k0 k1
  cases hres with
  | mk ub vb m ucap nu src el hm hm0 hN hsrc hel hmc y0 y1 hV =>
    have HV : Hid (NCells w3 vb 0 m nu) := hV
    have HSV : Hid (∀ w', Below w3.heap.size w3 w' → Calls Fahg.prog 28 #[.pointer (some ⟨w.heap.size, 0, none⟩), .pointer (some ⟨ub, 0, none⟩), .int .i16 (r : Nat), .int .i16 0, .int .i64 20, .bool false] w' fun e w'' => e = .returned (.tuple #[.int .i64 (m : Nat), .bool true]) ∧ Below w'.heap.size w' w'') := by
      intro w' hw'
      have := sameval_any w.heap.size b off n cap ub vb 0 m ucap nd nu src el hn hm HT.out hN 20 (Nat.le_refl _) 0 1 false w' (Below.kept hw' m0) (Below.kept hw' y0) (NCells.below (NCells.below HR.out HB3.out) hw') (NCells.below HV.out hw') hm0 (by rw [hsrc]; show pwr nd r 1 false < 1000; omega) (by rw [hsrc]; show cnr nd r ≤ 512; omega)
      rw [hsrc, hel] at this
      rw [hmc]
      exact this
    clear hV hN hsrc hel hcn hpw hmc
    go_wp2_with fail
    go_region_with (first | (go_at_call 28; refine Calls.mono (HSV.out _ (by repeat' (first | refine Below.drew ?_ | refine below_drewN' ?_ _ | exact Below.refl _ _))) ?_; rintro e wJ ⟨rfl, hbJ⟩))
    all_goals have HJ : Hid (Below w3.heap.size w3 wJ) := (by first | exact hbJ | exact (Below.drew (Below.refl _ _)).trans hbJ)
    all_goals clear hbJ
    all_goals have j0 := Below.kept HJ.out y0
    all_goals have HB4 : Hid (Below w.heap.size w wJ) := HB3.out.trans (HJ.out.mono HB3.out.size)
    all_goals go_wp2_with fail
    all_goals go_ret
    all_goals exact ⟨ret_bool (by simp), HB4.out⟩
end Go.Proofs.Ygcfah
