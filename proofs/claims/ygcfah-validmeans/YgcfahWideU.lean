/- The law's own wideResolve: the ways through a code 7 list. -/
import Derived.Test.YgcfahWideT
namespace Go.Proofs.Ygcfah
open Go.RowKit
set_option linter.unusedVariables false
attribute [local go_sem] setCell_drewN alloc_drewN

set_option maxRecDepth 100000 in
set_option maxHeartbeats 400000 in
theorem wr_tag_off (b off len cap : Nat) (at_ x : Int) (h0 : 0 ≤ at_) (h1 : at_ < len) (hl : len ≤ 256) (w : World) (hc : w.cell? ⟨b, off + at_.toNat, none⟩ = some (.int .u64 x)) (hu : U64 x) (x0 : (x == 0) = false) (g0 : low2 x = 1) (c7 : code3 x = 7) (ht : rTo at_ x < 1 ∨ len ≤ rTo at_ x) :
    Calls Fahg.prog 34 #[.slice (some ⟨b, off, none⟩) len cap, .int .i64 at_] w fun e w' => e = .returned (.tuple #[WP.nul.val, .bool false]) ∧ Below w.heap.size w w' := by
  have hb : b < w.heap.size := World.block_lt_of_cell? w ⟨b, off + at_.toNat, none⟩ hc
  have hbd := sgn30_bd (x / 4)
  have hlo := low2_bd x
  have hso := off_sgn x hu
  have hB := and_low2 x hu
  have b2 := mid16_bd x
  have b3 := top16_bd x hu
  have b4 := cnt29_bd x hu
  have b5 := code3_bd x
  have hC := and_mid16 x hu
  have hD : x / 281474976710656 = top16 x := rfl
  have hE := and_code3 x hu
  have hF : x / 34359738368 = cnt29 x := rfl
  unfold rTo at ht
  clear hu
  generalize sgn30 (x / 4) = s at *
  rcases hso with ⟨hs, hA⟩ | ⟨hs, hA⟩
  all_goals  go_enter Fahg.func34, Fahg.ntmps34
  all_goals go_wp2_with fail
  all_goals (refine bodyPost_ret (v := .tuple #[WP.nul.val, .bool false]) (by simp [results, Fahg.results34, go_sem, WP.nul, WP.val]) rfl ⟨rfl, ?_⟩; repeat' (first | exact Below.refl _ _ | refine Below.setCell ?_ (by simp) _ | refine below_drewN' ?_ _ | refine Below.drew ?_ | refine below_alloc ?_ (Nat.le_refl _) _))

set_option maxRecDepth 100000 in
set_option maxHeartbeats 400000 in
theorem wr_tag_low (b off len cap : Nat) (at_ x : Int) (h0 : 0 ≤ at_) (h1 : at_ < len) (hl : len ≤ 256) (w : World) (hc : w.cell? ⟨b, off + at_.toNat, none⟩ = some (.int .u64 x)) (hu : U64 x) (x0 : (x == 0) = false) (g0 : low2 x = 1) (c7 : code3 x = 7) (ht : 1 ≤ rTo at_ x) (ht2 : rTo at_ x < len) (t : Int) (hct : w.cell? ⟨b, off + (rTo at_ x).toNat, none⟩ = some (.int .u64 t)) (hut : U64 t) (hq : (low2 t != 0) = true) :
    Calls Fahg.prog 34 #[.slice (some ⟨b, off, none⟩) len cap, .int .i64 at_] w fun e w' => e = .returned (.tuple #[WP.nul.val, .bool false]) ∧ Below w.heap.size w w' := by
  have hb : b < w.heap.size := World.block_lt_of_cell? w ⟨b, off + at_.toNat, none⟩ hc
  have hbd := sgn30_bd (x / 4)
  have hlo := low2_bd x
  have hso := off_sgn x hu
  have hB := and_low2 x hu
  have b2 := mid16_bd x
  have b3 := top16_bd x hu
  have b4 := cnt29_bd x hu
  have b5 := code3_bd x
  have hC := and_mid16 x hu
  have hD : x / 281474976710656 = top16 x := rfl
  have hE := and_code3 x hu
  have hF : x / 34359738368 = cnt29 x := rfl
  have hBt := and_low2 t hut
  have hLt := and_lo32 t hut
  have hLd := lo32_div t
  have hCt := and_mid16 t hut
  have hDt : t / 281474976710656 = top16 t := rfl
  have e1 := low2_bd t
  have e2 := mid16_bd t
  have e3 := top16_bd t hut
  have e4 := cnt30_bd t
  have e5 : 0 ≤ lo32 t ∧ lo32 t ≤ 4294967295 := by unfold lo32; omega
  clear hut
  unfold rTo at ht ht2 hct
  clear hu
  generalize sgn30 (x / 4) = s at *
  rcases hso with ⟨hs, hA⟩ | ⟨hs, hA⟩
  all_goals  go_enter Fahg.func34, Fahg.ntmps34
  all_goals go_wp2_with fail
  all_goals (refine bodyPost_ret (v := .tuple #[WP.nul.val, .bool false]) (by simp [results, Fahg.results34, go_sem, WP.nul, WP.val]) rfl ⟨rfl, ?_⟩; repeat' (first | exact Below.refl _ _ | refine Below.setCell ?_ (by simp) _ | refine below_drewN' ?_ _ | refine Below.drew ?_ | refine below_alloc ?_ (Nat.le_refl _) _))

set_option maxRecDepth 100000 in
set_option maxHeartbeats 400000 in
theorem wr_tag_sec (b off len cap : Nat) (at_ x : Int) (h0 : 0 ≤ at_) (h1 : at_ < len) (hl : len ≤ 256) (w : World) (hc : w.cell? ⟨b, off + at_.toNat, none⟩ = some (.int .u64 x)) (hu : U64 x) (x0 : (x == 0) = false) (g0 : low2 x = 1) (c7 : code3 x = 7) (ht : 1 ≤ rTo at_ x) (ht2 : rTo at_ x < len) (t : Int) (hct : w.cell? ⟨b, off + (rTo at_ x).toNat, none⟩ = some (.int .u64 t)) (hut : U64 t) (hq : (low2 t != 0) = false) (hs8 : 8 < mid16 t ∨ 8 < top16 t) :
    Calls Fahg.prog 34 #[.slice (some ⟨b, off, none⟩) len cap, .int .i64 at_] w fun e w' => e = .returned (.tuple #[WP.nul.val, .bool false]) ∧ Below w.heap.size w w' := by
  have hb : b < w.heap.size := World.block_lt_of_cell? w ⟨b, off + at_.toNat, none⟩ hc
  have hbd := sgn30_bd (x / 4)
  have hlo := low2_bd x
  have hso := off_sgn x hu
  have hB := and_low2 x hu
  have b2 := mid16_bd x
  have b3 := top16_bd x hu
  have b4 := cnt29_bd x hu
  have b5 := code3_bd x
  have hC := and_mid16 x hu
  have hD : x / 281474976710656 = top16 x := rfl
  have hE := and_code3 x hu
  have hF : x / 34359738368 = cnt29 x := rfl
  have hBt := and_low2 t hut
  have hLt := and_lo32 t hut
  have hLd := lo32_div t
  have hCt := and_mid16 t hut
  have hDt : t / 281474976710656 = top16 t := rfl
  have e1 := low2_bd t
  have e2 := mid16_bd t
  have e3 := top16_bd t hut
  have e4 := cnt30_bd t
  have e5 : 0 ≤ lo32 t ∧ lo32 t ≤ 4294967295 := by unfold lo32; omega
  clear hut
  unfold rTo at ht ht2 hct
  clear hu
  generalize sgn30 (x / 4) = s at *
  rcases hso with ⟨hs, hA⟩ | ⟨hs, hA⟩
  all_goals  go_enter Fahg.func34, Fahg.ntmps34
  all_goals go_wp2_with fail
  all_goals (refine bodyPost_ret (v := .tuple #[WP.nul.val, .bool false]) (by simp [results, Fahg.results34, go_sem, WP.nul, WP.val]) rfl ⟨rfl, ?_⟩; repeat' (first | exact Below.refl _ _ | refine Below.setCell ?_ (by simp) _ | refine below_drewN' ?_ _ | refine Below.drew ?_ | refine below_alloc ?_ (Nat.le_refl _) _))

set_option maxRecDepth 100000 in
set_option maxHeartbeats 800000 in
theorem wr_tag_ne (b off len cap : Nat) (at_ x : Int) (h0 : 0 ≤ at_) (h1 : at_ < len) (hl : len ≤ 256) (w : World) (hc : w.cell? ⟨b, off + at_.toNat, none⟩ = some (.int .u64 x)) (hu : U64 x) (x0 : (x == 0) = false) (g0 : low2 x = 1) (c7 : code3 x = 7) (ht : 1 ≤ rTo at_ x) (ht2 : rTo at_ x < len) (t : Int) (hct : w.cell? ⟨b, off + (rTo at_ x).toNat, none⟩ = some (.int .u64 t)) (hut : U64 t) (hq : (low2 t != 0) = false) (d8 : mid16 t ≤ 8) (p8 : top16 t ≤ 8) (hne : (cnt30 t * (mid16 t + top16 t) != cnt29 x) = true) :
    Calls Fahg.prog 34 #[.slice (some ⟨b, off, none⟩) len cap, .int .i64 at_] w fun e w' => e = .returned (.tuple #[WP.nul.val, .bool false]) ∧ Below w.heap.size w w' := by
  have hb : b < w.heap.size := World.block_lt_of_cell? w ⟨b, off + at_.toNat, none⟩ hc
  have hbd := sgn30_bd (x / 4)
  have hlo := low2_bd x
  have hso := off_sgn x hu
  have hB := and_low2 x hu
  have b2 := mid16_bd x
  have b3 := top16_bd x hu
  have b4 := cnt29_bd x hu
  have b5 := code3_bd x
  have hC := and_mid16 x hu
  have hD : x / 281474976710656 = top16 x := rfl
  have hE := and_code3 x hu
  have hF : x / 34359738368 = cnt29 x := rfl
  have hBt := and_low2 t hut
  have hLt := and_lo32 t hut
  have hLd := lo32_div t
  have hCt := and_mid16 t hut
  have hDt : t / 281474976710656 = top16 t := rfl
  have e1 := low2_bd t
  have e2 := mid16_bd t
  have e3 := top16_bd t hut
  have e4 := cnt30_bd t
  have e5 : 0 ≤ lo32 t ∧ lo32 t ≤ 4294967295 := by unfold lo32; omega
  clear hut
  have m0 : 0 ≤ cnt30 t * (mid16 t + top16 t) := Int.mul_nonneg e4.1 (by omega)
  have m1 : cnt30 t * (mid16 t + top16 t) ≤ 1073741823 * 16 := Int.mul_le_mul e4.2 (by omega) (by omega) (by omega)
  unfold rTo at ht ht2 hct
  clear hu
  generalize sgn30 (x / 4) = s at *
  rcases hso with ⟨hs, hA⟩ | ⟨hs, hA⟩
  all_goals  go_enter Fahg.func34, Fahg.ntmps34
  all_goals go_wp2_with fail
  all_goals (refine bodyPost_ret (v := .tuple #[WP.nul.val, .bool false]) (by simp [results, Fahg.results34, go_sem, WP.nul, WP.val]) rfl ⟨rfl, ?_⟩; repeat' (first | exact Below.refl _ _ | refine Below.setCell ?_ (by simp) _ | refine below_drewN' ?_ _ | refine Below.drew ?_ | refine below_alloc ?_ (Nat.le_refl _) _))

set_option maxRecDepth 100000 in
set_option maxHeartbeats 1600000 in
theorem wr_tag_out (b off len cap : Nat) (at_ x : Int) (h0 : 0 ≤ at_) (h1 : at_ < len) (hl : len ≤ 256) (w : World) (hc : w.cell? ⟨b, off + at_.toNat, none⟩ = some (.int .u64 x)) (hu : U64 x) (x0 : (x == 0) = false) (g0 : low2 x = 1) (c7 : code3 x = 7) (ht : 1 ≤ rTo at_ x) (ht2 : rTo at_ x < len) (t : Int) (hct : w.cell? ⟨b, off + (rTo at_ x).toNat, none⟩ = some (.int .u64 t)) (hut : U64 t) (hq : (low2 t != 0) = false) (d8 : mid16 t ≤ 8) (p8 : top16 t ≤ 8) (hne : (cnt30 t * (mid16 t + top16 t) != cnt29 x) = false) (m : Int) (hm : Hid (m = wWords 2 (mid16 t) (top16 t) 7 (cnt30 t))) (hsp : len < rTo at_ x + m) :
    Calls Fahg.prog 34 #[.slice (some ⟨b, off, none⟩) len cap, .int .i64 at_] w fun e w' => e = .returned (.tuple #[WP.nul.val, .bool false]) ∧ Below w.heap.size w w' := by
  have hb : b < w.heap.size := World.block_lt_of_cell? w ⟨b, off + at_.toNat, none⟩ hc
  have hbd := sgn30_bd (x / 4)
  have hlo := low2_bd x
  have hso := off_sgn x hu
  have hB := and_low2 x hu
  have b2 := mid16_bd x
  have b3 := top16_bd x hu
  have b4 := cnt29_bd x hu
  have b5 := code3_bd x
  have hC := and_mid16 x hu
  have hD : x / 281474976710656 = top16 x := rfl
  have hE := and_code3 x hu
  have hF : x / 34359738368 = cnt29 x := rfl
  have hBt := and_low2 t hut
  have hLt := and_lo32 t hut
  have hLd := lo32_div t
  have hCt := and_mid16 t hut
  have hDt : t / 281474976710656 = top16 t := rfl
  have e1 := low2_bd t
  have e2 := mid16_bd t
  have e3 := top16_bd t hut
  have e4 := cnt30_bd t
  have e5 : 0 ≤ lo32 t ∧ lo32 t ≤ 4294967295 := by unfold lo32; omega
  clear hut
  have m0 : 0 ≤ cnt30 t * (mid16 t + top16 t) := Int.mul_nonneg e4.1 (by omega)
  have m1 : cnt30 t * (mid16 t + top16 t) ≤ 1073741823 * 16 := Int.mul_le_mul e4.2 (by omega) (by omega) (by omega)
  have bw := wWords_bd 2 (mid16 t) (top16 t) 7 (cnt30 t) e2.1 e3.1 e4.1
  have hm2 : wWords 2 (mid16 t) (top16 t) 7 (cnt30 t) = m := hm.out.symm
  rw [hm2] at bw
  unfold rTo at ht ht2 hct hsp
  clear hu
  generalize sgn30 (x / 4) = s at *
  rcases hso with ⟨hs, hA⟩ | ⟨hs, hA⟩
  all_goals  go_enter Fahg.func34, Fahg.ntmps34
  all_goals go_wp2_with fail
  all_goals (refine (wideWords_any _ _ _ _ _ _ (by omega) (by omega) (by omega) (by omega) (by omega) (by omega) (by omega) (by omega) (by omega) (by omega) _).mono ?_; rintro e w1 ⟨rfl, c, nq, rfl⟩)
  all_goals go_wp2_with fail
  all_goals (refine bodyPost_ret (v := .tuple #[WP.nul.val, .bool false]) (by simp [results, Fahg.results34, go_sem, WP.nul, WP.val]) rfl ⟨rfl, ?_⟩; repeat' (first | exact Below.refl _ _ | refine Below.setCell ?_ (by simp) _ | refine below_drewN' ?_ _ | refine Below.drew ?_ | refine below_alloc ?_ (Nat.le_refl _) _))

set_option maxRecDepth 100000 in
set_option maxHeartbeats 1600000 in
theorem wr_tag (b off len cap : Nat) (at_ x : Int) (h0 : 0 ≤ at_) (h1 : at_ < len) (hl : len ≤ 256) (w : World) (hc : w.cell? ⟨b, off + at_.toNat, none⟩ = some (.int .u64 x)) (hu : U64 x) (x0 : (x == 0) = false) (g0 : low2 x = 1) (c7 : code3 x = 7) (ht : 1 ≤ rTo at_ x) (ht2 : rTo at_ x < len) (t : Int) (hct : w.cell? ⟨b, off + (rTo at_ x).toNat, none⟩ = some (.int .u64 t)) (hut : U64 t) (hq : (low2 t != 0) = false) (d8 : mid16 t ≤ 8) (p8 : top16 t ≤ 8) (hne : (cnt30 t * (mid16 t + top16 t) != cnt29 x) = false) (m : Int) (hm : Hid (m = wWords 2 (mid16 t) (top16 t) 7 (cnt30 t))) (hsp : rTo at_ x + m ≤ len) :
    Calls Fahg.prog 34 #[.slice (some ⟨b, off, none⟩) len cap, .int .i64 at_] w fun e w' => e = .returned (.tuple #[(WP.mk 2 (rTo at_ x + 1) (mid16 t) (top16 t) 7 (cnt30 t)).val, .bool true]) ∧ Below w.heap.size w w' := by
  have hb : b < w.heap.size := World.block_lt_of_cell? w ⟨b, off + at_.toNat, none⟩ hc
  have hbd := sgn30_bd (x / 4)
  have hlo := low2_bd x
  have hso := off_sgn x hu
  have hB := and_low2 x hu
  have b2 := mid16_bd x
  have b3 := top16_bd x hu
  have b4 := cnt29_bd x hu
  have b5 := code3_bd x
  have hC := and_mid16 x hu
  have hD : x / 281474976710656 = top16 x := rfl
  have hE := and_code3 x hu
  have hF : x / 34359738368 = cnt29 x := rfl
  have hBt := and_low2 t hut
  have hLt := and_lo32 t hut
  have hLd := lo32_div t
  have hCt := and_mid16 t hut
  have hDt : t / 281474976710656 = top16 t := rfl
  have e1 := low2_bd t
  have e2 := mid16_bd t
  have e3 := top16_bd t hut
  have e4 := cnt30_bd t
  have e5 : 0 ≤ lo32 t ∧ lo32 t ≤ 4294967295 := by unfold lo32; omega
  clear hut
  have m0 : 0 ≤ cnt30 t * (mid16 t + top16 t) := Int.mul_nonneg e4.1 (by omega)
  have m1 : cnt30 t * (mid16 t + top16 t) ≤ 1073741823 * 16 := Int.mul_le_mul e4.2 (by omega) (by omega) (by omega)
  have bw := wWords_bd 2 (mid16 t) (top16 t) 7 (cnt30 t) e2.1 e3.1 e4.1
  have hm2 : wWords 2 (mid16 t) (top16 t) 7 (cnt30 t) = m := hm.out.symm
  rw [hm2] at bw
  unfold rTo at ht ht2 hct hsp ⊢
  clear hu
  generalize sgn30 (x / 4) = s at *
  rcases hso with ⟨hs, hA⟩ | ⟨hs, hA⟩
  all_goals  go_enter Fahg.func34, Fahg.ntmps34
  all_goals go_wp2_with fail
  all_goals (refine (wideWords_any _ _ _ _ _ _ (by omega) (by omega) (by omega) (by omega) (by omega) (by omega) (by omega) (by omega) (by omega) (by omega) _).mono ?_; rintro e w1 ⟨rfl, c, nq, rfl⟩)
  all_goals go_wp2_with fail
  all_goals (refine bodyPost_ret (v := .tuple #[WP.val ⟨2, at_ + 1 + s + 1, mid16 t, top16 t, 7, cnt30 t⟩, .bool true]) (by simp [results, Fahg.results34, go_sem, WP.val]) rfl ⟨rfl, ?_⟩; repeat' (first | exact Below.refl _ _ | refine Below.setCell ?_ (by simp) _ | refine below_drewN' ?_ _ | refine Below.drew ?_ | refine below_alloc ?_ (Nat.le_refl _) _))

end Go.Proofs.Ygcfah
