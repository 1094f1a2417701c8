/- The law's own wideResolve computes 'rsv' too. -/
import Derived.Test.YgcfahWideS
namespace Go.Proofs.Ygcfah
open Go.RowKit
set_option linter.unusedVariables false
attribute [local go_sem] setCell_drewN alloc_drewN

def lo32 (x : Int) : Int := x % 4294967296
theorem lo32_div (x : Int) : lo32 x / 4 = cnt30 x := by unfold lo32 cnt30; omega
theorem and_lo32 (x : Int) (hx : U64 x) : bits .and .u64 x 4294967295 = lo32 x := by
  have := and_mask x hx 32 (by decide); simpa [lo32] using this
theorem and_low2 (x : Int) (hx : U64 x) : bits .and .u64 x 3 = low2 x := by
  have := and_mask x hx 2 (by decide); simpa [low2] using this
theorem and_mid16 (x : Int) (hx : U64 x) : bits .and .u64 (x / 4294967296) 65535 = mid16 x := by
  have := and_mask _ (div_pow_u64 x hx 32) 16 (by decide); simpa [mid16] using this
theorem and_code3 (x : Int) (hx : U64 x) : bits .and .u64 (x / 4294967296) 7 = code3 x := by
  have := and_mask _ (div_pow_u64 x hx 32) 3 (by decide); simpa [code3] using this
theorem and_off (x : Int) (hx : U64 x) : bits .and .u64 x 4294967292 = 4 * cnt30 x := by
  obtain ⟨h0, h1⟩ := hx
  rw [u64_and x 4294967292 h0 h1 (by decide) (by decide)]
  obtain ⟨x, rfl⟩ := Int.eq_ofNat_of_zero_le h0
  have key : x &&& 4294967292 = 4 * (x / 4 % 1073741824) := by
    have e1 : (x &&& 4294967292) / 2 ^ 2 = x / 2 ^ 2 &&& 4294967292 / 2 ^ 2 := Nat.and_div_two_pow
    have e2 : (x &&& 4294967292) % 2 ^ 2 = x % 2 ^ 2 &&& 4294967292 % 2 ^ 2 := Nat.and_mod_two_pow
    have e3 : (4294967292 : Nat) / 2 ^ 2 = 2 ^ 30 - 1 := by decide
    have e4 : (4294967292 : Nat) % 2 ^ 2 = 0 := by decide
    rw [e3, Nat.and_two_pow_sub_one_eq_mod] at e1
    rw [e4, Nat.and_zero] at e2
    generalize x &&& 4294967292 = y at *
    omega
  simp only [Int.toNat_natCast, show ((4294967292 : Int).toNat) = 4294967292 from rfl, key, cnt30]
  omega
theorem off_sgn (x : Int) (hx : U64 x) : (0 ≤ sgn30 (x / 4) ∧ bits .and .u64 x 4294967292 = 4 * sgn30 (x / 4)) ∨ (sgn30 (x / 4) < 0 ∧ bits .and .u64 x 4294967292 = 4 * (sgn30 (x / 4) + 1073741824)) := by
  rw [and_off x hx]; unfold sgn30 cnt30; omega

set_option maxRecDepth 100000 in
theorem wr_zero (b off len cap : Nat) (at_ : Int) (h0 : 0 ≤ at_) (h1 : at_ < len) (hl : len ≤ 256) (w : World) (hc : w.cell? ⟨b, off + at_.toNat, none⟩ = some (.int .u64 0)) :
    Calls Fahg.prog 34 #[.slice (some ⟨b, off, none⟩) len cap, .int .i64 at_] w fun e w' => e = .returned (.tuple #[WP.nul.val, .bool true]) ∧ Below w.heap.size w w' := by
  have hb : b < w.heap.size := World.block_lt_of_cell? w ⟨b, off + at_.toNat, none⟩ hc
  go_enter Fahg.func34, Fahg.ntmps34
  go_wp2_with fail
  (refine bodyPost_ret (v := .tuple #[WP.nul.val, .bool true]) (by simp [results, Fahg.results34, go_sem, WP.nul, WP.val]) rfl ⟨rfl, ?_⟩; repeat' (first | exact Below.refl _ _ | refine Below.setCell ?_ (by simp) _ | refine below_drewN' ?_ _ | refine Below.drew ?_ | refine below_alloc ?_ (Nat.le_refl _) _))

set_option maxRecDepth 100000 in
set_option maxHeartbeats 400000 in
theorem wr_bad (b off len cap : Nat) (at_ x : Int) (h0 : 0 ≤ at_) (h1 : at_ < len) (hl : len ≤ 256) (w : World) (hc : w.cell? ⟨b, off + at_.toNat, none⟩ = some (.int .u64 x)) (hu : U64 x) (x0 : (x == 0) = false) (g0 : 2 ≤ low2 x) :
    Calls Fahg.prog 34 #[.slice (some ⟨b, off, none⟩) len cap, .int .i64 at_] w fun e w' => e = .returned (.tuple #[WP.nul.val, .bool false]) ∧ Below w.heap.size w w' := by
  have hb : b < w.heap.size := World.block_lt_of_cell? w ⟨b, off + at_.toNat, none⟩ hc
  have hbd := sgn30_bd (x / 4)
  have hlo := low2_bd x
  have hso := off_sgn x hu
  have hB := and_low2 x hu
  have b2 := mid16_bd x
  have b3 := top16_bd x hu
  have b4 := cnt29_bd x hu
  have b5 := code3_bd x
  have hC := and_mid16 x hu
  have hD : x / 281474976710656 = top16 x := rfl
  clear hu
  generalize sgn30 (x / 4) = s at *
  rcases hso with ⟨hs, hA⟩ | ⟨hs, hA⟩
  all_goals  go_enter Fahg.func34, Fahg.ntmps34
  all_goals go_wp2_with fail
  all_goals (refine bodyPost_ret (v := .tuple #[WP.nul.val, .bool false]) (by simp [results, Fahg.results34, go_sem, WP.nul, WP.val]) rfl ⟨rfl, ?_⟩; repeat' (first | exact Below.refl _ _ | refine Below.setCell ?_ (by simp) _ | refine below_drewN' ?_ _ | refine Below.drew ?_ | refine below_alloc ?_ (Nat.le_refl _) _))

set_option maxRecDepth 100000 in
set_option maxHeartbeats 400000 in
theorem wr_sec_no (b off len cap : Nat) (at_ x : Int) (h0 : 0 ≤ at_) (h1 : at_ < len) (hl : len ≤ 256) (w : World) (hc : w.cell? ⟨b, off + at_.toNat, none⟩ = some (.int .u64 x)) (hu : U64 x) (x0 : (x == 0) = false) (g0 : low2 x = 0) (hs8 : 8 < mid16 x ∨ 8 < top16 x) :
    Calls Fahg.prog 34 #[.slice (some ⟨b, off, none⟩) len cap, .int .i64 at_] w fun e w' => e = .returned (.tuple #[WP.nul.val, .bool false]) ∧ Below w.heap.size w w' := by
  have hb : b < w.heap.size := World.block_lt_of_cell? w ⟨b, off + at_.toNat, none⟩ hc
  have hbd := sgn30_bd (x / 4)
  have hlo := low2_bd x
  have hso := off_sgn x hu
  have hB := and_low2 x hu
  have b2 := mid16_bd x
  have b3 := top16_bd x hu
  have b4 := cnt29_bd x hu
  have b5 := code3_bd x
  have hC := and_mid16 x hu
  have hD : x / 281474976710656 = top16 x := rfl
  clear hu
  generalize sgn30 (x / 4) = s at *
  rcases hso with ⟨hs, hA⟩ | ⟨hs, hA⟩
  all_goals  go_enter Fahg.func34, Fahg.ntmps34
  all_goals go_wp2_with fail
  all_goals (refine bodyPost_ret (v := .tuple #[WP.nul.val, .bool false]) (by simp [results, Fahg.results34, go_sem, WP.nul, WP.val]) rfl ⟨rfl, ?_⟩; repeat' (first | exact Below.refl _ _ | refine Below.setCell ?_ (by simp) _ | refine below_drewN' ?_ _ | refine Below.drew ?_ | refine below_alloc ?_ (Nat.le_refl _) _))

set_option maxRecDepth 100000 in
set_option maxHeartbeats 800000 in
theorem wr_sec_out (b off len cap : Nat) (at_ x : Int) (h0 : 0 ≤ at_) (h1 : at_ < len) (hl : len ≤ 256) (w : World) (hc : w.cell? ⟨b, off + at_.toNat, none⟩ = some (.int .u64 x)) (hu : U64 x) (x0 : (x == 0) = false) (g0 : low2 x = 0) (d8 : mid16 x ≤ 8) (p8 : top16 x ≤ 8) (m : Int) (hm : Hid (m = wWords 1 (mid16 x) (top16 x) 0 0)) (hsp : (m = 0 ∧ (rTo at_ x < 0 ∨ len < rTo at_ x)) ∨ (1 ≤ m ∧ (rTo at_ x < 1 ∨ len < rTo at_ x + m))) :
    Calls Fahg.prog 34 #[.slice (some ⟨b, off, none⟩) len cap, .int .i64 at_] w fun e w' => e = .returned (.tuple #[WP.nul.val, .bool false]) ∧ Below w.heap.size w w' := by
  have hb : b < w.heap.size := World.block_lt_of_cell? w ⟨b, off + at_.toNat, none⟩ hc
  have hbd := sgn30_bd (x / 4)
  have hlo := low2_bd x
  have hso := off_sgn x hu
  have hB := and_low2 x hu
  have b2 := mid16_bd x
  have b3 := top16_bd x hu
  have b4 := cnt29_bd x hu
  have b5 := code3_bd x
  have hC := and_mid16 x hu
  have hD : x / 281474976710656 = top16 x := rfl
  have bw := wWords_bd 1 (mid16 x) (top16 x) 0 0 b2.1 b3.1 (by omega)
  have hm2 : wWords 1 (mid16 x) (top16 x) 0 0 = m := hm.out.symm
  unfold rTo at hsp
  rw [hm2] at bw
  clear hu
  generalize sgn30 (x / 4) = s at *
  rcases hso with ⟨hs, hA⟩ | ⟨hs, hA⟩
  all_goals  go_enter Fahg.func34, Fahg.ntmps34
  all_goals go_wp2_with fail
  all_goals (refine (wideWords_any _ _ _ _ _ _ (by omega) (by omega) (by omega) (by omega) (by omega) (by omega) (by omega) (by omega) (by omega) (by omega) _).mono ?_; rintro e w1 ⟨rfl, c, nq, rfl⟩)
  all_goals go_wp2_with fail
  all_goals (refine bodyPost_ret (v := .tuple #[WP.nul.val, .bool false]) (by simp [results, Fahg.results34, go_sem, WP.nul, WP.val]) rfl ⟨rfl, ?_⟩; repeat' (first | exact Below.refl _ _ | refine Below.setCell ?_ (by simp) _ | refine below_drewN' ?_ _ | refine Below.drew ?_ | refine below_alloc ?_ (Nat.le_refl _) _))

set_option maxRecDepth 100000 in
set_option maxHeartbeats 800000 in
theorem wr_sec (b off len cap : Nat) (at_ x : Int) (h0 : 0 ≤ at_) (h1 : at_ < len) (hl : len ≤ 256) (w : World) (hc : w.cell? ⟨b, off + at_.toNat, none⟩ = some (.int .u64 x)) (hu : U64 x) (x0 : (x == 0) = false) (g0 : low2 x = 0) (d8 : mid16 x ≤ 8) (p8 : top16 x ≤ 8) (m : Int) (hm : Hid (m = wWords 1 (mid16 x) (top16 x) 0 0)) (hsp : (m = 0 ∧ 0 ≤ rTo at_ x ∧ rTo at_ x ≤ len) ∨ (1 ≤ m ∧ 1 ≤ rTo at_ x ∧ rTo at_ x + m ≤ len)) :
    Calls Fahg.prog 34 #[.slice (some ⟨b, off, none⟩) len cap, .int .i64 at_] w fun e w' => e = .returned (.tuple #[(WP.mk 1 (rTo at_ x) (mid16 x) (top16 x) 0 0).val, .bool true]) ∧ Below w.heap.size w w' := by
  have hb : b < w.heap.size := World.block_lt_of_cell? w ⟨b, off + at_.toNat, none⟩ hc
  have hbd := sgn30_bd (x / 4)
  have hlo := low2_bd x
  have hso := off_sgn x hu
  have hB := and_low2 x hu
  have b2 := mid16_bd x
  have b3 := top16_bd x hu
  have b4 := cnt29_bd x hu
  have b5 := code3_bd x
  have hC := and_mid16 x hu
  have hD : x / 281474976710656 = top16 x := rfl
  have bw := wWords_bd 1 (mid16 x) (top16 x) 0 0 b2.1 b3.1 (by omega)
  have hm2 : wWords 1 (mid16 x) (top16 x) 0 0 = m := hm.out.symm
  unfold rTo at hsp ⊢
  rw [hm2] at bw
  clear hu
  generalize sgn30 (x / 4) = s at *
  rcases hso with ⟨hs, hA⟩ | ⟨hs, hA⟩
  all_goals  go_enter Fahg.func34, Fahg.ntmps34
  all_goals go_wp2_with fail
  all_goals (refine (wideWords_any _ _ _ _ _ _ (by omega) (by omega) (by omega) (by omega) (by omega) (by omega) (by omega) (by omega) (by omega) (by omega) _).mono ?_; rintro e w1 ⟨rfl, c, nq, rfl⟩)
  all_goals go_wp2_with fail
  all_goals (refine bodyPost_ret (v := .tuple #[WP.val ⟨1, at_ + 1 + s, mid16 x, top16 x, 0, 0⟩, .bool true]) (by simp [results, Fahg.results34, go_sem, WP.val]) rfl ⟨rfl, ?_⟩; repeat' (first | exact Below.refl _ _ | refine Below.setCell ?_ (by simp) _ | refine below_drewN' ?_ _ | refine Below.drew ?_ | refine below_alloc ?_ (Nat.le_refl _) _))

set_option maxRecDepth 100000 in
set_option maxHeartbeats 800000 in
theorem wr_list_out (b off len cap : Nat) (at_ x : Int) (h0 : 0 ≤ at_) (h1 : at_ < len) (hl : len ≤ 256) (w : World) (hc : w.cell? ⟨b, off + at_.toNat, none⟩ = some (.int .u64 x)) (hu : U64 x) (x0 : (x == 0) = false) (g0 : low2 x = 1) (c7 : code3 x ≤ 6) (m : Int) (hm : Hid (m = wWords 2 0 0 (code3 x) (cnt29 x))) (hsp : (m = 0 ∧ (rTo at_ x < 0 ∨ len < rTo at_ x)) ∨ (1 ≤ m ∧ (rTo at_ x < 1 ∨ len < rTo at_ x + m))) :
    Calls Fahg.prog 34 #[.slice (some ⟨b, off, none⟩) len cap, .int .i64 at_] w fun e w' => e = .returned (.tuple #[WP.nul.val, .bool false]) ∧ Below w.heap.size w w' := by
  have hb : b < w.heap.size := World.block_lt_of_cell? w ⟨b, off + at_.toNat, none⟩ hc
  have hbd := sgn30_bd (x / 4)
  have hlo := low2_bd x
  have hso := off_sgn x hu
  have hB := and_low2 x hu
  have b2 := mid16_bd x
  have b3 := top16_bd x hu
  have b4 := cnt29_bd x hu
  have b5 := code3_bd x
  have hC := and_mid16 x hu
  have hD : x / 281474976710656 = top16 x := rfl
  have hE := and_code3 x hu
  have hF : x / 34359738368 = cnt29 x := rfl
  have bw := wWords_bd 2 0 0 (code3 x) (cnt29 x) (by omega) (by omega) b4.1
  have hm2 : wWords 2 0 0 (code3 x) (cnt29 x) = m := hm.out.symm
  unfold rTo at hsp
  rw [hm2] at bw
  clear hu
  generalize sgn30 (x / 4) = s at *
  rcases hso with ⟨hs, hA⟩ | ⟨hs, hA⟩
  all_goals  go_enter Fahg.func34, Fahg.ntmps34
  all_goals go_wp2_with fail
  all_goals (refine (wideWords_any _ _ _ _ _ _ (by omega) (by omega) (by omega) (by omega) (by omega) (by omega) (by omega) (by omega) (by omega) (by omega) _).mono ?_; rintro e w1 ⟨rfl, c, nq, rfl⟩)
  all_goals go_wp2_with fail
  all_goals (refine bodyPost_ret (v := .tuple #[WP.nul.val, .bool false]) (by simp [results, Fahg.results34, go_sem, WP.nul, WP.val]) rfl ⟨rfl, ?_⟩; repeat' (first | exact Below.refl _ _ | refine Below.setCell ?_ (by simp) _ | refine below_drewN' ?_ _ | refine Below.drew ?_ | refine below_alloc ?_ (Nat.le_refl _) _))

set_option maxRecDepth 100000 in
set_option maxHeartbeats 800000 in
theorem wr_list (b off len cap : Nat) (at_ x : Int) (h0 : 0 ≤ at_) (h1 : at_ < len) (hl : len ≤ 256) (w : World) (hc : w.cell? ⟨b, off + at_.toNat, none⟩ = some (.int .u64 x)) (hu : U64 x) (x0 : (x == 0) = false) (g0 : low2 x = 1) (c7 : code3 x ≤ 6) (m : Int) (hm : Hid (m = wWords 2 0 0 (code3 x) (cnt29 x))) (hsp : (m = 0 ∧ 0 ≤ rTo at_ x ∧ rTo at_ x ≤ len) ∨ (1 ≤ m ∧ 1 ≤ rTo at_ x ∧ rTo at_ x + m ≤ len)) :
    Calls Fahg.prog 34 #[.slice (some ⟨b, off, none⟩) len cap, .int .i64 at_] w fun e w' => e = .returned (.tuple #[(WP.mk 2 (rTo at_ x) 0 0 (code3 x) (cnt29 x)).val, .bool true]) ∧ Below w.heap.size w w' := by
  have hb : b < w.heap.size := World.block_lt_of_cell? w ⟨b, off + at_.toNat, none⟩ hc
  have hbd := sgn30_bd (x / 4)
  have hlo := low2_bd x
  have hso := off_sgn x hu
  have hB := and_low2 x hu
  have b2 := mid16_bd x
  have b3 := top16_bd x hu
  have b4 := cnt29_bd x hu
  have b5 := code3_bd x
  have hC := and_mid16 x hu
  have hD : x / 281474976710656 = top16 x := rfl
  have hE := and_code3 x hu
  have hF : x / 34359738368 = cnt29 x := rfl
  have bw := wWords_bd 2 0 0 (code3 x) (cnt29 x) (by omega) (by omega) b4.1
  have hm2 : wWords 2 0 0 (code3 x) (cnt29 x) = m := hm.out.symm
  unfold rTo at hsp ⊢
  rw [hm2] at bw
  clear hu
  generalize sgn30 (x / 4) = s at *
  rcases hso with ⟨hs, hA⟩ | ⟨hs, hA⟩
  all_goals  go_enter Fahg.func34, Fahg.ntmps34
  all_goals go_wp2_with fail
  all_goals (refine (wideWords_any _ _ _ _ _ _ (by omega) (by omega) (by omega) (by omega) (by omega) (by omega) (by omega) (by omega) (by omega) (by omega) _).mono ?_; rintro e w1 ⟨rfl, c, nq, rfl⟩)
  all_goals go_wp2_with fail
  all_goals (refine bodyPost_ret (v := .tuple #[WP.val ⟨2, at_ + 1 + s, 0, 0, code3 x, cnt29 x⟩, .bool true]) (by simp [results, Fahg.results34, go_sem, WP.val]) rfl ⟨rfl, ?_⟩; repeat' (first | exact Below.refl _ _ | refine Below.setCell ?_ (by simp) _ | refine below_drewN' ?_ _ | refine Below.drew ?_ | refine below_alloc ?_ (Nat.le_refl _) _))

end Go.Proofs.Ygcfah
