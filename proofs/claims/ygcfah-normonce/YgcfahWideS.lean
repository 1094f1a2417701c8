/- wide.Resolve computes 'rsv'. -/
import Derived.Test.YgcfahWideR
namespace Go.Proofs.Ygcfah
open Go.RowKit
set_option linter.unusedVariables false
attribute [local go_sem] setCell_drewN alloc_drewN

def rTo (at_ x : Int) : Int := at_ + 1 + sgn30 (x / 4)
/-- What Resolve answers, of the words z of an arena of 'size' words (at most 256), at an index inside. -/
def rsv (z : Int → Int) (size at_ : Int) : WP × Bool :=
  if z at_ = 0 then (WP.nul, true)
  else if low2 (z at_) = 0 then
    if secOk (z at_) && spansB (rTo at_ (z at_)) (wWords 1 (secD (z at_)) (secP (z at_)) 0 0) size then (⟨1, rTo at_ (z at_), secD (z at_), secP (z at_), 0, 0⟩, true) else (WP.nul, false)
  else if low2 (z at_) = 1 then
    if code3 (z at_) = 7 then
      if decide (cnt29 (z at_) ≤ 256) && spansB (rTo at_ (z at_)) (cnt29 (z at_) + 1) size then
        (stR (rTo at_ (z at_)) (z (rTo at_ (z at_))) (cnt29 (z at_)), stB (rTo at_ (z at_)) (z (rTo at_ (z at_))) (cnt29 (z at_)))
      else (WP.nul, false)
    else if spansB (rTo at_ (z at_)) (wWords 2 0 0 (code3 (z at_)) (cnt29 (z at_))) size then (⟨2, rTo at_ (z at_), 0, 0, code3 (z at_), cnt29 (z at_)⟩, true) else (WP.nul, false)
  else (WP.nul, false)

theorem spansB_to {to n size : Int} (n0 : 0 ≤ n) (h : spansB to n size = true) : 0 ≤ to ∧ to ≤ size := by
  unfold spansB at h; split at h <;> simp at h <;> omega

theorem div4_u64 (x : Int) (hx : U64 x) : U64 (x / 4) := by obtain ⟨a, b⟩ := hx; exact ⟨by omega, by omega⟩

theorem resolve_out (a0 : Option Addr) (len cap : Nat) (at_ : Int) (h0 : 0 ≤ at_) (h1 : at_ ≤ 65535) (hno : 256 < len ∨ (len : Int) ≤ at_) (w : World) :
    Calls Fahg.prog 33 #[.slice a0 len cap, .int .u16 at_] w fun e w' => e = .returned (.tuple #[WP.nul.val, .bool false]) ∧ Below w.heap.size w w' := by
  by_cases hl : 256 < len
  · go_enter Fahg.func33, Fahg.ntmps33
    go_wp2_with fail
    refine bodyPost_ret (v := .tuple #[WP.nul.val, .bool false]) (by simp [results, Fahg.results33, go_sem, WP.nul, WP.val]) rfl ⟨rfl, ?_⟩
    exact (Below.refl _ _).alloc (Nat.le_refl _) _
  · have hn : (len : Int) ≤ at_ := by omega
    clear hno
    go_enter Fahg.func33, Fahg.ntmps33
    go_wp2_with fail
    refine bodyPost_ret (v := .tuple #[WP.nul.val, .bool false]) (by simp [results, Fahg.results33, go_sem, WP.nul, WP.val]) rfl ⟨rfl, ?_⟩
    exact (Below.refl _ _).alloc (Nat.le_refl _) _

theorem cell_two_old (w : World) (A B : Array Value) (T T' : TypeId) (i : Nat) : ((w.alloc (.cells A T)).alloc (.cells B T')).cell? ⟨w.heap.size, i, none⟩ = A[i]? := by
  rw [World.cell?_alloc_past _ _ _ (by simp), World.cell?_alloc_at _ _ _ _ rfl]

theorem resolve_zero (b off len cap : Nat) (at_ : Int) (h0 : 0 ≤ at_) (h1 : at_ < len) (hl : len ≤ 256) (w : World) (hc : w.cell? ⟨b, off + at_.toNat, none⟩ = some (.int .u64 0)) :
    Calls Fahg.prog 33 #[.slice (some ⟨b, off, none⟩) len cap, .int .u16 at_] w fun e w' => e = .returned (.tuple #[WP.nul.val, .bool true]) ∧ Below w.heap.size w w' := by
  have hb : b < w.heap.size := World.block_lt_of_cell? w ⟨b, off + at_.toNat, none⟩ hc
  go_enter Fahg.func33, Fahg.ntmps33
  go_wp2_with fail
  refine bodyPost_ret (v := .tuple #[WP.nul.val, .bool true]) (by simp [results, Fahg.results33, go_sem, WP.nul, WP.val]) rfl ⟨rfl, ?_⟩
  repeat' (first | exact Below.refl _ _ | refine Below.setCell ?_ (by simp) _ | refine below_drewN' ?_ _ | refine Below.drew ?_ | refine below_alloc ?_ (Nat.le_refl _) _)

theorem resolve_bad (b off len cap : Nat) (at_ x : Int) (h0 : 0 ≤ at_) (h1 : at_ < len) (hl : len ≤ 256) (w : World) (hc : w.cell? ⟨b, off + at_.toNat, none⟩ = some (.int .u64 x)) (hu : U64 x) (x0 : (x == 0) = false) (g0 : (low2 x == 0) = false) (g1 : (low2 x == 1) = false) :
    Calls Fahg.prog 33 #[.slice (some ⟨b, off, none⟩) len cap, .int .u16 at_] w fun e w' => e = .returned (.tuple #[WP.nul.val, .bool false]) ∧ Below w.heap.size w w' := by
  have hb : b < w.heap.size := World.block_lt_of_cell? w ⟨b, off + at_.toNat, none⟩ hc
  have hbd := sgn30_bd (x / 4)
  have hlo := low2_bd x
  have hU : Hid (U64 x) := hu
  have hU4 : Hid (U64 (x / 4)) := div4_u64 _ hu
  clear hu
  go_enter Fahg.func33, Fahg.ntmps33
  go_wp2_with fail
  refine (sign30_any _ hU4.out _).mono ?_; rintro e w' ⟨rfl, rfl⟩
  go_wp2_with fail
  refine (take_0_2 _ hU.out _).mono ?_; rintro e w' ⟨rfl, rfl⟩
  go_wp2_with fail
  refine bodyPost_ret (v := .tuple #[WP.nul.val, .bool false]) (by simp [results, Fahg.results33, go_sem, WP.nul, WP.val]) rfl ⟨rfl, ?_⟩
  repeat' (first | exact Below.refl _ _ | refine Below.setCell ?_ (by simp) _ | refine below_drewN' ?_ _ | refine Below.drew ?_ | refine below_alloc ?_ (Nat.le_refl _) _)

theorem resolve_sec_no (b off len cap : Nat) (at_ x : Int) (h0 : 0 ≤ at_) (h1 : at_ < len) (hl : len ≤ 256) (w : World) (hc : w.cell? ⟨b, off + at_.toNat, none⟩ = some (.int .u64 x)) (hu : U64 x) (x0 : (x == 0) = false) (g0 : low2 x = 0) (hs : secOk x = false) :
    Calls Fahg.prog 33 #[.slice (some ⟨b, off, none⟩) len cap, .int .u16 at_] w fun e w' => e = .returned (.tuple #[WP.nul.val, .bool false]) ∧ Below w.heap.size w w' := by
  have hb : b < w.heap.size := World.block_lt_of_cell? w ⟨b, off + at_.toNat, none⟩ hc
  have hbd := sgn30_bd (x / 4)
  have hlo := low2_bd x
  have hU : Hid (U64 x) := hu
  have hU4 : Hid (U64 (x / 4)) := div4_u64 _ hu
  clear hu
  have b2 := secD_bd x
  have b3 := secP_bd x hU.out
  have b5 := wWords_bd 1 (secD x) (secP x) 0 0 b2.1 b3.1 (by omega)
  go_enter Fahg.func33, Fahg.ntmps33
  go_wp2_with fail
  refine (sign30_any _ hU4.out _).mono ?_; rintro e w' ⟨rfl, rfl⟩
  go_wp2_with fail
  refine (take_0_2 _ hU.out _).mono ?_; rintro e w' ⟨rfl, rfl⟩
  go_wp2_with fail
  refine (sections_any _ hU.out _).mono ?_; rintro e w' ⟨rfl, rfl⟩
  go_wp2_with fail
  refine bodyPost_ret (v := .tuple #[WP.nul.val, .bool false]) (by simp [results, Fahg.results33, go_sem, WP.nul, WP.val]) rfl ⟨rfl, ?_⟩
  repeat' (first | exact Below.refl _ _ | refine Below.setCell ?_ (by simp) _ | refine below_drewN' ?_ _ | refine Below.drew ?_ | refine below_alloc ?_ (Nat.le_refl _) _)

theorem resolve_sec_out (b off len cap : Nat) (at_ x : Int) (h0 : 0 ≤ at_) (h1 : at_ < len) (hl : len ≤ 256) (w : World) (hc : w.cell? ⟨b, off + at_.toNat, none⟩ = some (.int .u64 x)) (hu : U64 x) (x0 : (x == 0) = false) (g0 : low2 x = 0) (hs : secOk x = true) (hsp : spansB (rTo at_ x) (wWords 1 (secD x) (secP x) 0 0) len = false) :
    Calls Fahg.prog 33 #[.slice (some ⟨b, off, none⟩) len cap, .int .u16 at_] w fun e w' => e = .returned (.tuple #[WP.nul.val, .bool false]) ∧ Below w.heap.size w w' := by
  have hb : b < w.heap.size := World.block_lt_of_cell? w ⟨b, off + at_.toNat, none⟩ hc
  have hbd := sgn30_bd (x / 4)
  have hlo := low2_bd x
  have hU : Hid (U64 x) := hu
  have hU4 : Hid (U64 (x / 4)) := div4_u64 _ hu
  clear hu
  have b2 := secD_bd x
  have b3 := secP_bd x hU.out
  have b5 := wWords_bd 1 (secD x) (secP x) 0 0 b2.1 b3.1 (by omega)
  unfold rTo at hsp
  go_enter Fahg.func33, Fahg.ntmps33
  go_wp2_with fail
  refine (sign30_any _ hU4.out _).mono ?_; rintro e w' ⟨rfl, rfl⟩
  go_wp2_with fail
  refine (take_0_2 _ hU.out _).mono ?_; rintro e w' ⟨rfl, rfl⟩
  go_wp2_with fail
  refine (sections_any _ hU.out _).mono ?_; rintro e w' ⟨rfl, rfl⟩
  go_wp2_with fail
  refine (words_any _ _ _ _ _ _ (by omega) (by omega) (by omega) (by omega) (by omega) (by omega) (by omega) (by omega) (by omega) (by omega) _).mono ?_; rintro e w1 ⟨rfl, c, nq, rfl⟩
  go_wp2_with fail
  refine (spans_any _ _ _ (by omega) (by omega) (by omega) (by omega) _).mono ?_; rintro e w' ⟨rfl, rfl⟩
  go_wp2_with fail
  refine bodyPost_ret (v := .tuple #[WP.nul.val, .bool false]) (by simp [results, Fahg.results33, go_sem, WP.nul, WP.val]) rfl ⟨rfl, ?_⟩
  repeat' (first | exact Below.refl _ _ | refine Below.setCell ?_ (by simp) _ | refine below_drewN' ?_ _ | refine Below.drew ?_ | refine below_alloc ?_ (Nat.le_refl _) _)

theorem resolve_sec (b off len cap : Nat) (at_ x : Int) (h0 : 0 ≤ at_) (h1 : at_ < len) (hl : len ≤ 256) (w : World) (hc : w.cell? ⟨b, off + at_.toNat, none⟩ = some (.int .u64 x)) (hu : U64 x) (x0 : (x == 0) = false) (g0 : low2 x = 0) (hs : secOk x = true) (hsp : spansB (rTo at_ x) (wWords 1 (secD x) (secP x) 0 0) len = true) :
    Calls Fahg.prog 33 #[.slice (some ⟨b, off, none⟩) len cap, .int .u16 at_] w fun e w' => e = .returned (.tuple #[(WP.mk 1 (rTo at_ x) (secD x) (secP x) 0 0).val, .bool true]) ∧ Below w.heap.size w w' := by
  have hb : b < w.heap.size := World.block_lt_of_cell? w ⟨b, off + at_.toNat, none⟩ hc
  have hbd := sgn30_bd (x / 4)
  have hlo := low2_bd x
  have hU : Hid (U64 x) := hu
  have hU4 : Hid (U64 (x / 4)) := div4_u64 _ hu
  clear hu
  have b2 := secD_bd x
  have b3 := secP_bd x hU.out
  have b5 := wWords_bd 1 (secD x) (secP x) 0 0 b2.1 b3.1 (by omega)
  have ht := spansB_to b5.1 hsp
  unfold rTo at ht hsp ⊢
  go_enter Fahg.func33, Fahg.ntmps33
  go_wp2_with fail
  refine (sign30_any _ hU4.out _).mono ?_; rintro e w' ⟨rfl, rfl⟩
  go_wp2_with fail
  refine (take_0_2 _ hU.out _).mono ?_; rintro e w' ⟨rfl, rfl⟩
  go_wp2_with fail
  refine (sections_any _ hU.out _).mono ?_; rintro e w' ⟨rfl, rfl⟩
  go_wp2_with fail
  refine (words_any _ _ _ _ _ _ (by omega) (by omega) (by omega) (by omega) (by omega) (by omega) (by omega) (by omega) (by omega) (by omega) _).mono ?_; rintro e w1 ⟨rfl, c, nq, rfl⟩
  go_wp2_with fail
  refine (spans_any _ _ _ (by omega) (by omega) (by omega) (by omega) _).mono ?_; rintro e w' ⟨rfl, rfl⟩
  go_wp2_with fail
  refine bodyPost_ret (v := .tuple #[WP.val ⟨1, at_ + 1 + sgn30 (x / 4), secD x, secP x, 0, 0⟩, .bool true]) (by simp [results, Fahg.results33, go_sem, WP.val]) rfl ⟨rfl, ?_⟩
  repeat' (first | exact Below.refl _ _ | refine Below.setCell ?_ (by simp) _ | refine below_drewN' ?_ _ | refine Below.drew ?_ | refine below_alloc ?_ (Nat.le_refl _) _)

theorem resolve_list_out (b off len cap : Nat) (at_ x : Int) (h0 : 0 ≤ at_) (h1 : at_ < len) (hl : len ≤ 256) (w : World) (hc : w.cell? ⟨b, off + at_.toNat, none⟩ = some (.int .u64 x)) (hu : U64 x) (x0 : (x == 0) = false) (g0 : (low2 x == 0) = false) (g1 : low2 x = 1) (hc7 : (code3 x == 7) = false) (hsp : spansB (rTo at_ x) (wWords 2 0 0 (code3 x) (cnt29 x)) len = false) :
    Calls Fahg.prog 33 #[.slice (some ⟨b, off, none⟩) len cap, .int .u16 at_] w fun e w' => e = .returned (.tuple #[WP.nul.val, .bool false]) ∧ Below w.heap.size w w' := by
  have hb : b < w.heap.size := World.block_lt_of_cell? w ⟨b, off + at_.toNat, none⟩ hc
  have hbd := sgn30_bd (x / 4)
  have hlo := low2_bd x
  have hU : Hid (U64 x) := hu
  have hU4 : Hid (U64 (x / 4)) := div4_u64 _ hu
  clear hu
  have b2 := cnt29_bd x hU.out
  have b3 := code3_bd x
  have b5 := wWords_bd 2 0 0 (code3 x) (cnt29 x) (by omega) (by omega) (by omega)
  unfold rTo at hsp
  go_enter Fahg.func33, Fahg.ntmps33
  go_wp2_with fail
  refine (sign30_any _ hU4.out _).mono ?_; rintro e w' ⟨rfl, rfl⟩
  go_wp2_with fail
  refine (take_0_2 _ hU.out _).mono ?_; rintro e w' ⟨rfl, rfl⟩
  go_wp2_with fail
  refine (take_32_3 _ hU.out _).mono ?_; rintro e w' ⟨rfl, rfl⟩
  go_wp2_with fail
  refine (take_35_29 _ hU.out _).mono ?_; rintro e w' ⟨rfl, rfl⟩
  go_wp2_with fail
  refine (words_any _ _ _ _ _ _ (by omega) (by omega) (by omega) (by omega) (by omega) (by omega) (by omega) (by omega) (by omega) (by omega) _).mono ?_; rintro e w1 ⟨rfl, c, nq, rfl⟩
  go_wp2_with fail
  refine (spans_any _ _ _ (by omega) (by omega) (by omega) (by omega) _).mono ?_; rintro e w' ⟨rfl, rfl⟩
  go_wp2_with fail
  refine bodyPost_ret (v := .tuple #[WP.nul.val, .bool false]) (by simp [results, Fahg.results33, go_sem, WP.nul, WP.val]) rfl ⟨rfl, ?_⟩
  repeat' (first | exact Below.refl _ _ | refine Below.setCell ?_ (by simp) _ | refine below_drewN' ?_ _ | refine Below.drew ?_ | refine below_alloc ?_ (Nat.le_refl _) _)

theorem resolve_list (b off len cap : Nat) (at_ x : Int) (h0 : 0 ≤ at_) (h1 : at_ < len) (hl : len ≤ 256) (w : World) (hc : w.cell? ⟨b, off + at_.toNat, none⟩ = some (.int .u64 x)) (hu : U64 x) (x0 : (x == 0) = false) (g0 : (low2 x == 0) = false) (g1 : low2 x = 1) (hc7 : (code3 x == 7) = false) (hsp : spansB (rTo at_ x) (wWords 2 0 0 (code3 x) (cnt29 x)) len = true) :
    Calls Fahg.prog 33 #[.slice (some ⟨b, off, none⟩) len cap, .int .u16 at_] w fun e w' => e = .returned (.tuple #[(WP.mk 2 (rTo at_ x) 0 0 (code3 x) (cnt29 x)).val, .bool true]) ∧ Below w.heap.size w w' := by
  have hb : b < w.heap.size := World.block_lt_of_cell? w ⟨b, off + at_.toNat, none⟩ hc
  have hbd := sgn30_bd (x / 4)
  have hlo := low2_bd x
  have hU : Hid (U64 x) := hu
  have hU4 : Hid (U64 (x / 4)) := div4_u64 _ hu
  clear hu
  have b2 := cnt29_bd x hU.out
  have b3 := code3_bd x
  have b5 := wWords_bd 2 0 0 (code3 x) (cnt29 x) (by omega) (by omega) (by omega)
  have ht := spansB_to b5.1 hsp
  unfold rTo at ht hsp ⊢
  go_enter Fahg.func33, Fahg.ntmps33
  go_wp2_with fail
  refine (sign30_any _ hU4.out _).mono ?_; rintro e w' ⟨rfl, rfl⟩
  go_wp2_with fail
  refine (take_0_2 _ hU.out _).mono ?_; rintro e w' ⟨rfl, rfl⟩
  go_wp2_with fail
  refine (take_32_3 _ hU.out _).mono ?_; rintro e w' ⟨rfl, rfl⟩
  go_wp2_with fail
  refine (take_35_29 _ hU.out _).mono ?_; rintro e w' ⟨rfl, rfl⟩
  go_wp2_with fail
  refine (words_any _ _ _ _ _ _ (by omega) (by omega) (by omega) (by omega) (by omega) (by omega) (by omega) (by omega) (by omega) (by omega) _).mono ?_; rintro e w1 ⟨rfl, c, nq, rfl⟩
  go_wp2_with fail
  refine (spans_any _ _ _ (by omega) (by omega) (by omega) (by omega) _).mono ?_; rintro e w' ⟨rfl, rfl⟩
  go_wp2_with fail
  refine bodyPost_ret (v := .tuple #[WP.val ⟨2, at_ + 1 + sgn30 (x / 4), 0, 0, code3 x, cnt29 x⟩, .bool true]) (by simp [results, Fahg.results33, go_sem, WP.val]) rfl ⟨rfl, ?_⟩
  repeat' (first | exact Below.refl _ _ | refine Below.setCell ?_ (by simp) _ | refine below_drewN' ?_ _ | refine Below.drew ?_ | refine below_alloc ?_ (Nat.le_refl _) _)

set_option maxHeartbeats 400000 in
theorem resolve_tag_no (b off len cap : Nat) (at_ x : Int) (h0 : 0 ≤ at_) (h1 : at_ < len) (hl : len ≤ 256) (w : World) (hc : w.cell? ⟨b, off + at_.toNat, none⟩ = some (.int .u64 x)) (hu : U64 x) (x0 : (x == 0) = false) (g0 : (low2 x == 0) = false) (g1 : low2 x = 1) (hc7 : code3 x = 7) (hno : cnt29 x > 256 ∨ spansB (rTo at_ x) (cnt29 x + 1) len = false) :
    Calls Fahg.prog 33 #[.slice (some ⟨b, off, none⟩) len cap, .int .u16 at_] w fun e w' => e = .returned (.tuple #[WP.nul.val, .bool false]) ∧ Below w.heap.size w w' := by
  have hb : b < w.heap.size := World.block_lt_of_cell? w ⟨b, off + at_.toNat, none⟩ hc
  have hbd := sgn30_bd (x / 4)
  have hlo := low2_bd x
  have hU : Hid (U64 x) := hu
  have hU4 : Hid (U64 (x / 4)) := div4_u64 _ hu
  clear hu
  have b2 := cnt29_bd x hU.out
  have b3 := code3_bd x
  have b5 := wWords_bd 2 0 0 (code3 x) (cnt29 x) (by omega) (by omega) (by omega)
  have hno : Hid (cnt29 x > 256 ∨ spansB (at_ + 1 + sgn30 (x / 4)) (cnt29 x + 1) len = false) := hno
  go_enter Fahg.func33, Fahg.ntmps33
  go_wp2_with fail
  refine (sign30_any _ hU4.out _).mono ?_; rintro e w' ⟨rfl, rfl⟩
  go_wp2_with fail
  refine (take_0_2 _ hU.out _).mono ?_; rintro e w' ⟨rfl, rfl⟩
  go_wp2_with fail
  refine (take_32_3 _ hU.out _).mono ?_; rintro e w' ⟨rfl, rfl⟩
  go_wp2_with fail
  refine (take_35_29 _ hU.out _).mono ?_; rintro e w' ⟨rfl, rfl⟩
  go_wp2_with fail
  refine (structs_no _ len cap _ _ (by omega) (by omega) (by omega) (by omega) hno.out _).mono ?_
  rintro e w1 ⟨rfl, hb1⟩
  obtain ⟨hc1, hf1⟩ := bcell hb1
  have f1 := fun o => hf1 w.heap.size o (by simp; omega)
  have hz1 : w.heap.size + 1 < w1.heap.size := by have := hb1.size; simp at this; omega
  have q := fun o => (hc1 w.heap.size o (by simp; omega)).trans (cell_two_old w _ _ 78 78 o)
  clear hc1 hf1
  simp only [WP.nul, WP.val] at *
  go_wp2_with fail
  refine bodyPost_ret (v := .tuple #[WP.nul.val, .bool false]) (by simp [results, Fahg.results33, go_sem, WP.val, WP.nul, q]) rfl ⟨rfl, ?_⟩
  have := (below_alloc (below_alloc (Below.refl w.heap.size w) (Nat.le_refl _) _) (Nat.le_refl _) _).trans (hb1.mono (by simp; omega))
  repeat' (first | refine Below.setCell ?_ (by simp) _ | exact this)

set_option maxHeartbeats 400000 in
theorem resolve_tag (b off len cap : Nat) (at_ x : Int) (h0 : 0 ≤ at_) (h1 : at_ < len) (hl : len ≤ 256) (w : World) (hc : w.cell? ⟨b, off + at_.toNat, none⟩ = some (.int .u64 x)) (hu : U64 x) (x0 : (x == 0) = false) (g0 : (low2 x == 0) = false) (g1 : low2 x = 1) (hc7 : code3 x = 7) (ht : 1 ≤ rTo at_ x ∧ rTo at_ x + (cnt29 x + 1) ≤ len) (t : Int) (hct : w.cell? ⟨b, off + (rTo at_ x).toNat, none⟩ = some (.int .u64 t)) (hut : U64 t) :
    Calls Fahg.prog 33 #[.slice (some ⟨b, off, none⟩) len cap, .int .u16 at_] w fun e w' => e = .returned (.tuple #[(stR (rTo at_ x) t (cnt29 x)).val, .bool (stB (rTo at_ x) t (cnt29 x))]) ∧ Below w.heap.size w w' := by
  have hb : b < w.heap.size := World.block_lt_of_cell? w ⟨b, off + at_.toNat, none⟩ hc
  have hbd := sgn30_bd (x / 4)
  have hlo := low2_bd x
  have hU : Hid (U64 x) := hu
  have hU4 : Hid (U64 (x / 4)) := div4_u64 _ hu
  clear hu
  have b2 := cnt29_bd x hU.out
  have b3 := code3_bd x
  have b5 := wWords_bd 2 0 0 (code3 x) (cnt29 x) (by omega) (by omega) (by omega)
  unfold rTo at ht hct ⊢
  have hut : Hid (U64 t) := hut
  go_enter Fahg.func33, Fahg.ntmps33
  go_wp2_with fail
  refine (sign30_any _ hU4.out _).mono ?_; rintro e w' ⟨rfl, rfl⟩
  go_wp2_with fail
  refine (take_0_2 _ hU.out _).mono ?_; rintro e w' ⟨rfl, rfl⟩
  go_wp2_with fail
  refine (take_32_3 _ hU.out _).mono ?_; rintro e w' ⟨rfl, rfl⟩
  go_wp2_with fail
  refine (take_35_29 _ hU.out _).mono ?_; rintro e w' ⟨rfl, rfl⟩
  go_wp2_with fail
  refine (structs_yes b off len cap _ _ t (by omega) hl (by omega) (by omega) hut.out _ ?_).mono ?_
  · simp [go_sem, hb, hct]
  rintro e w1 ⟨rfl, hb1⟩
  obtain ⟨hc1, hf1⟩ := bcell hb1
  have f1 := fun o => hf1 w.heap.size o (by simp; omega)
  have hz1 : w.heap.size + 1 < w1.heap.size := by have := hb1.size; simp at this; omega
  have q := fun o => (hc1 w.heap.size o (by simp; omega)).trans (cell_two_old w _ _ 78 78 o)
  clear hc1 hf1
  generalize hgr : stR (at_ + 1 + sgn30 (x / 4)) t (cnt29 x) = r
  generalize hgb : stB (at_ + 1 + sgn30 (x / 4)) t (cnt29 x) = rb
  have HG : Hid (stR (at_ + 1 + sgn30 (x / 4)) t (cnt29 x) = r) := hgr
  have HB : Hid (stB (at_ + 1 + sgn30 (x / 4)) t (cnt29 x) = rb) := hgb
  clear hgr hgb
  obtain ⟨r1, r2, r3, r4, r5, r6⟩ := r
  simp only [WP.val]
  go_wp2_with fail
  refine bodyPost_ret (v := .tuple #[WP.val ⟨r1, r2, r3, r4, r5, r6⟩, .bool rb]) (by simp [results, Fahg.results33, go_sem, WP.val, q]) rfl ⟨ret_wp HG.out.symm HB.out.symm, ?_⟩
  have := (below_alloc (below_alloc (Below.refl w.heap.size w) (Nat.le_refl _) _) (Nat.le_refl _) _).trans (hb1.mono (by simp; omega))
  repeat' (first | refine Below.setCell ?_ (by simp) _ | exact this)

theorem resolve_in (b off len cap : Nat) (at_ : Int) (z : Int → Int) (h0 : 0 ≤ at_) (h1 : at_ < len) (hl : len ≤ 256) (w : World) (hz : Row w b off len z) :
    Calls Fahg.prog 33 #[.slice (some ⟨b, off, none⟩) len cap, .int .u16 at_] w fun e w' => e = .returned (.tuple #[(rsv z len at_).1.val, .bool (rsv z len at_).2]) ∧ Below w.heap.size w w' := by
  obtain ⟨hc, hu⟩ := hz at_ h0 h1
  by_cases hx0 : z at_ = 0
  · have hR : rsv z len at_ = (WP.nul, true) := by simp [rsv, hx0]
    rw [hR]; rw [hx0] at hc
    exact resolve_zero b off len cap at_ h0 h1 hl w hc
  have hx0' : (z at_ == 0) = false := by simpa using hx0
  by_cases hlo0 : low2 (z at_) = 0
  · by_cases hs : secOk (z at_) = true
    · by_cases hsp : spansB (rTo at_ (z at_)) (wWords 1 (secD (z at_)) (secP (z at_)) 0 0) len = true
      · have hR : rsv z len at_ = (⟨1, rTo at_ (z at_), secD (z at_), secP (z at_), 0, 0⟩, true) := by simp [rsv, hx0, hlo0, hs, hsp]
        rw [hR]
        exact resolve_sec b off len cap at_ _ h0 h1 hl w hc hu hx0' hlo0 hs hsp
      · have hR : rsv z len at_ = (WP.nul, false) := by simp [rsv, hx0, hlo0, hs, hsp]
        rw [hR]
        exact resolve_sec_out b off len cap at_ _ h0 h1 hl w hc hu hx0' hlo0 hs (by simpa using hsp)
    · have hR : rsv z len at_ = (WP.nul, false) := by simp [rsv, hx0, hlo0, hs]
      rw [hR]
      exact resolve_sec_no b off len cap at_ _ h0 h1 hl w hc hu hx0' hlo0 (by simpa using hs)
  have g0 : (low2 (z at_) == 0) = false := by simpa using hlo0
  by_cases hlo1 : low2 (z at_) = 1
  · have hb2 := cnt29_bd _ hu
    by_cases hc7 : code3 (z at_) = 7
    · by_cases hin : cnt29 (z at_) ≤ 256 ∧ spansB (rTo at_ (z at_)) (cnt29 (z at_) + 1) len = true
      · have hR : rsv z len at_ = (stR (rTo at_ (z at_)) (z (rTo at_ (z at_))) (cnt29 (z at_)), stB (rTo at_ (z at_)) (z (rTo at_ (z at_))) (cnt29 (z at_))) := by
          simp [rsv, hx0, hlo1, hc7, hin.1, hin.2]
        rw [hR]
        obtain ⟨hin1, hin2⟩ := hin
        have ht : 1 ≤ rTo at_ (z at_) ∧ rTo at_ (z at_) + (cnt29 (z at_) + 1) ≤ len := by
          unfold spansB at hin2; rw [if_neg (by omega)] at hin2; simpa using hin2
        obtain ⟨hct, hut⟩ := hz (rTo at_ (z at_)) (by omega) (by omega)
        exact resolve_tag b off len cap at_ _ h0 h1 hl w hc hu hx0' g0 hlo1 hc7 ht _ hct hut
      · have hR : rsv z len at_ = (WP.nul, false) := by
          simp only [rsv, hx0, hlo1, hc7, if_false, if_true]
          rw [if_neg (by omega), if_neg (by simpa using hin)]
        rw [hR]
        refine resolve_tag_no b off len cap at_ _ h0 h1 hl w hc hu hx0' g0 hlo1 hc7 ?_
        by_cases hle : cnt29 (z at_) ≤ 256
        · exact Or.inr (by simpa [hle] using hin)
        · exact Or.inl (by omega)
    · have hc7' : (code3 (z at_) == 7) = false := by simpa using hc7
      by_cases hsp : spansB (rTo at_ (z at_)) (wWords 2 0 0 (code3 (z at_)) (cnt29 (z at_))) len = true
      · have hR : rsv z len at_ = (⟨2, rTo at_ (z at_), 0, 0, code3 (z at_), cnt29 (z at_)⟩, true) := by simp [rsv, hx0, hlo1, hc7, hsp]
        rw [hR]
        exact resolve_list b off len cap at_ _ h0 h1 hl w hc hu hx0' g0 hlo1 hc7' hsp
      · have hR : rsv z len at_ = (WP.nul, false) := by simp [rsv, hx0, hlo1, hc7, hsp]
        rw [hR]
        exact resolve_list_out b off len cap at_ _ h0 h1 hl w hc hu hx0' g0 hlo1 hc7' (by simpa using hsp)
  · have hR : rsv z len at_ = (WP.nul, false) := by simp [rsv, hx0, hlo0, hlo1]
    rw [hR]
    exact resolve_bad b off len cap at_ _ h0 h1 hl w hc hu hx0' g0 (by simpa using hlo1)
end Go.Proofs.Ygcfah
