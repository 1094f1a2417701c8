/- wide.Reader: U64 and Elem. -/
import Derived.Test.YgcfahWideIn
import Derived.Test.YgcfahTake64
namespace Go.Proofs.Ygcfah
open Go.RowKit
set_option linter.unusedVariables false
set_option linter.unusedSimpArgs false
attribute [local go_sem] setCell_drewN alloc_drewN

theorem wIn_kind {kind at_ data ptrs code count size : Int} (h : wIn kind at_ data ptrs code count size = true) : size ≤ 256 ∧ (kind = 1 ∨ kind = 2) ∧ wFirst kind at_ code + wWords kind data ptrs code count ≤ size ∧ (wWords kind data ptrs code count = 0 ∨ 1 ≤ wFirst kind at_ code) := by
  simpa [wIn] using h
theorem wIn_struct {at_ data ptrs code count size : Int} (d0 : 0 ≤ data) (p0 : 0 ≤ ptrs) (t0 : 0 ≤ at_) (h : wIn 1 at_ data ptrs code count size = true) : size ≤ 256 ∧ data ≤ 8 ∧ ptrs ≤ 8 ∧ at_ + data + ptrs ≤ size ∧ (data + ptrs = 0 ∨ 1 ≤ at_) := by
  obtain ⟨h1, _, h3, h4⟩ := wIn_kind h
  have e : wFirst 1 at_ code = at_ := by simp [wFirst]
  rw [e] at h3 h4
  by_cases hs : data ≤ 8 ∧ ptrs ≤ 8
  · have : wWords 1 data ptrs code count = data + ptrs := by simp [wWords, hs]
    omega
  · have : wWords 1 data ptrs code count = 257 := by simp [wWords, hs]
    omega
theorem wIn_list {at_ data ptrs code count size : Int} (c7 : code < 7) (h : wIn 2 at_ data ptrs code count size = true) : size ≤ 256 ∧ at_ + (count * elBits code + 63) / 64 ≤ size ∧ ((count * elBits code + 63) / 64 = 0 ∨ 1 ≤ at_) := by
  obtain ⟨h1, _, h3, h4⟩ := wIn_kind h
  have e : wFirst 2 at_ code = at_ := by unfold wFirst; rw [if_neg (by omega)]
  have e2 : wWords 2 data ptrs code count = min ((count * elBits code + 63) / 64) 257 := by
    unfold wWords; rw [if_neg (by decide), if_neg (by omega), if_pos ⟨rfl, c7⟩]
  rw [e, e2] at h3 h4
  omega
/-- The word that element j begins in lies inside. -/
theorem elem_word {j count n : Int} (j0 : 0 ≤ j) (hj : j < count) (n0 : 1 ≤ n) : j * n / 64 < (count * n + 63) / 64 := by
  have h1 : (j + 1) * n ≤ count * n := Int.mul_le_mul_of_nonneg_right (by omega) (by omega)
  have h2 : (j + 1) * n = j * n + n := by rw [Int.add_mul]; omega
  generalize j * n = a at *
  generalize count * n = b at *
  omega

set_option maxHeartbeats 1600000 in
theorem u64_no (RB : Nat) (a0 : Option Addr) (len cap : Nat) (kind at_ data ptrs code count : Int) (k0 : 0 ≤ kind) (k1 : kind ≤ 255) (t0 : 0 ≤ at_) (t1 : at_ ≤ 65535) (d0 : 0 ≤ data) (d1 : data ≤ 255) (p0 : 0 ≤ ptrs) (p1 : ptrs ≤ 255) (c0 : 0 ≤ code) (c1 : code ≤ 255) (n0 : 0 ≤ count) (n1 : count ≤ 4294967295) (i : Int) (i0 : 0 ≤ i) (i1 : i ≤ 255) (w : World) (hr : w.cell? ⟨RB, 0, none⟩ = some (.slice a0 len cap))
    (hno : (kind != 1) = true ∨ ((kind != 1) = false ∧ data ≤ i) ∨ ((kind != 1) = false ∧ i < data ∧ wIn kind at_ data ptrs code count len = false)) :
    Calls Fahg.prog 40 #[.pointer (some ⟨RB, 0, none⟩), .agg #[.int .u8 kind, .int .u16 at_, .int .u8 data, .int .u8 ptrs, .int .u8 code, .int .u32 count], .int .u8 i] w fun e w' => e = .returned (.int .u64 0) ∧ Below w.heap.size w w' := by
  have hb : RB < w.heap.size := World.block_lt_of_cell? w ⟨RB, 0, none⟩ hr
  have hI := fun w => inside_any a0 len cap kind at_ data ptrs code count k0 k1 t0 t1 d0 d1 p0 p1 c0 c1 n0 n1 w
  generalize hbi : wIn kind at_ data ptrs code count len = bI at *
  have HI : Hid _ := hI
  clear hI hbi
  rcases hno with g | ⟨g, h⟩ | ⟨g, h, hi⟩
  · go_enter Fahg.func40, Fahg.ntmps40
    go_wp2_with fail
    go_quiet (fail)
    go_wp2_with fail
    go_ret
    exact ⟨rfl, by repeat' (first | exact Below.refl _ _ | refine below_drewN' ?_ _ | refine Below.drew ?_ | refine below_alloc ?_ (Nat.le_refl _) _)⟩
  · have hd : decide (data ≤ i) = true := by simpa using h
    go_enter Fahg.func40, Fahg.ntmps40
    go_wp2_with fail
    go_quiet (fail)
    go_wp2_with fail
    go_ret
    exact ⟨rfl, by repeat' (first | exact Below.refl _ _ | refine below_drewN' ?_ _ | refine Below.drew ?_ | refine below_alloc ?_ (Nat.le_refl _) _)⟩
  · have hd : decide (data ≤ i) = false := by simpa using h
    subst hi
    go_enter Fahg.func40, Fahg.ntmps40
    go_wp2_with fail
    go_region_held3 (fun w' => w'.cell? ⟨w.heap.size, 0, none⟩ = some (.int .u8 kind) ∧ w'.cell? ⟨w.heap.size, 1, none⟩ = some (.int .u16 at_) ∧ w'.cell? ⟨w.heap.size, 2, none⟩ = some (.int .u8 data) ∧ w'.cell? ⟨w.heap.size, 3, none⟩ = some (.int .u8 ptrs) ∧ w'.cell? ⟨w.heap.size, 4, none⟩ = some (.int .u8 code) ∧ w'.cell? ⟨w.heap.size, 5, none⟩ = some (.int .u32 count) ∧ w'.cell? ⟨RB, 0, none⟩ = some (.slice a0 len cap) ∧ w.heap.size < w'.heap.size) ((repeat' apply And.intro) <;> first | assumption | (simp [go_sem, hr, hb]; done) | (simp; done) | (simp; omega) | ((rw [hbI.cell (by simp)]; first | assumption | (simp [go_sem]; done))) | ((rw [hbI.cell (by simp; omega)]; first | assumption | (simp [go_sem, hr, hb]; done))) | (have := hbI.size; simp at this; omega))
      (first | (go_at_call 39; refine (HI.out _).mono ?_; rintro e wI ⟨rfl, hbI⟩))
    go_wp2_with fail
    go_ret
    exact ⟨rfl, (by refine Below.trans ?_ (hbI.mono (by simp)); repeat' (first | exact Below.refl _ _ | refine below_drewN' ?_ _ | refine Below.drew ?_ | refine below_alloc ?_ (Nat.le_refl _) _))⟩

set_option maxHeartbeats 1600000 in
theorem u64_yes (RB b off : Nat) (len cap : Nat) (kind at_ data ptrs code count : Int) (k0 : 0 ≤ kind) (k1 : kind ≤ 255) (t0 : 0 ≤ at_) (t1 : at_ ≤ 65535) (d0 : 0 ≤ data) (d1 : data ≤ 255) (p0 : 0 ≤ ptrs) (p1 : ptrs ≤ 255) (c0 : 0 ≤ code) (c1 : code ≤ 255) (n0 : 0 ≤ count) (n1 : count ≤ 4294967295) (i : Int) (i0 : 0 ≤ i) (z : Int → Int) (w : World) (hr : w.cell? ⟨RB, 0, none⟩ = some (.slice (some ⟨b, off, none⟩) len cap)) (hz : Row w b off len z)
    (g : (kind != 1) = false) (h : i < data) (hin : wIn kind at_ data ptrs code count len = true) :
    Calls Fahg.prog 40 #[.pointer (some ⟨RB, 0, none⟩), .agg #[.int .u8 kind, .int .u16 at_, .int .u8 data, .int .u8 ptrs, .int .u8 code, .int .u32 count], .int .u8 i] w fun e w' => e = .returned (.int .u64 (z (at_ + i))) ∧ Below w.heap.size w w' := by
  have hx : len ≤ 256 ∧ at_ + i < len := by
    have g' : kind = 1 := by simpa using g
    subst g'; have := wIn_struct d0 p0 t0 hin; omega
  obtain ⟨hl, hx⟩ := hx
  have hcz := (hz (at_ + i) (by omega) hx).1
  have hbz : b < w.heap.size := World.block_lt_of_cell? w _ hcz
  have hd : decide (data ≤ i) = false := by simpa using h
  have hxi : 0 ≤ at_ + i := by omega
  generalize ha : some (Addr.mk b off none) = a0 at *
  have HA : Hid (some (Addr.mk b off none) = a0) := ha
  have HZ : Hid (w.cell? ⟨b, off + (at_ + i).toNat, none⟩ = some (.int .u64 (z (at_ + i)))) := hcz
  clear ha hz hcz
  have hb : RB < w.heap.size := World.block_lt_of_cell? w ⟨RB, 0, none⟩ hr
  have hI := fun w => inside_any a0 len cap kind at_ data ptrs code count k0 k1 t0 t1 d0 d1 p0 p1 c0 c1 n0 n1 w
  generalize hbi : wIn kind at_ data ptrs code count len = bI at *
  have HI : Hid _ := hI
  clear hI hbi
  subst hin
  go_enter Fahg.func40, Fahg.ntmps40
  go_wp2_with fail
  go_region_held3 (fun w' => w'.cell? ⟨w.heap.size, 0, none⟩ = some (.int .u8 kind) ∧ w'.cell? ⟨w.heap.size, 1, none⟩ = some (.int .u16 at_) ∧ w'.cell? ⟨w.heap.size, 2, none⟩ = some (.int .u8 data) ∧ w'.cell? ⟨w.heap.size, 3, none⟩ = some (.int .u8 ptrs) ∧ w'.cell? ⟨w.heap.size, 4, none⟩ = some (.int .u8 code) ∧ w'.cell? ⟨w.heap.size, 5, none⟩ = some (.int .u32 count) ∧ w'.cell? ⟨RB, 0, none⟩ = some (.slice a0 len cap) ∧ w.heap.size < w'.heap.size) ((repeat' apply And.intro) <;> first | assumption | (simp [go_sem, hr, hb]; done) | (simp; done) | (simp; omega) | ((rw [hbI.cell (by simp)]; first | assumption | (simp [go_sem]; done))) | ((rw [hbI.cell (by simp; omega)]; first | assumption | (simp [go_sem, hr, hb]; done))) | (have := hbI.size; simp at this; omega))
    (first | (go_at_call 39; refine (HI.out _).mono ?_; rintro e wI ⟨rfl, hbI⟩))
  rename_i hHeld
  obtain ⟨s0, s1, s2, s3, s4, s5, s6, s7⟩ := hHeld
  have hcz' : wI.cell? ⟨b, off + (at_ + i).toNat, none⟩ = some (.int .u64 (z (at_ + i))) := by
    rw [hbI.cell (p := ⟨b, off + (at_ + i).toNat, none⟩) (by simp; omega)]; simp [go_sem, hbz, HZ.out]
  have HB : Hid (Below w.heap.size w wI) := (by refine Below.trans ?_ (hbI.mono (by simp)); repeat' (first | exact Below.refl _ _ | refine below_drewN' ?_ _ | refine Below.drew ?_ | refine below_alloc ?_ (Nat.le_refl _) _))
  clear hbI
  have ha := HA.out
  subst ha
  clear HA HZ
  go_wp2_with fail
  go_quiet (fail)
  go_wp2_with fail
  go_ret
  exact ⟨rfl, below_drewN' HB.out _⟩

/-- The bits of a word, whatever their number from 1 to 64. -/
def bitsAt (x s n : Int) : Int := x / 2 ^ s.toNat % 2 ^ n.toNat
theorem take_bits (x s n : Int) (hx : U64 x) (s0 : 0 ≤ s) (n1 : 1 ≤ n) (hs : s + n ≤ 64) (w : World) :
    Calls Fahg.prog 99 #[.int .u64 x, .int .u8 s, .int .u8 n] w fun e w' => e = .returned (.int .u64 (bitsAt x s n)) ∧ w' = w := by
  by_cases h : n ≤ 63
  · exact take_any x s n _ hx (by omega) h s0 (by omega) hs rfl w
  · have en : n = 64 := by omega
    have es : s = 0 := by omega
    subst en; subst es
    have e : bitsAt x 0 64 = x := by obtain ⟨a, b⟩ := hx; unfold bitsAt; simp; omega
    rw [e]
    exact take64 x hx w

set_option maxHeartbeats 3200000 in
theorem elem_no (RB : Nat) (a0 : Option Addr) (len cap : Nat) (kind at_ data ptrs code count : Int) (k0 : 0 ≤ kind) (k1 : kind ≤ 255) (t0 : 0 ≤ at_) (t1 : at_ ≤ 65535) (d0 : 0 ≤ data) (d1 : data ≤ 255) (p0 : 0 ≤ ptrs) (p1 : ptrs ≤ 255) (c0 : 0 ≤ code) (c1 : code ≤ 255) (n0 : 0 ≤ count) (n1 : count ≤ 4294967295) (j : Int) (j0 : 0 ≤ j) (j1 : j ≤ 4294967295) (w : World) (hr : w.cell? ⟨RB, 0, none⟩ = some (.slice a0 len cap))
    (hno : (kind != 2) = true ∨ ((kind != 2) = false ∧ 5 < code) ∨ ((kind != 2) = false ∧ code ≤ 5 ∧ (code == 0) = true) ∨ ((kind != 2) = false ∧ code ≤ 5 ∧ (code == 0) = false ∧ count ≤ j) ∨
      ((kind != 2) = false ∧ code ≤ 5 ∧ (code == 0) = false ∧ j < count ∧ wIn kind at_ data ptrs code count len = false)) :
    Calls Fahg.prog 41 #[.pointer (some ⟨RB, 0, none⟩), .agg #[.int .u8 kind, .int .u16 at_, .int .u8 data, .int .u8 ptrs, .int .u8 code, .int .u32 count], .int .u32 j] w fun e w' => e = .returned (.int .u64 0) ∧ Below w.heap.size w w' := by
  have hb : RB < w.heap.size := World.block_lt_of_cell? w ⟨RB, 0, none⟩ hr
  have hI := fun w => inside_any a0 len cap kind at_ data ptrs code count k0 k1 t0 t1 d0 d1 p0 p1 c0 c1 n0 n1 w
  generalize hbi : wIn kind at_ data ptrs code count len = bI at *
  have HI : Hid _ := hI
  clear hI hbi
  rcases hno with g | ⟨g, h⟩ | ⟨g, h, h2⟩ | ⟨g, h, h2, h3⟩ | ⟨g, h, h2, h3, hi⟩
  · go_enter Fahg.func41, Fahg.ntmps41
    go_wp2_with fail
    go_quiet (fail)
    go_wp2_with fail
    go_ret
    exact ⟨rfl, by repeat' (first | exact Below.refl _ _ | refine below_drewN' ?_ _ | refine Below.drew ?_ | refine below_alloc ?_ (Nat.le_refl _) _)⟩
  · have hd : decide (5 < code) = true := by simpa using h
    go_enter Fahg.func41, Fahg.ntmps41
    go_wp2_with fail
    go_quiet (fail)
    go_wp2_with fail
    go_ret
    exact ⟨rfl, by repeat' (first | exact Below.refl _ _ | refine below_drewN' ?_ _ | refine Below.drew ?_ | refine below_alloc ?_ (Nat.le_refl _) _)⟩
  · have hd : decide (5 < code) = false := by simpa using h
    go_enter Fahg.func41, Fahg.ntmps41
    go_wp2_with fail
    go_quiet (fail)
    go_wp2_with fail
    go_ret
    exact ⟨rfl, by repeat' (first | exact Below.refl _ _ | refine below_drewN' ?_ _ | refine Below.drew ?_ | refine below_alloc ?_ (Nat.le_refl _) _)⟩
  · have hd : decide (5 < code) = false := by simpa using h
    have hd2 : decide (count ≤ j) = true := by simpa using h3
    go_enter Fahg.func41, Fahg.ntmps41
    go_wp2_with fail
    go_quiet (fail)
    go_wp2_with fail
    go_ret
    exact ⟨rfl, by repeat' (first | exact Below.refl _ _ | refine below_drewN' ?_ _ | refine Below.drew ?_ | refine below_alloc ?_ (Nat.le_refl _) _)⟩
  · have hd : decide (5 < code) = false := by simpa using h
    have hd2 : decide (count ≤ j) = false := by simpa using h3
    subst hi
    go_enter Fahg.func41, Fahg.ntmps41
    go_wp2_with fail
    go_region_held3 (fun w' => w'.cell? ⟨w.heap.size, 0, none⟩ = some (.int .u8 kind) ∧ w'.cell? ⟨w.heap.size, 1, none⟩ = some (.int .u16 at_) ∧ w'.cell? ⟨w.heap.size, 2, none⟩ = some (.int .u8 data) ∧ w'.cell? ⟨w.heap.size, 3, none⟩ = some (.int .u8 ptrs) ∧ w'.cell? ⟨w.heap.size, 4, none⟩ = some (.int .u8 code) ∧ w'.cell? ⟨w.heap.size, 5, none⟩ = some (.int .u32 count) ∧ w'.cell? ⟨RB, 0, none⟩ = some (.slice a0 len cap) ∧ w.heap.size < w'.heap.size) ((repeat' apply And.intro) <;> first | assumption | (simp [go_sem, hr, hb]; done) | (simp; done) | (simp; omega) | ((rw [hbI.cell (by simp)]; first | assumption | (simp [go_sem]; done))) | ((rw [hbI.cell (by simp; omega)]; first | assumption | (simp [go_sem, hr, hb]; done))) | (have := hbI.size; simp at this; omega))
      (first | (go_at_call 39; refine (HI.out _).mono ?_; rintro e wI ⟨rfl, hbI⟩))
    go_wp2_with fail
    go_ret
    exact ⟨rfl, (by refine Below.trans ?_ (hbI.mono (by simp)); repeat' (first | exact Below.refl _ _ | refine below_drewN' ?_ _ | refine Below.drew ?_ | refine below_alloc ?_ (Nat.le_refl _) _))⟩

set_option maxHeartbeats 3200000 in
theorem elem_yes (RB b off : Nat) (len cap : Nat) (kind at_ data ptrs code count : Int) (k0 : 0 ≤ kind) (k1 : kind ≤ 255) (t0 : 0 ≤ at_) (t1 : at_ ≤ 65535) (d0 : 0 ≤ data) (d1 : data ≤ 255) (p0 : 0 ≤ ptrs) (p1 : ptrs ≤ 255) (c0 : 0 ≤ code) (c1 : code ≤ 255) (n0 : 0 ≤ count) (n1 : count ≤ 4294967295) (j : Int) (j0 : 0 ≤ j) (j1 : j ≤ 4294967295) (z : Int → Int) (w : World) (hr : w.cell? ⟨RB, 0, none⟩ = some (.slice (some ⟨b, off, none⟩) len cap)) (hz : Row w b off len z)
    (g : (kind != 2) = false) (h : code ≤ 5) (h2 : (code == 0) = false) (h3 : j < count) (hin : wIn kind at_ data ptrs code count len = true) :
    Calls Fahg.prog 41 #[.pointer (some ⟨RB, 0, none⟩), .agg #[.int .u8 kind, .int .u16 at_, .int .u8 data, .int .u8 ptrs, .int .u8 code, .int .u32 count], .int .u32 j] w fun e w' => e = .returned (.int .u64 (bitsAt (z (at_ + j * elBits code / 64)) (j * elBits code % 64) (elBits code))) ∧ Below w.heap.size w w' := by
  have hE := fun w => elbits8 code c0 (by omega) w
  have hx : len ≤ 256 ∧ at_ + j * elBits code / 64 < len ∧ 1 ≤ elBits code ∧ elBits code ≤ 64 ∧ 0 ≤ j * elBits code ∧ j * elBits code ≤ 20000 ∧ j * elBits code % 64 + elBits code ≤ 64 := by
    have g' : kind = 2 := by simpa using g
    subst g'
    have hl := wIn_list (by omega) hin
    have e1 : 1 ≤ elBits code ∧ elBits code ≤ 64 := by
      have : code = 1 ∨ code = 2 ∨ code = 3 ∨ code = 4 ∨ code = 5 := by simp at h2; omega
      rcases this with rfl | rfl | rfl | rfl | rfl <;> decide
    have e2 := elem_word (n := elBits code) j0 h3 e1.1
    have e3 : 0 ≤ j * elBits code := Int.mul_nonneg j0 (by omega)
    have e4 : j * elBits code % 64 + elBits code ≤ 64 := by
      have : code = 1 ∨ code = 2 ∨ code = 3 ∨ code = 4 ∨ code = 5 := by simp at h2; omega
      rcases this with rfl | rfl | rfl | rfl | rfl <;> simp [elBits] <;> omega
    refine ⟨by omega, by omega, e1.1, e1.2, e3, by omega, e4⟩
  obtain ⟨hl, hx, hn1, hn2, hp0, hp1, hs⟩ := hx
  generalize elBits code = n at *
  generalize hp : j * n = p at *
  have hcz := hz (at_ + p / 64) (by omega) hx
  have hbz : b < w.heap.size := World.block_lt_of_cell? w _ hcz.1
  have hd : decide (5 < code) = false := by simpa using h
  have hd2 : decide (count ≤ j) = false := by simpa using h3
  have hxi : 0 ≤ at_ + p / 64 := by omega
  have HU : Hid (U64 (z (at_ + p / 64))) := hcz.2
  have HE : Hid _ := hE
  clear hE
  generalize ha : some (Addr.mk b off none) = a0 at *
  have HA : Hid (some (Addr.mk b off none) = a0) := ha
  have HZ : Hid (w.cell? ⟨b, off + (at_ + p / 64).toNat, none⟩ = some (.int .u64 (z (at_ + p / 64)))) := hcz.1
  clear ha hz hcz
  have hb : RB < w.heap.size := World.block_lt_of_cell? w ⟨RB, 0, none⟩ hr
  have hI := fun w => inside_any a0 len cap kind at_ data ptrs code count k0 k1 t0 t1 d0 d1 p0 p1 c0 c1 n0 n1 w
  generalize hbi : wIn kind at_ data ptrs code count len = bI at *
  have HI : Hid _ := hI
  clear hI hbi
  subst hin
  go_enter Fahg.func41, Fahg.ntmps41
  go_wp2_with fail
  go_region_held3 (fun w' => w'.cell? ⟨w.heap.size, 0, none⟩ = some (.int .u8 kind) ∧ w'.cell? ⟨w.heap.size, 1, none⟩ = some (.int .u16 at_) ∧ w'.cell? ⟨w.heap.size, 2, none⟩ = some (.int .u8 data) ∧ w'.cell? ⟨w.heap.size, 3, none⟩ = some (.int .u8 ptrs) ∧ w'.cell? ⟨w.heap.size, 4, none⟩ = some (.int .u8 code) ∧ w'.cell? ⟨w.heap.size, 5, none⟩ = some (.int .u32 count) ∧ w'.cell? ⟨RB, 0, none⟩ = some (.slice a0 len cap) ∧ w.heap.size < w'.heap.size) ((repeat' apply And.intro) <;> first | assumption | (simp [go_sem, hr, hb]; done) | (simp; done) | (simp; omega) | ((rw [hbI.cell (by simp)]; first | assumption | (simp [go_sem]; done))) | ((rw [hbI.cell (by simp; omega)]; first | assumption | (simp [go_sem, hr, hb]; done))) | (have := hbI.size; simp at this; omega))
    (first | (go_at_call 39; refine (HI.out _).mono ?_; rintro e wI ⟨rfl, hbI⟩))
  rename_i hHeld
  obtain ⟨s0, s1, s2, s3, s4, s5, s6, s7⟩ := hHeld
  have hcz' : wI.cell? ⟨b, off + (at_ + p / 64).toNat, none⟩ = some (.int .u64 (z (at_ + p / 64))) := by
    rw [hbI.cell (p := ⟨b, off + (at_ + p / 64).toNat, none⟩) (by simp; omega)]; simp [go_sem, hbz, HZ.out]
  have HB : Hid (Below w.heap.size w wI) := (by refine Below.trans ?_ (hbI.mono (by simp)); repeat' (first | exact Below.refl _ _ | refine below_drewN' ?_ _ | refine Below.drew ?_ | refine below_alloc ?_ (Nat.le_refl _) _))
  clear hbI
  have ha := HA.out
  subst ha
  clear HA HZ
  go_wp2_with fail
  refine (HE.out _).mono ?_; rintro e w' ⟨rfl, rfl⟩
  go_wp2_with fail
  go_quiet ((go_at_call 99; exact Calls.quiet_of_same (take_bits _ _ _ HU.out (by omega) (by omega) (by omega) _)))
  go_wp2_with fail
  go_ret
  exact ⟨rfl, below_drewN' HB.out _⟩

end Go.Proofs.Ygcfah
