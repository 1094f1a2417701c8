/- wide.Reader: ElemPtr. -/
import Derived.Test.YgcfahChild
namespace Go.Proofs.Ygcfah
open Go.RowKit
set_option linter.unusedVariables false
set_option linter.unusedSimpArgs false
attribute [local go_sem] setCell_drewN alloc_drewN

theorem wIn_tag {at_ data ptrs count size : Int} (d0 : 0 ≤ data) (p0 : 0 ≤ ptrs) (n0 : 0 ≤ count) (h : wIn 2 at_ data ptrs 7 count size = true) : size ≤ 256 ∧ data ≤ 8 ∧ ptrs ≤ 8 ∧ at_ + count * (data + ptrs) ≤ size ∧ 2 ≤ at_ := by
  obtain ⟨h1, _, h3, h4⟩ := wIn_kind h
  have e : wFirst 2 at_ 7 = at_ - 1 := by simp [wFirst]
  have m0 : 0 ≤ count * (data + ptrs) := Int.mul_nonneg n0 (by omega)
  rw [e] at h3 h4
  by_cases hs : data ≤ 8 ∧ ptrs ≤ 8
  · have : wWords 2 data ptrs 7 count = min (1 + count * (data + ptrs)) 257 := by simp [wWords, hs]
    omega
  · have : wWords 2 data ptrs 7 count = 257 := by simp [wWords, hs]
    omega
theorem wIn_ptrs {at_ data ptrs count size : Int} (n0 : 0 ≤ count) (h : wIn 2 at_ data ptrs 6 count size = true) : size ≤ 256 ∧ at_ + count ≤ size ∧ (count = 0 ∨ 1 ≤ at_) := by
  have := wIn_list (by decide) h
  simp only [elBits] at this
  simp at this
  omega

set_option maxHeartbeats 3200000 in
theorem eptr_no (RB : Nat) (a0 : Option Addr) (len cap : Nat) (kind at_ data ptrs code count : Int) (k0 : 0 ≤ kind) (k1 : kind ≤ 255) (t0 : 0 ≤ at_) (t1 : at_ ≤ 65535) (d0 : 0 ≤ data) (d1 : data ≤ 255) (p0 : 0 ≤ ptrs) (p1 : ptrs ≤ 255) (c0 : 0 ≤ code) (c1 : code ≤ 255) (n0 : 0 ≤ count) (n1 : count ≤ 4294967295) (j : Int) (j0 : 0 ≤ j) (j1 : j ≤ 4294967295) (w : World) (hr : w.cell? ⟨RB, 0, none⟩ = some (.slice a0 len cap))
    (hno : (kind != 2) = true ∨ ((kind != 2) = false ∧ count ≤ j) ∨ ((kind != 2) = false ∧ j < count ∧ wIn kind at_ data ptrs code count len = false) ∨
      ((kind != 2) = false ∧ j < count ∧ wIn kind at_ data ptrs code count len = true ∧ (code == 6) = false ∧ (code == 7) = false)) :
    Calls Fahg.prog 43 #[.pointer (some ⟨RB, 0, none⟩), .agg #[.int .u8 kind, .int .u16 at_, .int .u8 data, .int .u8 ptrs, .int .u8 code, .int .u32 count], .int .u32 j] w fun e w' => e = .returned (.tuple #[WP.nul.val, .bool false]) ∧ Below w.heap.size w w' := by
  have hb : RB < w.heap.size := World.block_lt_of_cell? w ⟨RB, 0, none⟩ hr
  have hI := fun w => inside_any a0 len cap kind at_ data ptrs code count k0 k1 t0 t1 d0 d1 p0 p1 c0 c1 n0 n1 w
  generalize hbi : wIn kind at_ data ptrs code count len = bI at *
  have HI : Hid _ := hI
  clear hI hbi
  rcases hno with g | ⟨g, h⟩ | ⟨g, h, hi⟩ | ⟨g, h, hi, g6, g7⟩
  · go_enter Fahg.func43, Fahg.ntmps43
    go_wp2_with fail
    go_quiet (fail)
    go_wp2_with fail
    refine bodyPost_ret (v := .tuple #[WP.nul.val, .bool false]) (by simp [results, Fahg.results43, go_sem, WP.nul, WP.val]) rfl ⟨rfl, ?_⟩
    repeat' (first | exact Below.refl _ _ | refine below_drewN' ?_ _ | refine Below.drew ?_ | refine below_alloc ?_ (Nat.le_refl _) _)
  · have hd : decide (count ≤ j) = true := by simpa using h
    go_enter Fahg.func43, Fahg.ntmps43
    go_wp2_with fail
    go_quiet (fail)
    go_wp2_with fail
    refine bodyPost_ret (v := .tuple #[WP.nul.val, .bool false]) (by simp [results, Fahg.results43, go_sem, WP.nul, WP.val]) rfl ⟨rfl, ?_⟩
    repeat' (first | exact Below.refl _ _ | refine below_drewN' ?_ _ | refine Below.drew ?_ | refine below_alloc ?_ (Nat.le_refl _) _)
  · have hd : decide (count ≤ j) = false := by simpa using h
    subst hi
    have hbS : ∀ o, RB < (w.alloc o).heap.size := fun o => hb1 w hb
    go_enter Fahg.func43, Fahg.ntmps43
    go_wp2_with fail
    go_region_held3 (fun w' => w'.cell? ⟨w.heap.size, 0, none⟩ = some (.int .u8 kind) ∧ w'.cell? ⟨w.heap.size, 1, none⟩ = some (.int .u16 at_) ∧ w'.cell? ⟨w.heap.size, 2, none⟩ = some (.int .u8 data) ∧ w'.cell? ⟨w.heap.size, 3, none⟩ = some (.int .u8 ptrs) ∧ w'.cell? ⟨w.heap.size, 4, none⟩ = some (.int .u8 code) ∧ w'.cell? ⟨w.heap.size, 5, none⟩ = some (.int .u32 count) ∧ w'.cell? ⟨RB, 0, none⟩ = some (.slice a0 len cap) ∧ w.heap.size + 1 < w'.heap.size) ((repeat' apply And.intro) <;> first | assumption | exact (hbI.cell (by simp; omega)).trans ((cell_two_old w _ _ 78 78 _).trans (by simp)) | exact (hbI.cell (by simp; omega)).trans ((World.cell?_alloc_past _ _ _ (hbS _)).trans ((World.cell?_alloc_past _ _ _ hb).trans hr)) | (simp [go_sem, hr, hb]; done) | (simp; done) | (simp; omega) | ((rw [hbI.cell (by simp)]; first | assumption | (simp [go_sem]; done))) | ((rw [hbI.cell (by simp; omega)]; first | assumption | (simp [go_sem, hr, hb]; done))) | (have := hbI.size; simp at this; omega))
      (first | (go_at_call 39; refine (HI.out _).mono ?_; rintro e wI ⟨rfl, hbI⟩))
    rename_i hHeld
    obtain ⟨s0, s1, s2, s3, s4, s5, s6, s7⟩ := hHeld
    have q : ∀ o, wI.cell? ⟨w.heap.size + 1, o, none⟩ = _ := fun o => (hbI.cell (p := ⟨w.heap.size + 1, o, none⟩) (by simp)).trans (World.cell?_alloc_at _ _ _ _ (by simp))
    have f : ∀ o, wI.frozen? ⟨w.heap.size + 1, o, none⟩ = false := fun o => (hbI.frozen (p := ⟨w.heap.size + 1, o, none⟩) (by simp)).trans (by simp [go_sem])
    have HB : Hid (Below w.heap.size w wI) := (below_alloc (below_alloc (Below.refl _ _) (Nat.le_refl _) _) (Nat.le_refl _) _).drew.trans (hbI.mono (by simp; omega))
    clear hbI
    go_wp2_with fail
    refine bodyPost_ret (v := .tuple #[WP.nul.val, .bool false]) (by simp [results, Fahg.results43, go_sem, WP.nul, WP.val, q]) rfl ⟨rfl, ?_⟩
    exact below_set6 HB.out (by omega) _ _ _ _ _ _
  · have hd : decide (count ≤ j) = false := by simpa using h
    subst hi
    have hbS : ∀ o, RB < (w.alloc o).heap.size := fun o => hb1 w hb
    go_enter Fahg.func43, Fahg.ntmps43
    go_wp2_with fail
    go_region_held3 (fun w' => w'.cell? ⟨w.heap.size, 0, none⟩ = some (.int .u8 kind) ∧ w'.cell? ⟨w.heap.size, 1, none⟩ = some (.int .u16 at_) ∧ w'.cell? ⟨w.heap.size, 2, none⟩ = some (.int .u8 data) ∧ w'.cell? ⟨w.heap.size, 3, none⟩ = some (.int .u8 ptrs) ∧ w'.cell? ⟨w.heap.size, 4, none⟩ = some (.int .u8 code) ∧ w'.cell? ⟨w.heap.size, 5, none⟩ = some (.int .u32 count) ∧ w'.cell? ⟨RB, 0, none⟩ = some (.slice a0 len cap) ∧ w.heap.size + 1 < w'.heap.size) ((repeat' apply And.intro) <;> first | assumption | exact (hbI.cell (by simp; omega)).trans ((cell_two_old w _ _ 78 78 _).trans (by simp)) | exact (hbI.cell (by simp; omega)).trans ((World.cell?_alloc_past _ _ _ (hbS _)).trans ((World.cell?_alloc_past _ _ _ hb).trans hr)) | (simp [go_sem, hr, hb]; done) | (simp; done) | (simp; omega) | ((rw [hbI.cell (by simp)]; first | assumption | (simp [go_sem]; done))) | ((rw [hbI.cell (by simp; omega)]; first | assumption | (simp [go_sem, hr, hb]; done))) | (have := hbI.size; simp at this; omega))
      (first | (go_at_call 39; refine (HI.out _).mono ?_; rintro e wI ⟨rfl, hbI⟩))
    rename_i hHeld
    obtain ⟨s0, s1, s2, s3, s4, s5, s6, s7⟩ := hHeld
    have q : ∀ o, wI.cell? ⟨w.heap.size + 1, o, none⟩ = _ := fun o => (hbI.cell (p := ⟨w.heap.size + 1, o, none⟩) (by simp)).trans (World.cell?_alloc_at _ _ _ _ (by simp))
    have f : ∀ o, wI.frozen? ⟨w.heap.size + 1, o, none⟩ = false := fun o => (hbI.frozen (p := ⟨w.heap.size + 1, o, none⟩) (by simp)).trans (by simp [go_sem])
    have HB : Hid (Below w.heap.size w wI) := (below_alloc (below_alloc (Below.refl _ _) (Nat.le_refl _) _) (Nat.le_refl _) _).drew.trans (hbI.mono (by simp; omega))
    clear hbI
    go_wp2_with fail
    refine bodyPost_ret (v := .tuple #[WP.nul.val, .bool false]) (by simp [results, Fahg.results43, go_sem, WP.nul, WP.val, q]) rfl ⟨rfl, ?_⟩
    exact below_set6 HB.out (by omega) _ _ _ _ _ _

set_option maxHeartbeats 3200000 in
theorem eptr_struct (RB : Nat) (a0 : Option Addr) (len cap : Nat) (kind at_ data ptrs code count : Int) (k0 : 0 ≤ kind) (k1 : kind ≤ 255) (t0 : 0 ≤ at_) (t1 : at_ ≤ 65535) (d0 : 0 ≤ data) (d1 : data ≤ 255) (p0 : 0 ≤ ptrs) (p1 : ptrs ≤ 255) (c0 : 0 ≤ code) (c1 : code ≤ 255) (n0 : 0 ≤ count) (n1 : count ≤ 4294967295) (j : Int) (j0 : 0 ≤ j) (j1 : j ≤ 4294967295) (w : World) (hr : w.cell? ⟨RB, 0, none⟩ = some (.slice a0 len cap))
    (g : (kind != 2) = false) (h : j < count) (hi : wIn kind at_ data ptrs code count len = true) (g7 : (code == 7) = true) :
    Calls Fahg.prog 43 #[.pointer (some ⟨RB, 0, none⟩), .agg #[.int .u8 kind, .int .u16 at_, .int .u8 data, .int .u8 ptrs, .int .u8 code, .int .u32 count], .int .u32 j] w fun e w' => e = .returned (.tuple #[WP.val ⟨1, at_ + j * (data + ptrs), data, ptrs, 0, 0⟩, .bool true]) ∧ Below w.heap.size w w' := by
  have hx : 0 ≤ j * (data + ptrs) ∧ at_ + j * (data + ptrs) ≤ 256 ∧ data ≤ 8 ∧ ptrs ≤ 8 := by
    have g' : kind = 2 := by simpa using g
    have g7' : code = 7 := by simpa using g7
    subst g' g7'
    have := wIn_tag d0 p0 n0 hi
    have m0 : 0 ≤ j * (data + ptrs) := Int.mul_nonneg j0 (by omega)
    have m1 : j * (data + ptrs) ≤ count * (data + ptrs) := Int.mul_le_mul_of_nonneg_right (by omega) (by omega)
    omega
  obtain ⟨hx0, hx1, hx2, hx3⟩ := hx
  have g6 : (code == 6) = false := by simp at g7 ⊢; omega
  have hd : decide (count ≤ j) = false := by simpa using h
  have hb : RB < w.heap.size := World.block_lt_of_cell? w ⟨RB, 0, none⟩ hr
  have hI := fun w => inside_any a0 len cap kind at_ data ptrs code count k0 k1 t0 t1 d0 d1 p0 p1 c0 c1 n0 n1 w
  generalize hbi : wIn kind at_ data ptrs code count len = bI at *
  have HI : Hid _ := hI
  clear hI hbi
  subst hi
  have hbS : ∀ o, RB < (w.alloc o).heap.size := fun o => hb1 w hb
  go_enter Fahg.func43, Fahg.ntmps43
  go_wp2_with fail
  go_region_held3 (fun w' => w'.cell? ⟨w.heap.size, 0, none⟩ = some (.int .u8 kind) ∧ w'.cell? ⟨w.heap.size, 1, none⟩ = some (.int .u16 at_) ∧ w'.cell? ⟨w.heap.size, 2, none⟩ = some (.int .u8 data) ∧ w'.cell? ⟨w.heap.size, 3, none⟩ = some (.int .u8 ptrs) ∧ w'.cell? ⟨w.heap.size, 4, none⟩ = some (.int .u8 code) ∧ w'.cell? ⟨w.heap.size, 5, none⟩ = some (.int .u32 count) ∧ w'.cell? ⟨RB, 0, none⟩ = some (.slice a0 len cap) ∧ w.heap.size + 1 < w'.heap.size) ((repeat' apply And.intro) <;> first | assumption | exact (hbI.cell (by simp; omega)).trans ((cell_two_old w _ _ 78 78 _).trans (by simp)) | exact (hbI.cell (by simp; omega)).trans ((World.cell?_alloc_past _ _ _ (hbS _)).trans ((World.cell?_alloc_past _ _ _ hb).trans hr)) | (simp [go_sem, hr, hb]; done) | (simp; done) | (simp; omega) | ((rw [hbI.cell (by simp)]; first | assumption | (simp [go_sem]; done))) | ((rw [hbI.cell (by simp; omega)]; first | assumption | (simp [go_sem, hr, hb]; done))) | (have := hbI.size; simp at this; omega))
    (first | (go_at_call 39; refine (HI.out _).mono ?_; rintro e wI ⟨rfl, hbI⟩))
  rename_i hHeld
  obtain ⟨s0, s1, s2, s3, s4, s5, s6, s7⟩ := hHeld
  have q : ∀ o, wI.cell? ⟨w.heap.size + 1, o, none⟩ = _ := fun o => (hbI.cell (p := ⟨w.heap.size + 1, o, none⟩) (by simp)).trans (World.cell?_alloc_at _ _ _ _ (by simp))
  have f : ∀ o, wI.frozen? ⟨w.heap.size + 1, o, none⟩ = false := fun o => (hbI.frozen (p := ⟨w.heap.size + 1, o, none⟩) (by simp)).trans (by simp [go_sem])
  have HB : Hid (Below w.heap.size w wI) := (below_alloc (below_alloc (Below.refl _ _) (Nat.le_refl _) _) (Nat.le_refl _) _).drew.trans (hbI.mono (by simp; omega))
  clear hbI
  go_wp2_with fail
  refine bodyPost_ret (v := .tuple #[WP.val ⟨1, at_ + j * (data + ptrs), data, ptrs, 0, 0⟩, .bool true]) (by simp [results, Fahg.results43, go_sem, WP.nul, WP.val, q]) rfl ⟨rfl, ?_⟩
  exact below_set6 HB.out (by omega) _ _ _ _ _ _

set_option maxHeartbeats 3200000 in
theorem eptr_ptr (RB b off : Nat) (len cap : Nat) (kind at_ data ptrs code count : Int) (k0 : 0 ≤ kind) (k1 : kind ≤ 255) (t0 : 0 ≤ at_) (t1 : at_ ≤ 65535) (d0 : 0 ≤ data) (d1 : data ≤ 255) (p0 : 0 ≤ ptrs) (p1 : ptrs ≤ 255) (c0 : 0 ≤ code) (c1 : code ≤ 255) (n0 : 0 ≤ count) (n1 : count ≤ 4294967295) (j L : Int) (j0 : 0 ≤ j) (j1 : j ≤ 4294967295) (z : Int → Int) (w : World) (hR : IsRdr w RB (.slice (some ⟨b, off, none⟩) len cap) L) (hL : 1073742081 ≤ L) (hL2 : L ≤ 4294967295) (hz : Row w b off len z)
    (g : (kind != 2) = false) (h : j < count) (hi : wIn kind at_ data ptrs code count len = true) (g6 : (code == 6) = true) :
    Calls Fahg.prog 43 #[.pointer (some ⟨RB, 0, none⟩), .agg #[.int .u8 kind, .int .u16 at_, .int .u8 data, .int .u8 ptrs, .int .u8 code, .int .u32 count], .int .u32 j] w (RdrPost w RB (.slice (some ⟨b, off, none⟩) len cap) L (rsv z len (at_ + j))) := by
  have hx : len ≤ 256 ∧ at_ + j < len := by
    have g' : kind = 2 := by simpa using g
    have g6' : code = 6 := by simpa using g6
    subst g' g6'
    have := wIn_ptrs n0 hi
    omega
  obtain ⟨hl, hx⟩ := hx
  have hd : decide (count ≤ j) = false := by simpa using h
  have hxi : 0 ≤ at_ + j := by omega
  have hbz : b < w.heap.size := World.block_lt_of_cell? w _ (hz (at_ + j) hxi hx).1
  have hr := hR.a
  have hF : ∀ w1, Below w.heap.size w w1 → Calls Fahg.prog 104 #[.pointer (some ⟨RB, 0, none⟩), .int .u16 (at_ + j)] w1 (RdrPost w1 RB (.slice (some ⟨b, off, none⟩) len cap) L (rsv z len (at_ + j))) :=
    fun w1 hb => follow_any RB b off len cap L (at_ + j) z w1 (hR.below hb) hL hL2 (hz.below hb hbz) hxi hx hl
  have HF : Hid _ := hF
  generalize ha : some (Addr.mk b off none) = a0 at *
  generalize hrr : rsv z len (at_ + j) = rr at *
  obtain ⟨⟨r1, r2, r3, r4, r5, r6⟩, rb⟩ := rr
  clear ha hz hF hR hrr
  have hb : RB < w.heap.size := World.block_lt_of_cell? w ⟨RB, 0, none⟩ hr
  have hI := fun w => inside_any a0 len cap kind at_ data ptrs code count k0 k1 t0 t1 d0 d1 p0 p1 c0 c1 n0 n1 w
  generalize hbi : wIn kind at_ data ptrs code count len = bI at *
  have HI : Hid _ := hI
  clear hI hbi
  subst hi
  have hbS : ∀ o, RB < (w.alloc o).heap.size := fun o => hb1 w hb
  go_enter Fahg.func43, Fahg.ntmps43
  go_wp2_with fail
  go_region_held3 (fun w' => w'.cell? ⟨w.heap.size, 0, none⟩ = some (.int .u8 kind) ∧ w'.cell? ⟨w.heap.size, 1, none⟩ = some (.int .u16 at_) ∧ w'.cell? ⟨w.heap.size, 2, none⟩ = some (.int .u8 data) ∧ w'.cell? ⟨w.heap.size, 3, none⟩ = some (.int .u8 ptrs) ∧ w'.cell? ⟨w.heap.size, 4, none⟩ = some (.int .u8 code) ∧ w'.cell? ⟨w.heap.size, 5, none⟩ = some (.int .u32 count) ∧ w'.cell? ⟨RB, 0, none⟩ = some (.slice a0 len cap) ∧ w.heap.size + 1 < w'.heap.size) ((repeat' apply And.intro) <;> first | assumption | exact (hbI.cell (by simp; omega)).trans ((cell_two_old w _ _ 78 78 _).trans (by simp)) | exact (hbI.cell (by simp; omega)).trans ((World.cell?_alloc_past _ _ _ (hbS _)).trans ((World.cell?_alloc_past _ _ _ hb).trans hr)) | (simp [go_sem, hr, hb]; done) | (simp; done) | (simp; omega) | ((rw [hbI.cell (by simp)]; first | assumption | (simp [go_sem]; done))) | ((rw [hbI.cell (by simp; omega)]; first | assumption | (simp [go_sem, hr, hb]; done))) | (have := hbI.size; simp at this; omega))
    (first | (go_at_call 39; refine (HI.out _).mono ?_; rintro e wI ⟨rfl, hbI⟩))
  rename_i hHeld
  obtain ⟨s0, s1, s2, s3, s4, s5, s6, s7⟩ := hHeld
  have q : ∀ o, wI.cell? ⟨w.heap.size + 1, o, none⟩ = _ := fun o => (hbI.cell (p := ⟨w.heap.size + 1, o, none⟩) (by simp)).trans (World.cell?_alloc_at _ _ _ _ (by simp))
  have f : ∀ o, wI.frozen? ⟨w.heap.size + 1, o, none⟩ = false := fun o => (hbI.frozen (p := ⟨w.heap.size + 1, o, none⟩) (by simp)).trans (by simp [go_sem])
  have HB : Hid (Below w.heap.size w wI) := (below_alloc (below_alloc (Below.refl _ _) (Nat.le_refl _) _) (Nat.le_refl _) _).drew.trans (hbI.mono (by simp; omega))
  clear hbI
  have hn1 : ¬ RB = w.heap.size + 1 := by omega
  go_wp2_with fail
  refine (HF.out _ HB.out).mono ?_
  rintro e w2 ⟨rfl, ho, L2, hi2, hl1, hl2⟩
  have hsz := ho.size
  have q2 : ∀ o, w2.cell? ⟨w.heap.size + 1, o, none⟩ = _ := fun o => (ho.cell (by omega) (by omega)).trans (q o)
  have f2 : ∀ o, w2.frozen? ⟨w.heap.size + 1, o, none⟩ = false := fun o => (ho.frozen (by omega) (by omega)).trans (f o)
  have HO : Hid (Off RB w w2) := (Off.of_below HB.out).trans ho
  have ia := hi2.a
  have il := hi2.l
  have if_ := hi2.f
  clear q f s0 s1 s2 s3 s4 s5 s6 ho hi2
  have hz2 : w.heap.size + 1 < w2.heap.size := by omega
  simp only [WP.val]
  go_wp2_with fail
  refine bodyPost_ret (v := .tuple #[WP.val ⟨r1, r2, r3, r4, r5, r6⟩, .bool rb]) (by simp [results, Fahg.results43, go_sem, WP.val, q2]) rfl ⟨rfl, ?_, L2, ?_, hl1, hl2⟩
  · exact off_set6 HO.out (by omega) _ _ _ _ _ _
  · have hn2 : ¬ w.heap.size + 1 = RB := by omega
    refine ⟨?_, ?_, ?_⟩ <;> simp [go_sem, hn1, hn2, ia, il, if_]
end Go.Proofs.Ygcfah
