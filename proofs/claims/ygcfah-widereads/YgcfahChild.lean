/- wide.Reader: Child. -/
import Derived.Test.YgcfahRsv
namespace Go.Proofs.Ygcfah
open Go.RowKit
set_option linter.unusedVariables false
set_option linter.unusedSimpArgs false
attribute [local go_sem] setCell_drewN alloc_drewN

theorem hb1 (w : World) {RB : Nat} (h : RB < w.heap.size) {o : Obj} : RB < (w.alloc o).heap.size := by simp; omega

/-- What a Reader's function leaves: an answer, the Reader with at least what one object costs less, all else as it was. -/
def RdrPost (w : World) (RB : Nat) (sl : Value) (L : Int) (r : WP × Bool) (e : Ending) (w' : World) : Prop :=
  e = .returned (.tuple #[r.1.val, .bool r.2]) ∧ Off RB w w' ∧ ∃ L', IsRdr w' RB sl L' ∧ L - 1073742081 ≤ L' ∧ L' ≤ L

theorem follow_any (RB b off len cap : Nat) (L at_ : Int) (z : Int → Int) (w : World) (hr : IsRdr w RB (.slice (some ⟨b, off, none⟩) len cap) L) (hL : 1073742081 ≤ L) (hL2 : L ≤ 4294967295) (hz : Row w b off len z)
    (h0 : 0 ≤ at_) (h1 : at_ < len) (hl : len ≤ 256) :
    Calls Fahg.prog 104 #[.pointer (some ⟨RB, 0, none⟩), .int .u16 at_] w (RdrPost w RB (.slice (some ⟨b, off, none⟩) len cap) L (rsv z len at_)) := by
  have hok := rsv_ok z len at_ h0 h1 (by omega) (fun i a c => (hz i a c).2)
  have hbz : b < w.heap.size := World.block_lt_of_cell? w _ (hz at_ h0 h1).1
  have hR : ∀ w1, Below w.heap.size w w1 → _ := fun w1 hb => resolve_in b off len cap at_ z h0 h1 hl w1 (hz.below hb hbz)
  generalize hr' : rsv z len at_ = r at *
  obtain ⟨⟨p1, p2, p3, p4, p5, p6⟩, ok⟩ := r
  cases ok with
  | false =>
    have e := hok.no rfl
    simp only at e
    rw [e] at hR ⊢
    refine (follow_no RB (.slice (some ⟨b, off, none⟩) len cap) _ len cap L at_ w hr hR).mono ?_
    rintro e w' ⟨rfl, hb⟩
    exact ⟨rfl, Off.of_below hb, L, hr.below hb, by omega, by omega⟩
  | true =>
    have bc := wCost_bd ⟨p1, p2, p3, p4, p5, p6⟩ hok.ok
    refine (follow_yes RB _ len cap L at_ w hr hL hL2 p1 p2 p3 p4 p5 p6 hok.ok hR).mono ?_
    rintro e w' ⟨rfl, ho, hi⟩
    exact ⟨rfl, ho, _, hi, by omega, by omega⟩

set_option maxHeartbeats 1600000 in
theorem child_no (RB : Nat) (a0 : Option Addr) (len cap : Nat) (kind at_ data ptrs code count : Int) (k0 : 0 ≤ kind) (k1 : kind ≤ 255) (t0 : 0 ≤ at_) (t1 : at_ ≤ 65535) (d0 : 0 ≤ data) (d1 : data ≤ 255) (p0 : 0 ≤ ptrs) (p1 : ptrs ≤ 255) (c0 : 0 ≤ code) (c1 : code ≤ 255) (n0 : 0 ≤ count) (n1 : count ≤ 4294967295) (i : Int) (i0 : 0 ≤ i) (i1 : i ≤ 255) (w : World) (hr : w.cell? ⟨RB, 0, none⟩ = some (.slice a0 len cap))
    (hno : (kind != 1) = true ∨ ((kind != 1) = false ∧ wIn kind at_ data ptrs code count len = false)) :
    Calls Fahg.prog 42 #[.pointer (some ⟨RB, 0, none⟩), .agg #[.int .u8 kind, .int .u16 at_, .int .u8 data, .int .u8 ptrs, .int .u8 code, .int .u32 count], .int .u8 i] w fun e w' => e = .returned (.tuple #[WP.nul.val, .bool false]) ∧ Below w.heap.size w w' := by
  have hb : RB < w.heap.size := World.block_lt_of_cell? w ⟨RB, 0, none⟩ hr
  have hI := fun w => inside_any a0 len cap kind at_ data ptrs code count k0 k1 t0 t1 d0 d1 p0 p1 c0 c1 n0 n1 w
  generalize hbi : wIn kind at_ data ptrs code count len = bI at *
  have HI : Hid _ := hI
  clear hI hbi
  rcases hno with g | ⟨g, hi⟩
  · go_enter Fahg.func42, Fahg.ntmps42
    go_wp2_with fail
    go_quiet (fail)
    go_wp2_with fail
    refine bodyPost_ret (v := .tuple #[WP.nul.val, .bool false]) (by simp [results, Fahg.results42, go_sem, WP.nul, WP.val]) rfl ⟨rfl, ?_⟩
    repeat' (first | exact Below.refl _ _ | refine below_drewN' ?_ _ | refine Below.drew ?_ | refine below_alloc ?_ (Nat.le_refl _) _)
  · subst hi
    have hbS : ∀ o, RB < (w.alloc o).heap.size := fun o => hb1 w hb
    go_enter Fahg.func42, Fahg.ntmps42
    go_wp2_with fail
    go_region_held3 (fun w' => w'.cell? ⟨w.heap.size, 0, none⟩ = some (.int .u8 kind) ∧ w'.cell? ⟨w.heap.size, 1, none⟩ = some (.int .u16 at_) ∧ w'.cell? ⟨w.heap.size, 2, none⟩ = some (.int .u8 data) ∧ w'.cell? ⟨w.heap.size, 3, none⟩ = some (.int .u8 ptrs) ∧ w'.cell? ⟨w.heap.size, 4, none⟩ = some (.int .u8 code) ∧ w'.cell? ⟨w.heap.size, 5, none⟩ = some (.int .u32 count) ∧ w'.cell? ⟨RB, 0, none⟩ = some (.slice a0 len cap) ∧ w.heap.size + 1 < w'.heap.size) ((repeat' apply And.intro) <;> first | assumption | exact (hbI.cell (by simp; omega)).trans ((cell_two_old w _ _ 78 78 _).trans (by simp)) | exact (hbI.cell (by simp; omega)).trans ((World.cell?_alloc_past _ _ _ (hbS _)).trans ((World.cell?_alloc_past _ _ _ hb).trans hr)) | (simp [go_sem, hr, hb]; done) | (simp; done) | (simp; omega) | ((rw [hbI.cell (by simp)]; first | assumption | (simp [go_sem]; done))) | ((rw [hbI.cell (by simp; omega)]; first | assumption | (simp [go_sem, hr, hb]; done))) | (have := hbI.size; simp at this; omega))
      (first | (go_at_call 39; refine (HI.out _).mono ?_; rintro e wI ⟨rfl, hbI⟩))
    rename_i hHeld
    obtain ⟨s0, s1, s2, s3, s4, s5, s6, s7⟩ := hHeld
    have q : ∀ o, wI.cell? ⟨w.heap.size + 1, o, none⟩ = _ := fun o => (hbI.cell (p := ⟨w.heap.size + 1, o, none⟩) (by simp)).trans (World.cell?_alloc_at _ _ _ _ (by simp))
    have f : ∀ o, wI.frozen? ⟨w.heap.size + 1, o, none⟩ = false := fun o => (hbI.frozen (p := ⟨w.heap.size + 1, o, none⟩) (by simp)).trans (by simp [go_sem])
    have HB : Hid (Below w.heap.size w wI) := (below_alloc (below_alloc (Below.refl _ _) (Nat.le_refl _) _) (Nat.le_refl _) _).drew.trans (hbI.mono (by simp; omega))
    clear hbI
    go_wp2_with fail
    refine bodyPost_ret (v := .tuple #[WP.nul.val, .bool false]) (by simp [results, Fahg.results42, go_sem, WP.nul, WP.val, q]) rfl ⟨rfl, ?_⟩
    exact below_set6 HB.out (by omega) _ _ _ _ _ _

set_option maxHeartbeats 1600000 in
theorem child_null (RB : Nat) (a0 : Option Addr) (len cap : Nat) (kind at_ data ptrs code count : Int) (k0 : 0 ≤ kind) (k1 : kind ≤ 255) (t0 : 0 ≤ at_) (t1 : at_ ≤ 65535) (d0 : 0 ≤ data) (d1 : data ≤ 255) (p0 : 0 ≤ ptrs) (p1 : ptrs ≤ 255) (c0 : 0 ≤ code) (c1 : code ≤ 255) (n0 : 0 ≤ count) (n1 : count ≤ 4294967295) (i : Int) (i0 : 0 ≤ i) (i1 : i ≤ 255) (w : World) (hr : w.cell? ⟨RB, 0, none⟩ = some (.slice a0 len cap))
    (g : (kind != 1) = false) (hi : wIn kind at_ data ptrs code count len = true) (hp : ptrs ≤ i) :
    Calls Fahg.prog 42 #[.pointer (some ⟨RB, 0, none⟩), .agg #[.int .u8 kind, .int .u16 at_, .int .u8 data, .int .u8 ptrs, .int .u8 code, .int .u32 count], .int .u8 i] w fun e w' => e = .returned (.tuple #[WP.nul.val, .bool true]) ∧ Below w.heap.size w w' := by
  have hb : RB < w.heap.size := World.block_lt_of_cell? w ⟨RB, 0, none⟩ hr
  have hI := fun w => inside_any a0 len cap kind at_ data ptrs code count k0 k1 t0 t1 d0 d1 p0 p1 c0 c1 n0 n1 w
  generalize hbi : wIn kind at_ data ptrs code count len = bI at *
  have HI : Hid _ := hI
  clear hI hbi
  subst hi
  have hbS : ∀ o, RB < (w.alloc o).heap.size := fun o => hb1 w hb
  go_enter Fahg.func42, Fahg.ntmps42
  go_wp2_with fail
  go_region_held3 (fun w' => w'.cell? ⟨w.heap.size, 0, none⟩ = some (.int .u8 kind) ∧ w'.cell? ⟨w.heap.size, 1, none⟩ = some (.int .u16 at_) ∧ w'.cell? ⟨w.heap.size, 2, none⟩ = some (.int .u8 data) ∧ w'.cell? ⟨w.heap.size, 3, none⟩ = some (.int .u8 ptrs) ∧ w'.cell? ⟨w.heap.size, 4, none⟩ = some (.int .u8 code) ∧ w'.cell? ⟨w.heap.size, 5, none⟩ = some (.int .u32 count) ∧ w'.cell? ⟨RB, 0, none⟩ = some (.slice a0 len cap) ∧ w.heap.size + 1 < w'.heap.size) ((repeat' apply And.intro) <;> first | assumption | exact (hbI.cell (by simp; omega)).trans ((cell_two_old w _ _ 78 78 _).trans (by simp)) | exact (hbI.cell (by simp; omega)).trans ((World.cell?_alloc_past _ _ _ (hbS _)).trans ((World.cell?_alloc_past _ _ _ hb).trans hr)) | (simp [go_sem, hr, hb]; done) | (simp; done) | (simp; omega) | ((rw [hbI.cell (by simp)]; first | assumption | (simp [go_sem]; done))) | ((rw [hbI.cell (by simp; omega)]; first | assumption | (simp [go_sem, hr, hb]; done))) | (have := hbI.size; simp at this; omega))
    (first | (go_at_call 39; refine (HI.out _).mono ?_; rintro e wI ⟨rfl, hbI⟩))
  rename_i hHeld
  obtain ⟨s0, s1, s2, s3, s4, s5, s6, s7⟩ := hHeld
  have q : ∀ o, wI.cell? ⟨w.heap.size + 1, o, none⟩ = _ := fun o => (hbI.cell (p := ⟨w.heap.size + 1, o, none⟩) (by simp)).trans (World.cell?_alloc_at _ _ _ _ (by simp))
  have f : ∀ o, wI.frozen? ⟨w.heap.size + 1, o, none⟩ = false := fun o => (hbI.frozen (p := ⟨w.heap.size + 1, o, none⟩) (by simp)).trans (by simp [go_sem])
  have HB : Hid (Below w.heap.size w wI) := (below_alloc (below_alloc (Below.refl _ _) (Nat.le_refl _) _) (Nat.le_refl _) _).drew.trans (hbI.mono (by simp; omega))
  clear hbI
  go_wp2_with fail
  refine bodyPost_ret (v := .tuple #[WP.nul.val, .bool true]) (by simp [results, Fahg.results42, go_sem, WP.nul, WP.val, q]) rfl ⟨rfl, ?_⟩
  exact below_set6 HB.out (by omega) _ _ _ _ _ _

set_option maxHeartbeats 3200000 in
theorem child_yes (RB b off : Nat) (len cap : Nat) (kind at_ data ptrs code count : Int) (k0 : 0 ≤ kind) (k1 : kind ≤ 255) (t0 : 0 ≤ at_) (t1 : at_ ≤ 65535) (d0 : 0 ≤ data) (d1 : data ≤ 255) (p0 : 0 ≤ ptrs) (p1 : ptrs ≤ 255) (c0 : 0 ≤ code) (c1 : code ≤ 255) (n0 : 0 ≤ count) (n1 : count ≤ 4294967295) (i L : Int) (i0 : 0 ≤ i) (i1 : i ≤ 255) (z : Int → Int) (w : World) (hR : IsRdr w RB (.slice (some ⟨b, off, none⟩) len cap) L) (hL : 1073742081 ≤ L) (hL2 : L ≤ 4294967295) (hz : Row w b off len z)
    (g : (kind != 1) = false) (hi : wIn kind at_ data ptrs code count len = true) (hp : i < ptrs) :
    Calls Fahg.prog 42 #[.pointer (some ⟨RB, 0, none⟩), .agg #[.int .u8 kind, .int .u16 at_, .int .u8 data, .int .u8 ptrs, .int .u8 code, .int .u32 count], .int .u8 i] w (RdrPost w RB (.slice (some ⟨b, off, none⟩) len cap) L (rsv z len (at_ + data + i))) := by
  have hx : len ≤ 256 ∧ at_ + data + i < len := by
    have g' : kind = 1 := by simpa using g
    subst g'; have := wIn_struct d0 p0 t0 hi; omega
  obtain ⟨hl, hx⟩ := hx
  have hxi : 0 ≤ at_ + data + i := by omega
  have hbz : b < w.heap.size := World.block_lt_of_cell? w _ (hz (at_ + data + i) hxi hx).1
  have hr := hR.a
  have hF : ∀ w1, Below w.heap.size w w1 → Calls Fahg.prog 104 #[.pointer (some ⟨RB, 0, none⟩), .int .u16 (at_ + data + i)] w1 (RdrPost w1 RB (.slice (some ⟨b, off, none⟩) len cap) L (rsv z len (at_ + data + i))) :=
    fun w1 hb => follow_any RB b off len cap L (at_ + data + i) z w1 (hR.below hb) hL hL2 (hz.below hb hbz) hxi hx hl
  have HF : Hid _ := hF
  generalize ha : some (Addr.mk b off none) = a0 at *
  generalize hrr : rsv z len (at_ + data + i) = rr at *
  obtain ⟨⟨r1, r2, r3, r4, r5, r6⟩, rb⟩ := rr
  clear ha hz hF hR hrr
  have hb : RB < w.heap.size := World.block_lt_of_cell? w ⟨RB, 0, none⟩ hr
  have hI := fun w => inside_any a0 len cap kind at_ data ptrs code count k0 k1 t0 t1 d0 d1 p0 p1 c0 c1 n0 n1 w
  generalize hbi : wIn kind at_ data ptrs code count len = bI at *
  have HI : Hid _ := hI
  clear hI hbi
  subst hi
  have hbS : ∀ o, RB < (w.alloc o).heap.size := fun o => hb1 w hb
  go_enter Fahg.func42, Fahg.ntmps42
  go_wp2_with fail
  go_region_held3 (fun w' => w'.cell? ⟨w.heap.size, 0, none⟩ = some (.int .u8 kind) ∧ w'.cell? ⟨w.heap.size, 1, none⟩ = some (.int .u16 at_) ∧ w'.cell? ⟨w.heap.size, 2, none⟩ = some (.int .u8 data) ∧ w'.cell? ⟨w.heap.size, 3, none⟩ = some (.int .u8 ptrs) ∧ w'.cell? ⟨w.heap.size, 4, none⟩ = some (.int .u8 code) ∧ w'.cell? ⟨w.heap.size, 5, none⟩ = some (.int .u32 count) ∧ w'.cell? ⟨RB, 0, none⟩ = some (.slice a0 len cap) ∧ w.heap.size + 1 < w'.heap.size) ((repeat' apply And.intro) <;> first | assumption | exact (hbI.cell (by simp; omega)).trans ((cell_two_old w _ _ 78 78 _).trans (by simp)) | exact (hbI.cell (by simp; omega)).trans ((World.cell?_alloc_past _ _ _ (hbS _)).trans ((World.cell?_alloc_past _ _ _ hb).trans hr)) | (simp [go_sem, hr, hb]; done) | (simp; done) | (simp; omega) | ((rw [hbI.cell (by simp)]; first | assumption | (simp [go_sem]; done))) | ((rw [hbI.cell (by simp; omega)]; first | assumption | (simp [go_sem, hr, hb]; done))) | (have := hbI.size; simp at this; omega))
    (first | (go_at_call 39; refine (HI.out _).mono ?_; rintro e wI ⟨rfl, hbI⟩))
  rename_i hHeld
  obtain ⟨s0, s1, s2, s3, s4, s5, s6, s7⟩ := hHeld
  have q : ∀ o, wI.cell? ⟨w.heap.size + 1, o, none⟩ = _ := fun o => (hbI.cell (p := ⟨w.heap.size + 1, o, none⟩) (by simp)).trans (World.cell?_alloc_at _ _ _ _ (by simp))
  have f : ∀ o, wI.frozen? ⟨w.heap.size + 1, o, none⟩ = false := fun o => (hbI.frozen (p := ⟨w.heap.size + 1, o, none⟩) (by simp)).trans (by simp [go_sem])
  have HB : Hid (Below w.heap.size w wI) := (below_alloc (below_alloc (Below.refl _ _) (Nat.le_refl _) _) (Nat.le_refl _) _).drew.trans (hbI.mono (by simp; omega))
  clear hbI
  have hn1 : ¬ RB = w.heap.size + 1 := by omega
  go_wp2_with fail
  refine (HF.out _ HB.out).mono ?_
  rintro e w2 ⟨rfl, ho, L2, hi2, hl1, hl2⟩
  have hsz := ho.size
  have q2 : ∀ o, w2.cell? ⟨w.heap.size + 1, o, none⟩ = _ := fun o => (ho.cell (by omega) (by omega)).trans (q o)
  have f2 : ∀ o, w2.frozen? ⟨w.heap.size + 1, o, none⟩ = false := fun o => (ho.frozen (by omega) (by omega)).trans (f o)
  have HO : Hid (Off RB w w2) := (Off.of_below HB.out).trans ho
  have ia := hi2.a
  have il := hi2.l
  have if_ := hi2.f
  clear q f s0 s1 s2 s3 s4 s5 s6 ho hi2
  have hz2 : w.heap.size + 1 < w2.heap.size := by omega
  simp only [WP.val]
  go_wp2_with fail
  refine bodyPost_ret (v := .tuple #[WP.val ⟨r1, r2, r3, r4, r5, r6⟩, .bool rb]) (by simp [results, Fahg.results42, go_sem, WP.val, q2]) rfl ⟨rfl, ?_, L2, ?_, hl1, hl2⟩
  · exact off_set6 HO.out (by omega) _ _ _ _ _ _
  · have hn2 : ¬ w.heap.size + 1 = RB := by omega
    refine ⟨?_, ?_, ?_⟩ <;> simp [go_sem, hn1, hn2, ia, il, if_]
end Go.Proofs.Ygcfah
