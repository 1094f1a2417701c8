/- wide.walk.padded. -/
import Derived.Test.YgcfahPay
namespace Go.Proofs.Ygcfah
open Go.RowKit
set_option linter.unusedVariables false
set_option linter.unusedSimpArgs false

/-- The bits of the last word that the elements fill; 0 for all. -/
def padN (p5 p6 : Int) : Int := p6 % 64 * elBits p5 % 64

set_option maxRecDepth 100000 in
set_option maxHeartbeats 1000000 in
theorem padded_not (g : Nat) (p1 p2 p3 p4 p5 p6 : Int) (w : World) (h : (p1 == 2) = false ∨ 5 < p5) :
    Calls Fahg.prog 108 #[.pointer (some ⟨g, 0, none⟩), WP.val ⟨p1, p2, p3, p4, p5, p6⟩] w fun e w' => e = .returned (.bool true) ∧ Below w.heap.size w w' := by
  simp only [WP.val]
  by_cases k : (p1 == 2) = true
  · obtain rfl : p1 = 2 := by simpa using k
    have h5 : 5 < p5 := by simpa using h
    clear h k
    go_enter Fahg.func108, Fahg.ntmps108
    go_wp2_with fail
    go_ret
    exact ⟨rfl, below_alloc (Below.refl _ _) (Nat.le_refl _) _⟩
  · have k' : (p1 != 2) = true := by simpa using k
    clear k h
    go_enter Fahg.func108, Fahg.ntmps108
    go_wp2_with fail
    go_ret
    exact ⟨rfl, below_alloc (Below.refl _ _) (Nat.le_refl _) _⟩

theorem padN_form (p5 p6 : Int) (h0 : 0 ≤ p6) : p6 % 64 * elBits p5 % 4294967296 % 64 = padN p5 p6 := by
  have be := elBits_bd p5
  have e : 0 ≤ p6 % 64 * elBits p5 := Int.mul_nonneg (by omega) be.1
  have e2 : p6 % 64 * elBits p5 ≤ 64 * 64 := Int.mul_le_mul (by omega) be.2 be.1 (by omega)
  rw [Int.emod_eq_of_lt e (by omega)]
  rfl

set_option maxRecDepth 100000 in
set_option maxHeartbeats 1000000 in
theorem padded_zero (g : Nat) (p2 p3 p4 p5 p6 : Int) (hp : WP.ok ⟨2, p2, p3, p4, p5, p6⟩) (w : World) (h5 : p5 ≤ 5) (hz : padN p5 p6 = 0) :
    Calls Fahg.prog 108 #[.pointer (some ⟨g, 0, none⟩), WP.val ⟨2, p2, p3, p4, p5, p6⟩] w fun e w' => e = .returned (.bool true) ∧ Below w.heap.size w w' := by
  have be := elBits_bd p5
  have he := fun w => elbits8 p5 hp.c0 (by omega) w
  have q0 := hp.n0
  have q1 := hp.n1
  simp only at q0 q1
  have hz' := padN_form p5 p6 q0
  rw [hz] at hz'
  generalize elBits p5 = E at *
  have HE : Hid _ := he
  have h5' : ¬ 5 < p5 := by omega
  simp only [WP.val]
  clear hp he hz h5
  go_enter Fahg.func108, Fahg.ntmps108
  go_wp2_with fail
  go_quiet ((go_at_call 103; exact Calls.quiet_of_same (HE.out _)))
  go_wp2_with fail
  go_quiet (fail)
  go_wp2_with fail
  go_ret
  exact ⟨rfl, below_drewN' (below_drewN' (below_alloc (Below.refl _ _) (Nat.le_refl _) _) _) _⟩

set_option maxRecDepth 100000 in
set_option maxHeartbeats 1000000 in
theorem padded_some (g : Nat) (p2 p3 p4 p5 p6 : Int) (hp : WP.ok ⟨2, p2, p3, p4, p5, p6⟩) (w : World) (h5 : p5 ≤ 5) (hz : padN p5 p6 ≠ 0) (b off len cap : Nat) (hsl : w.cell? ⟨g, 0, none⟩ = some (.slice (some ⟨b, off, none⟩) len cap))
    (i : Nat) (hi : (i : Int) = p2 + wWords 2 p3 p4 p5 p6 - 1) (hi2 : i < len) (hl : len ≤ 256) (x : Nat) (hx : x < 18446744073709551616) (hc : w.cell? ⟨b, off + i, none⟩ = some (.int .u64 x)) :
    Calls Fahg.prog 108 #[.pointer (some ⟨g, 0, none⟩), WP.val ⟨2, p2, p3, p4, p5, p6⟩] w fun e w' => e = .returned (.bool (x / 2 ^ (padN p5 p6).toNat == 0)) ∧ Below w.heap.size w w' := by
  have hg : g < w.heap.size := World.block_lt_of_cell? w ⟨g, 0, none⟩ hsl
  have hb : b < w.heap.size := World.block_lt_of_cell? w ⟨b, off + i, none⟩ hc
  have hC := fun w => words_any 2 p2 p3 p4 p5 p6 hp.k0 hp.k1 hp.d0 hp.d1 hp.p0 hp.p1 hp.c0 hp.c1 hp.n0 hp.n1 w
  have bw := wWords_bd 2 p3 p4 p5 p6 hp.d0 hp.p0 hp.n0
  have be := elBits_bd p5
  have he := fun w => elbits8 p5 hp.c0 (by omega) w
  have q0 := hp.n0
  have q1 := hp.n1
  have a0 := hp.a0
  have a1 := hp.a1
  simp only at q0 q1 a0 a1
  have hz' := padN_form p5 p6 q0
  have hK : 0 < padN p5 p6 ∧ padN p5 p6 < 64 := by unfold padN at hz ⊢; omega
  generalize padN p5 p6 = K at *
  obtain ⟨K, rfl⟩ := Int.eq_ofNat_of_zero_le (show 0 ≤ K by omega)
  generalize elBits p5 = E at *
  generalize wWords 2 p3 p4 p5 p6 = W at *
  have hwi : IntKind.u16.wrap (IntKind.u16.wrap (p2 + W) - 1) = i := by rw [IntKind.wrap_u16, IntKind.wrap_u16]; omega
  have HE : Hid _ := he
  have HC : Hid _ := hC
  have HI : Hid _ := hi
  have h5' : ¬ 5 < p5 := by omega
  have hK0 : ((K : Int) == 0) = false := by simp; omega
  have hK1 : ¬ ((K : Int) = 0) := by omega
  have hK2 : 0 < K := by omega
  have hK3 : K < 64 := by omega
  simp only [WP.val]
  clear hp he hz h5 hC hi hK be bw a0 a1
  go_enter Fahg.func108, Fahg.ntmps108
  go_wp2_with fail
  go_quiet ((go_at_call 103; exact Calls.quiet_of_same (HE.out _)))
  go_wp2_with fail
  obtain ⟨w3, hw3⟩ : ∃ w3, w3 = ((w.alloc (Obj.cells #[Value.int IntKind.u8 2, Value.int IntKind.u16 p2, Value.int IntKind.u8 p3, Value.int IntKind.u8 p4, Value.int IntKind.u8 p5, Value.int IntKind.u32 p6] 78)).drewN nq) := ⟨_, rfl⟩
  rw [← hw3]
  have q : ∀ o, w3.cell? ⟨w.heap.size, o, none⟩ = #[Value.int IntKind.u8 2, Value.int IntKind.u16 p2, Value.int IntKind.u8 p3, Value.int IntKind.u8 p4, Value.int IntKind.u8 p5, Value.int IntKind.u32 p6][o]? := fun o => by rw [hw3]; exact World.cell?_alloc_at _ _ _ _ rfl
  have r1 := q 0
  have r2 := q 1
  have r3 := q 2
  have r4 := q 3
  have r5 := q 4
  have r6 := q 5
  simp only [show ∀ a b c d e f : Value, #[a, b, c, d, e, f][0]? = some a from fun _ _ _ _ _ _ => rfl, show ∀ a b c d e f : Value, #[a, b, c, d, e, f][1]? = some b from fun _ _ _ _ _ _ => rfl, show ∀ a b c d e f : Value, #[a, b, c, d, e, f][2]? = some c from fun _ _ _ _ _ _ => rfl, show ∀ a b c d e f : Value, #[a, b, c, d, e, f][3]? = some d from fun _ _ _ _ _ _ => rfl, show ∀ a b c d e f : Value, #[a, b, c, d, e, f][4]? = some e from fun _ _ _ _ _ _ => rfl, show ∀ a b c d e f : Value, #[a, b, c, d, e, f][5]? = some f from fun _ _ _ _ _ _ => rfl] at r1 r2 r3 r4 r5 r6
  have HB : Hid (Below w.heap.size w w3) := by rw [hw3]; exact below_drewN' (below_alloc (Below.refl _ _) (Nat.le_refl _) _) _
  have r7 : w3.cell? ⟨g, 0, none⟩ = some (.slice (some ⟨b, off, none⟩) len cap) := (HB.out.cell (p := ⟨g, 0, none⟩) hg).trans hsl
  have r8 : w3.cell? ⟨b, off + i, none⟩ = some (.int .u64 x) := (HB.out.cell (p := ⟨b, off + i, none⟩) hb).trans hc
  have hz3 : w.heap.size < w3.heap.size := by rw [hw3]; simp
  have hg3 : g < w3.heap.size := by omega
  have hb3 : b < w3.heap.size := by omega
  clear hw3 q hsl hc
  go_region_held3 (fun w' => w'.cell? ⟨w.heap.size, 0, none⟩ = some (.int .u8 2) ∧ w'.cell? ⟨w.heap.size, 1, none⟩ = some (.int .u16 p2) ∧ w'.cell? ⟨w.heap.size, 2, none⟩ = some (.int .u8 p3) ∧ w'.cell? ⟨w.heap.size, 3, none⟩ = some (.int .u8 p4) ∧ w'.cell? ⟨w.heap.size, 4, none⟩ = some (.int .u8 p5) ∧ w'.cell? ⟨w.heap.size, 5, none⟩ = some (.int .u32 p6) ∧ w'.cell? ⟨g, 0, none⟩ = some (.slice (some ⟨b, off, none⟩) len cap) ∧ w'.cell? ⟨b, off + i, none⟩ = some (.int .u64 x)) ((repeat' apply And.intro) <;> first | assumption | (simp [go_sem, r1, r2, r3, r4, r5, r6, r7, r8, hz3, hg3, hb3]; done))
    (first | (go_at_call 36; refine (HC.out _).mono ?_; rintro e wI ⟨rfl, c, nq, rfl⟩))
  all_goals go_wp2_with fail
  all_goals go_ret
  all_goals refine ⟨ret_bool ?_, below_drewN' (below_alloc HB.out (Nat.le_refl _) _) _⟩
  all_goals have e : ((x : Int) / 2 ^ K) = ((x / 2 ^ K : Nat) : Int) := by push_cast; rfl
  all_goals rw [e, Int.toNat_natCast, Bool.eq_iff_iff, beq_iff_eq, beq_iff_eq]
  all_goals generalize x / 2 ^ K = y
  all_goals omega
end Go.Proofs.Ygcfah
