/- wmodel.state.visit. -/
import Derived.Test.YgcfahGather
import Derived.Test.YgcfahPf
import Derived.Deep.LoopGhost
namespace Go.Proofs.Ygcfah
open Go.RowKit
set_option linter.unusedVariables false
set_option linter.unusedSimpArgs false
theorem six0 (a b c d e f : Value) : #[a, b, c, d, e, f][0]? = some a := rfl
theorem six1 (a b c d e f : Value) : #[a, b, c, d, e, f][1]? = some b := rfl
theorem six2 (a b c d e f : Value) : #[a, b, c, d, e, f][2]? = some c := rfl
theorem six3 (a b c d e f : Value) : #[a, b, c, d, e, f][3]? = some d := rfl
theorem six4 (a b c d e f : Value) : #[a, b, c, d, e, f][4]? = some e := rfl
theorem six5 (a b c d e f : Value) : #[a, b, c, d, e, f][5]? = some f := rfl
theorem two1 (a b : Value) : #[a, b][1]? = some b := rfl
theorem Mst.paid {w : World} {B g : Nat} {S : Nat → Bool} {cost : Nat} (h : Mst w B g S cost) (K : Nat) : Mst (w.setCell ⟨g, 1, none⟩ (.int .u64 (((cost + K) % 18446744073709551616 : Nat) : Int))) B g S (cost + K) := by
  obtain ⟨s, cap, cur, seen, hg, h1, h2, h3⟩ := h.st
  have hne : s ≠ g := fun e => by rw [e, hg] at h2; injection h2 with h2; injection h2 with _ h2; exact absurd h2 (by decide)
  exact ⟨s, cap, cur, seen, (heap_set2 hg _).2, h1, (heap_set_other _ (by simpa using hne)).trans h2, h3⟩
theorem mv_cost {B g : Nat} (w : World) (v : Value) (n : Nat) : Mv B g w ((w.drewN n).setCell ⟨g, 1, none⟩ v) :=
  ⟨rfl, rfl, rfl, by simp, fun k _ hk _ => heap_set_other _ (by simpa using hk)⟩
theorem idx89_1 (w : World) : Sem.run Fahg.prog (Instr.index 89 (.agg #[.int .i64 0, .int .i64 1, .int .i64 8, .int .i64 16, .int .i64 32, .int .i64 64]) (.int .u8 1)) w = .ok (.int .i64 1) w := by kernel_rfl
theorem idx89_2 (w : World) : Sem.run Fahg.prog (Instr.index 89 (.agg #[.int .i64 0, .int .i64 1, .int .i64 8, .int .i64 16, .int .i64 32, .int .i64 64]) (.int .u8 2)) w = .ok (.int .i64 8) w := by kernel_rfl
theorem idx89_3 (w : World) : Sem.run Fahg.prog (Instr.index 89 (.agg #[.int .i64 0, .int .i64 1, .int .i64 8, .int .i64 16, .int .i64 32, .int .i64 64]) (.int .u8 3)) w = .ok (.int .i64 16) w := by kernel_rfl
theorem idx89_4 (w : World) : Sem.run Fahg.prog (Instr.index 89 (.agg #[.int .i64 0, .int .i64 1, .int .i64 8, .int .i64 16, .int .i64 32, .int .i64 64]) (.int .u8 4)) w = .ok (.int .i64 32) w := by kernel_rfl
theorem idx89_5 (w : World) : Sem.run Fahg.prog (Instr.index 89 (.agg #[.int .i64 0, .int .i64 1, .int .i64 8, .int .i64 16, .int .i64 32, .int .i64 64]) (.int .u8 5)) w = .ok (.int .i64 64) w := by kernel_rfl
theorem and_bit (x m : Nat) (hx : x < 18446744073709551616) : bits .and .u64 ((x : Int) / 2 ^ m) 1 = ((x / 2 ^ m % 2 : Nat) : Int) := by
  have e : ((x : Int) / 2 ^ m) = ((x / 2 ^ m : Nat) : Int) := by push_cast; rfl
  rw [e]
  have hy : x / 2 ^ m < 18446744073709551616 := Nat.lt_of_le_of_lt (Nat.div_le_self _ _) hx
  generalize x / 2 ^ m = y at *
  have := and_mask (y : Int) ⟨by omega, by omega⟩ 1 (by decide)
  simpa using this
theorem bit_zero (x m : Nat) (h : x / 2 ^ m % 2 = 0) : decide (x / 2 ^ m = 0) = decide (x / 2 ^ (m + 1) = 0) := by
  rw [Nat.pow_succ, ← Nat.div_div_eq_div_mul]
  generalize x / 2 ^ m = y at *
  exact decide_eq_decide.2 (by omega)
/-- What visit does. -/
def VisitOk (b off len cap : Nat) (z : Int → Int) (B g left : Nat) : Prop :=
  ∀ (a : Nat) (S : Nat → Bool) (cost : Nat) (w : World), a < len → Row w b off len z → B ≤ w.heap.size → Mst w B g S cost →
    Calls Fahg.prog 110 #[.pointer (some ⟨g, 0, none⟩), .slice (some ⟨b, off, none⟩) len cap, .int .i64 a, .int .i64 left] w fun e w' => e = .returned (.bool (vis (resOf z len) left (S, cost) a).isSome) ∧ Mv B g w w' ∧ ∀ s', vis (resOf z len) left (S, cost) a = some s' → Mst w' B g s'.1 s'.2
theorem visit_at {b off len cap : Nat} {z : Int → Int} {B g left : Nat} (h : VisitOk b off len cap z B g left) (a : Nat) (x : Int) (hx : x = a) (s : (Nat → Bool) × Nat) (w : World) (ha : a < len) (hr : Row w b off len z) (hB : B ≤ w.heap.size) (hm : Mst w B g s.1 s.2) :
    Calls Fahg.prog 110 #[.pointer (some ⟨g, 0, none⟩), .slice (some ⟨b, off, none⟩) len cap, .int .i64 x, .int .i64 left] w fun e w' => e = .returned (.bool (vis (resOf z len) left s a).isSome) ∧ Mv B g w w' ∧ ∀ s', vis (resOf z len) left s a = some s' → Mst w' B g s'.1 s'.2 := by
  subst hx; exact h a s.1 s.2 w ha hr hB hm
end Go.Proofs.Ygcfah
