/- The stack as a list; the words not yet claimed. -/
import Derived.Test.YgcfahWm
import Derived.Test.YgcfahWfol
import Derived.Test.YgcfahPad
namespace Go.Proofs.Ygcfah
set_option linter.unusedVariables false

/-- The stack, the next word first. -/
def stkL (st : Nat → Nat × Nat) : Nat → List (Nat × Nat)
  | 0 => []
  | n + 1 => st n :: stkL st n
theorem stkL_congr {st st' : Nat → Nat × Nat} (n : Nat) (h : ∀ i, i < n → st' i = st i) : stkL st' n = stkL st n := by
  induction n with
  | zero => rfl
  | succ n ih => rw [stkL, stkL, h n (by omega), ih (fun i hi => h i (by omega))]
theorem stkL_pushF (st : Nat → Nat × Nat) (n0 : Nat) (f : Nat → Nat) (dep k : Nat) :
    stkL (pushF st n0 f dep k) (n0 + k) = (((List.range k).map f).map fun x => (x, dep)).reverse ++ stkL st n0 := by
  have gen : ∀ m, m ≤ k → stkL (pushF st n0 f dep k) (n0 + m) = (((List.range m).map f).map fun x => (x, dep)).reverse ++ stkL st n0 := by
    intro m
    induction m with
    | zero =>
      intro _
      simp only [List.range_zero, List.map_nil, List.reverse_nil, List.nil_append, Nat.add_zero]
      exact stkL_congr n0 fun i hi => by unfold pushF; rw [if_neg (by omega)]
    | succ m ih =>
      intro hm
      rw [← Nat.add_assoc, stkL, ih (by omega)]
      have e : pushF st n0 f dep k (n0 + m) = (f m, dep) := by
        unfold pushF; rw [if_pos (by omega)]; congr 2; omega
      rw [e, List.range_succ, List.map_append, List.map_append, List.reverse_append]
      rfl
  exact gen k (Nat.le_refl _)

def cnt (S : Nat → Bool) : Nat → Nat
  | 0 => 0
  | m + 1 => cnt S m + if S m then 0 else 1
theorem cnt_join (S : Nat → Bool) (a n : Nat) (h : free S a n = true) : ∀ m, cnt (join S a n) m + (min m (a + n) - min m a) = cnt S m := by
  rw [free_iff] at h
  intro m
  induction m with
  | zero => simp [cnt]
  | succ m ih =>
    rw [cnt, cnt, ← ih]
    by_cases k : a ≤ m ∧ m < a + n
    · have : S m = false := h m k.1 k.2
      have e : join S a n m = true := by simp [join]; right; exact k
      rw [this, e]
      simp; omega
    · have e : join S a n m = S m := by
        simp only [join]
        have : (decide (a ≤ m) && decide (m < a + n)) = false := by simp; omega
        rw [this, Bool.or_false]
      rw [e]
      omega
theorem cnt_join256 (S : Nat → Bool) (a n : Nat) (h : free S a n = true) (hb : n = 0 ∨ a + n ≤ 256) : cnt (join S a n) 256 + n = cnt S 256 := by
  have := cnt_join S a n h 256
  omega

/-- The pointer words of an object. -/
def kidN (p : WP) : Nat := if p.kind = 1 then p.ptrs.toNat else if p.code = 6 then p.count.toNat else if p.code = 7 ∧ 0 < p.ptrs then p.count.toNat * p.ptrs.toNat else 0
def kidAt (p : WP) (k : Nat) : Nat :=
  if p.kind = 1 then p.at_.toNat + p.data.toNat + k
  else if p.code = 6 then p.at_.toNat + k
  else p.at_.toNat + k / p.ptrs.toNat * (p.data.toNat + p.ptrs.toNat) + p.data.toNat + k % p.ptrs.toNat
def padB (z : Int → Int) (p : WP) : Bool :=
  if p.kind = 2 ∧ p.code ≤ 5 ∧ padN p.code p.count ≠ 0 then (z (p.at_ + p.words - 1)).toNat / 2 ^ (padN p.code p.count).toNat == 0 else true
def nodeOf (z : Int → Int) (p : WP) : Node :=
  ⟨(if p.code = 7 then p.at_ - 1 else p.at_).toNat, p.words.toNat, (wCost p).toNat, padB z p, (List.range (kidN p)).map (kidAt p)⟩
def resOf (z : Int → Int) (size : Nat) (a : Nat) : Option (Option Node) :=
  if (rsv z size a).2 = false then none else if (rsv z size a).1.kind = 0 then some none else some (some (nodeOf z (rsv z size a).1))
end Go.Proofs.Ygcfah
