/- The stack machine's answer with the set that it ends with. -/
import Derived.Test.YgcfahVis
namespace Go.Proofs.Ygcfah
set_option linter.unusedVariables false

def cov (i : Nat) (nd : Node) : Bool := decide (nd.lo ≤ i) && decide (i < nd.lo + nd.n)
theorem joinL_any (L : List Node) : ∀ S i, joinL S L i = (S i || L.any (cov i)) := by
  induction L with
  | nil => intro S i; simp [joinL]
  | cons a L ih =>
    intro S i
    rw [joinL, ih, List.any_cons, ← Bool.or_assoc]
    rfl
theorem joinL_perm {L M : List Node} (h : L.Perm M) (S : Nat → Bool) : joinL S L = joinL S M := by
  funext i
  rw [joinL_any, joinL_any]
  congr 1
  rw [Bool.eq_iff_iff, List.any_eq_true, List.any_eq_true]
  simp only [h.mem_iff]
/-- The words claimed at the end; none if the walk refuses. -/
def ansF (res : Nat → Option (Option Node)) (S : Nat → Bool) (st : List (Nat × Nat)) : Option (Nat → Bool) :=
  match collectS res st with
  | none => none
  | some L => if seqOk S L then some (joinL S L) else none
theorem ansF_nil (res : Nat → Option (Option Node)) (S : Nat → Bool) : ansF res S [] = some S := by simp [ansF, collectS, seqOk, joinL]
theorem ansF_refused (res : Nat → Option (Option Node)) (S : Nat → Bool) (a d : Nat) (st : List (Nat × Nat)) (h : res a = none) : ansF res S ((a, d) :: st) = none := by
  simp [ansF, collectS, collect_refused res _ a h]
theorem ansF_null (res : Nat → Option (Option Node)) (S : Nat → Bool) (a d : Nat) (st : List (Nat × Nat)) (h : res a = some none) : ansF res S ((a, d) :: st) = ansF res S st := by
  simp only [ansF, collectS, collect_null res _ a h, Option.bind_some]
  cases collectS res st <;> rfl
theorem ansF_deep (res : Nat → Option (Option Node)) (S : Nat → Bool) (a d : Nat) (st : List (Nat × Nat)) (nd : Node) (h : res a = some (some nd)) (hd : 8 < d) : ansF res S ((a, d) :: st) = none := by
  have : collect res (9 - d) a = none := by rw [show 9 - d = 0 by omega]; simp [collect, h]
  simp [ansF, collectS, this]
theorem ansF_pad (res : Nat → Option (Option Node)) (S : Nat → Bool) (a d : Nat) (st : List (Nat × Nat)) (nd : Node) (h : res a = some (some nd)) (hp : nd.pad = false) : ansF res S ((a, d) :: st) = none := by
  have : collect res (9 - d) a = none := by cases 9 - d <;> simp [collect, h, hp]
  simp [ansF, collectS, this]
theorem ansF_step (res : Nat → Option (Option Node)) (S : Nat → Bool) (a d : Nat) (st : List (Nat × Nat)) (nd : Node) (h : res a = some (some nd)) (hd : d ≤ 8) (hp : nd.pad = true) :
    ansF res S ((a, d) :: st) = if free S nd.lo nd.n = true then ansF res (join S nd.lo nd.n) ((nd.kids.map fun k => (k, d + 1)).reverse ++ st) else none := by
  have hc : collect res (9 - d) a = (collectL (collect res (9 - (d + 1))) nd.kids).map (nd :: ·) := by
    rw [show 9 - d = (9 - (d + 1)) + 1 by omega]
    simp [collect, h, hp]
  have hk := collectS_rev res (d + 1) nd.kids
  unfold ansF
  rw [collectS_append, collectS, hc]
  cases h1 : collectL (collect res (9 - (d + 1))) nd.kids with
  | none =>
    rw [h1] at hk
    cases h2 : collectS res ((nd.kids.map fun k => (k, d + 1)).reverse) with
    | none => simp
    | some m => rw [h2] at hk; exact hk.elim
  | some L =>
    rw [h1] at hk
    cases h2 : collectS res ((nd.kids.map fun k => (k, d + 1)).reverse) with
    | none => rw [h2] at hk; exact hk.elim
    | some M =>
      rw [h2] at hk
      cases h3 : collectS res st with
      | none => simp
      | some R =>
        simp only [Option.map_some, Option.bind_some, List.cons_append]
        have e1 := seqOk_perm (hk.append_right R) (join S nd.lo nd.n)
        have e2 := joinL_perm (hk.append_right R) (join S nd.lo nd.n)
        have e3 : seqOk S (nd :: (L ++ R)) = (free S nd.lo nd.n && seqOk (join S nd.lo nd.n) (M ++ R)) := by rw [seqOk, e1]
        have e4 : joinL S (nd :: (L ++ R)) = joinL (join S nd.lo nd.n) (M ++ R) := by rw [joinL, e2]
        rw [e4]
        by_cases hf : free S nd.lo nd.n = true
        · rw [if_pos hf]
          by_cases hq : seqOk (join S nd.lo nd.n) (M ++ R) = true
          · rw [if_pos (by rw [e3, hf, hq]; rfl), if_pos hq]
          · rw [if_neg (by rw [e3, hf, Bool.true_and]; exact hq), if_neg hq]
        · rw [if_neg hf, if_neg (by rw [e3, Bool.eq_false_iff.2 hf, Bool.false_and]; decide)]
theorem ansF_no (res : Nat → Option (Option Node)) (S : Nat → Bool) (a d : Nat) (st : List (Nat × Nat)) (nd : Node) (h : res a = some (some nd)) (hd : d ≤ 8) (hn : (free S nd.lo nd.n && nd.pad) = false) : ansF res S ((a, d) :: st) = none := by
  cases hp : nd.pad with
  | false => exact ansF_pad res S a d st nd h hp
  | true =>
    rw [ansF_step res S a d st nd h hd hp]
    rw [hp, Bool.and_true] at hn
    rw [if_neg (by rw [hn]; decide)]
end Go.Proofs.Ygcfah
