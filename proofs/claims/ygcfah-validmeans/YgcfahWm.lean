/- The plain law behind the two validators: a stack of words still to be followed, and the recursive walk. -/
import Derived.Test.YgcfahClaim
namespace Go.Proofs.Ygcfah
set_option linter.unusedVariables false

/-- An object: its words lo .. lo+n-1, its cost, whether its padding is zero, the pointer words in it. -/
structure Node where
  lo : Nat
  n : Nat
  cost : Nat
  pad : Bool
  kids : List Nat

def collectL (f : Nat → Option (List Node)) : List Nat → Option (List Node)
  | [] => some []
  | a :: rest => (f a).bind fun l => (collectL f rest).map (l ++ ·)
/-- What hangs at word 'at', to 'left' levels; none if something is refused. -/
def collect (res : Nat → Option (Option Node)) : Nat → Nat → Option (List Node)
  | 0, a => match res a with
    | some none => some []
    | _ => none
  | left + 1, a => match res a with
    | none => none
    | some none => some []
    | some (some nd) => if nd.pad then (collectL (collect res left) nd.kids).map (nd :: ·) else none
/-- The same for a stack of words, each with its depth: at depth d there are 9 - d levels. -/
def collectS (res : Nat → Option (Option Node)) : List (Nat × Nat) → Option (List Node)
  | [] => some []
  | s :: ss => (collect res (9 - s.2) s.1).bind fun l => (collectS res ss).map (l ++ ·)

def seqOk (S : Nat → Bool) : List Node → Bool
  | [] => true
  | nd :: L => free S nd.lo nd.n && seqOk (join S nd.lo nd.n) L
def costs : List Node → Nat
  | [] => 0
  | nd :: L => nd.cost + costs L
theorem costs_append (L M : List Node) : costs (L ++ M) = costs L + costs M := by
  induction L with
  | nil => simp [costs]
  | cons a L ih => simp [costs, ih]; omega
theorem costs_perm {L M : List Node} (h : L.Perm M) : costs L = costs M := by
  induction h with
  | nil => rfl
  | cons _ _ ih => simp [costs, ih]
  | swap => simp [costs]; omega
  | trans _ _ i1 i2 => exact i1.trans i2

def Apart (a b : Node) : Prop := ∀ i, ¬ ((a.lo ≤ i ∧ i < a.lo + a.n) ∧ (b.lo ≤ i ∧ i < b.lo + b.n))
theorem Apart.symm {a b : Node} (h : Apart a b) : Apart b a := fun i k => h i ⟨k.2, k.1⟩
theorem seqOk_iff (L : List Node) : ∀ S, seqOk S L = true ↔ (∀ nd ∈ L, free S nd.lo nd.n = true) ∧ L.Pairwise Apart := by
  induction L with
  | nil => intro S; simp [seqOk]
  | cons a L ih =>
    intro S
    rw [seqOk, Bool.and_eq_true, ih, List.pairwise_cons]
    constructor
    · rintro ⟨h1, h2, h3⟩
      refine ⟨fun nd hnd => ?_, fun b hb => ?_, h3⟩
      · rcases List.mem_cons.1 hnd with rfl | hm
        · exact h1
        · have := h2 nd hm
          rw [free_iff] at this ⊢
          intro i k1 k2
          have := this i k1 k2
          simp [join] at this
          exact this.1
      · intro i k
        have := h2 b hb
        rw [free_iff] at this
        have := this i k.2.1 k.2.2
        simp [join] at this
        have := this.2 k.1.1
        omega
    · rintro ⟨h1, h2, h3⟩
      refine ⟨h1 a (List.mem_cons_self), fun b hb => ?_, h3⟩
      have h4 := h1 b (List.mem_cons_of_mem _ hb)
      rw [free_iff] at h4 ⊢
      intro i k1 k2
      have h5 := h4 i k1 k2
      have h6 := h2 b hb i
      simp [join, h5]
      intro h7
      omega
theorem seqOk_perm {L M : List Node} (h : L.Perm M) (S : Nat → Bool) : seqOk S L = seqOk S M := by
  rw [Bool.eq_iff_iff, seqOk_iff, seqOk_iff, h.pairwise_iff Apart.symm]
  simp only [h.mem_iff]

/-- What the stack machine answers. -/
def ans (res : Nat → Option (Option Node)) (S : Nat → Bool) (left : Nat) (st : List (Nat × Nat)) : Bool :=
  match collectS res st with
  | none => false
  | some L => seqOk S L && decide (costs L ≤ left)

theorem ans_nil (res : Nat → Option (Option Node)) (S : Nat → Bool) (left : Nat) : ans res S left [] = true := by simp [ans, collectS, seqOk, costs]
theorem collect_refused (res : Nat → Option (Option Node)) (l a : Nat) (h : res a = none) : collect res l a = none := by cases l <;> simp [collect, h]
theorem collect_null (res : Nat → Option (Option Node)) (l a : Nat) (h : res a = some none) : collect res l a = some [] := by cases l <;> simp [collect, h]
theorem ans_refused (res : Nat → Option (Option Node)) (S : Nat → Bool) (left a d : Nat) (st : List (Nat × Nat)) (h : res a = none) : ans res S left ((a, d) :: st) = false := by
  simp [ans, collectS, collect_refused res _ a h]
theorem ans_null (res : Nat → Option (Option Node)) (S : Nat → Bool) (left a d : Nat) (st : List (Nat × Nat)) (h : res a = some none) : ans res S left ((a, d) :: st) = ans res S left st := by
  simp only [ans, collectS, collect_null res _ a h, Option.bind_some]
  cases collectS res st <;> rfl
theorem ans_deep (res : Nat → Option (Option Node)) (S : Nat → Bool) (left a d : Nat) (st : List (Nat × Nat)) (nd : Node) (h : res a = some (some nd)) (hd : 8 < d) : ans res S left ((a, d) :: st) = false := by
  have : collect res (9 - d) a = none := by rw [show 9 - d = 0 by omega]; simp [collect, h]
  simp [ans, collectS, this]
theorem ans_pad (res : Nat → Option (Option Node)) (S : Nat → Bool) (left a d : Nat) (st : List (Nat × Nat)) (nd : Node) (h : res a = some (some nd)) (hp : nd.pad = false) : ans res S left ((a, d) :: st) = false := by
  have : collect res (9 - d) a = none := by cases 9 - d <;> simp [collect, h, hp]
  simp [ans, collectS, this]

theorem collectS_append (res : Nat → Option (Option Node)) (s t : List (Nat × Nat)) : collectS res (s ++ t) = (collectS res s).bind fun l => (collectS res t).map (l ++ ·) := by
  induction s with
  | nil => simp [collectS]
  | cons x s ih =>
    rw [List.cons_append, collectS, ih, collectS]
    cases collect res (9 - x.2) x.1 with
    | none => rfl
    | some l => cases collectS res s with
      | none => rfl
      | some m => cases collectS res t <;> simp
/-- The kids in either order give the same, but for the order. -/
theorem collectS_rev (res : Nat → Option (Option Node)) (d : Nat) (ks : List Nat) :
    match collectL (collect res (9 - d)) ks, collectS res ((ks.map fun k => (k, d)).reverse) with
    | none, none => True
    | some L, some M => L.Perm M
    | _, _ => False := by
  induction ks with
  | nil => simp [collectL, collectS]
  | cons k ks ih =>
    rw [collectL, List.map_cons, List.reverse_cons, collectS_append]
    have e : collectS res [(k, d)] = collect res (9 - d) k := by
      simp only [collectS]
      cases collect res (9 - d) k <;> simp
    rw [e]
    cases h1 : collect res (9 - d) k with
    | none =>
      cases collectS res ((ks.map fun k => (k, d)).reverse) <;> simp
    | some l =>
      cases h2 : collectL (collect res (9 - d)) ks with
      | none =>
        rw [h2] at ih
        cases h3 : collectS res ((ks.map fun k => (k, d)).reverse) with
        | none => simp
        | some m => rw [h3] at ih; exact ih.elim
      | some L =>
        rw [h2] at ih
        cases h3 : collectS res ((ks.map fun k => (k, d)).reverse) with
        | none => rw [h3] at ih; exact ih.elim
        | some m =>
          rw [h3] at ih
          simp only [Option.bind_some, Option.map_some]
          exact (List.perm_append_comm).trans (ih.append_right l)

theorem ans_step (res : Nat → Option (Option Node)) (S : Nat → Bool) (left a d : Nat) (st : List (Nat × Nat)) (nd : Node) (h : res a = some (some nd)) (hd : d ≤ 8) (hp : nd.pad = true) :
    ans res S left ((a, d) :: st) = (decide (nd.cost ≤ left) && free S nd.lo nd.n && ans res (join S nd.lo nd.n) (left - nd.cost) ((nd.kids.map fun k => (k, d + 1)).reverse ++ st)) := by
  have hc : collect res (9 - d) a = (collectL (collect res (9 - (d + 1))) nd.kids).map (nd :: ·) := by
    rw [show 9 - d = (9 - (d + 1)) + 1 by omega]
    simp [collect, h, hp]
  have hk := collectS_rev res (d + 1) nd.kids
  unfold ans
  rw [collectS_append, collectS, hc]
  cases h1 : collectL (collect res (9 - (d + 1))) nd.kids with
  | none =>
    rw [h1] at hk
    cases h2 : collectS res ((nd.kids.map fun k => (k, d + 1)).reverse) with
    | none => simp
    | some m => rw [h2] at hk; exact hk.elim
  | some L =>
    rw [h1] at hk
    cases h2 : collectS res ((nd.kids.map fun k => (k, d + 1)).reverse) with
    | none => rw [h2] at hk; exact hk.elim
    | some M =>
      rw [h2] at hk
      cases h3 : collectS res st with
      | none => simp
      | some R =>
        simp only [Option.map_some, Option.bind_some, List.cons_append]
        have e1 := seqOk_perm (hk.append_right R) (join S nd.lo nd.n)
        have e2 := costs_perm (hk.append_right R)
        rw [seqOk, costs, e1, e2]
        rw [Bool.eq_iff_iff]
        simp only [Bool.and_eq_true, decide_eq_true_iff]
        constructor
        · rintro ⟨⟨k1, k2⟩, k3⟩; exact ⟨⟨by omega, k1⟩, k2, by omega⟩
        · rintro ⟨⟨k1, k2⟩, k3, k4⟩; exact ⟨⟨k2, k3⟩, by omega⟩
end Go.Proofs.Ygcfah
