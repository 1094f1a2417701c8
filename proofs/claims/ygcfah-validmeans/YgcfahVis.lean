/- The recursive walk, in plain terms. -/
import Derived.Test.YgcfahWn
namespace Go.Proofs.Ygcfah
set_option linter.unusedVariables false

def visL (f : (Nat → Bool) × Nat → Nat → Option ((Nat → Bool) × Nat)) : (Nat → Bool) × Nat → List Nat → Option ((Nat → Bool) × Nat)
  | s, [] => some s
  | s, k :: ks => (f s k).bind fun s' => visL f s' ks
/-- The recursive walk: the words claimed and the cost behind it; none if it refuses. -/
def vis (res : Nat → Option (Option Node)) : Nat → (Nat → Bool) × Nat → Nat → Option ((Nat → Bool) × Nat)
  | 0, s, a => match res a with
    | some none => some s
    | _ => none
  | left + 1, s, a => match res a with
    | none => none
    | some none => some s
    | some (some nd) => if free s.1 nd.lo nd.n && nd.pad then visL (vis res left) (join s.1 nd.lo nd.n, s.2 + nd.cost) nd.kids else none
def joinL (S : Nat → Bool) : List Node → Nat → Bool
  | [] => S
  | nd :: L => joinL (join S nd.lo nd.n) L
theorem joinL_append (L M : List Node) : ∀ S, joinL S (L ++ M) = joinL (joinL S L) M := by
  induction L with
  | nil => intro S; rfl
  | cons a L ih => intro S; simp [joinL, ih]
theorem seqOk_append (L M : List Node) : ∀ S, seqOk S (L ++ M) = (seqOk S L && seqOk (joinL S L) M) := by
  induction L with
  | nil => intro S; simp [seqOk, joinL]
  | cons a L ih => intro S; simp [seqOk, joinL, ih, Bool.and_assoc]
/-- What the walk makes of a list of objects. -/
def take (s : (Nat → Bool) × Nat) (o : Option (List Node)) : Option ((Nat → Bool) × Nat) :=
  match o with
  | none => none
  | some L => if seqOk s.1 L then some (joinL s.1 L, s.2 + costs L) else none
theorem take_bind (s : (Nat → Bool) × Nat) (o p : Option (List Node)) : ((take s o).bind fun s' => take s' p) = take s (o.bind fun l => p.map (l ++ ·)) := by
  cases o with
  | none => rfl
  | some L =>
    cases p with
    | none => simp only [take, Option.bind_some, Option.map_none]; split <;> rfl
    | some M =>
      simp only [take, Option.bind_some, Option.map_some, seqOk_append, joinL_append, costs_append]
      cases h1 : seqOk s.1 L with
      | false => simp
      | true =>
        simp only [Bool.true_and, if_true, Option.bind_some]
        rw [Nat.add_assoc]
theorem visL_take (f : (Nat → Bool) × Nat → Nat → Option ((Nat → Bool) × Nat)) (c : Nat → Option (List Node)) (h : ∀ s a, f s a = take s (c a)) (ks : List Nat) : ∀ s, visL f s ks = take s (collectL c ks) := by
  induction ks with
  | nil => intro s; simp [visL, collectL, take, seqOk, joinL, costs]
  | cons k ks ih =>
    intro s
    rw [visL, collectL, h, ← take_bind]
    congr 1
    funext s'
    exact ih s'
theorem vis_take (res : Nat → Option (Option Node)) (left : Nat) : ∀ s a, vis res left s a = take s (collect res left a) := by
  induction left with
  | zero =>
    intro s a
    simp only [vis, collect]
    cases res a with
    | none => rfl
    | some o => cases o <;> simp [take, seqOk, joinL, costs]
  | succ left ih =>
    intro s a
    simp only [vis, collect]
    cases res a with
    | none => rfl
    | some o =>
      cases o with
      | none => simp [take, seqOk, joinL, costs]
      | some nd =>
        simp only []
        cases hp : nd.pad with
        | false => simp [take]
        | true =>
          rw [Bool.and_true, visL_take _ _ ih]
          cases hc : collectL (collect res left) nd.kids with
          | none => simp [take]
          | some L =>
            have e : seqOk s.1 (nd :: L) = (free s.1 nd.lo nd.n && seqOk (join s.1 nd.lo nd.n) L) := rfl
            simp only [take, if_true, Option.map_some, joinL, costs]
            by_cases hf : free s.1 nd.lo nd.n = true
            · by_cases hq : seqOk (join s.1 nd.lo nd.n) L = true
              · rw [if_pos hf, if_pos hq, if_pos (by rw [e, hf, hq]; rfl), Nat.add_assoc]
              · rw [if_pos hf, if_neg hq, if_neg (by rw [e, hf, Bool.true_and]; exact hq)]
            · rw [if_neg hf, if_neg (by rw [e, Bool.eq_false_iff.2 hf, Bool.false_and]; decide)]

/-- A walk within bounds costs little. -/
def wordsL : List Node → Nat
  | [] => 0
  | nd :: L => nd.n + wordsL L
theorem wordsL_append (L M : List Node) : wordsL (L ++ M) = wordsL L + wordsL M := by
  induction L with
  | nil => simp [wordsL]
  | cons a L ih => simp [wordsL, ih]; omega
theorem wordsL_cnt (L : List Node) : ∀ S, seqOk S L = true → (∀ nd ∈ L, nd.n = 0 ∨ nd.lo + nd.n ≤ 256) → wordsL L + cnt (joinL S L) 256 = cnt S 256 := by
  induction L with
  | nil => intro S _ _; simp [wordsL, joinL]
  | cons a L ih =>
    intro S h hb
    rw [seqOk, Bool.and_eq_true] at h
    have := ih _ h.2 (fun nd hn => hb nd (List.mem_cons_of_mem _ hn))
    have k := cnt_join256 S a.lo a.n h.1 (hb a List.mem_cons_self)
    simp only [wordsL, joinL]
    omega
theorem cnt_le (S : Nat → Bool) (m : Nat) : cnt S m ≤ m := by
  induction m with
  | zero => simp [cnt]
  | succ m ih => rw [cnt]; split <;> omega
theorem collectL_len (c : Nat → Option (List Node)) (h : ∀ a L, c a = some L → L.length ≤ 1 + wordsL L) (ks : List Nat) : ∀ L, collectL c ks = some L → L.length ≤ ks.length + wordsL L := by
  induction ks with
  | nil => intro L hL; simp only [collectL, Option.some.injEq] at hL; subst hL; simp [wordsL]
  | cons k ks ih =>
    intro L hL
    simp only [collectL] at hL
    cases h1 : c k with
    | none => rw [h1] at hL; simp at hL
    | some l =>
      cases h2 : collectL c ks with
      | none => rw [h1, h2] at hL; simp at hL
      | some m =>
        rw [h1, h2] at hL
        simp only [Option.bind_some, Option.map_some, Option.some.injEq] at hL
        subst hL
        have := h k l h1
        have := ih m h2
        simp only [List.length_append, List.length_cons, wordsL_append]
        omega
theorem collect_len (res : Nat → Option (Option Node)) (hk : ∀ a nd, res a = some (some nd) → nd.kids.length ≤ nd.n) (left : Nat) : ∀ a L, collect res left a = some L → L.length ≤ 1 + wordsL L := by
  induction left with
  | zero =>
    intro a L h
    simp only [collect] at h
    split at h
    · simp only [Option.some.injEq] at h; subst h; simp
    · cases h
  | succ left ih =>
    intro a L h
    simp only [collect] at h
    cases hr : res a with
    | none => rw [hr] at h; cases h
    | some o =>
      cases o with
      | none => rw [hr] at h; simp only [Option.some.injEq] at h; subst h; simp
      | some nd =>
        rw [hr] at h
        simp only [] at h
        split at h
        · cases hc : collectL (collect res left) nd.kids with
          | none => rw [hc] at h; cases h
          | some m =>
            rw [hc] at h
            simp only [Option.map_some, Option.some.injEq] at h
            subst h
            have := collectL_len _ ih nd.kids m hc
            have := hk a nd hr
            simp only [List.length_cons, wordsL]
            omega
        · cases h
theorem collectL_all (P : Node → Prop) (c : Nat → Option (List Node)) (h : ∀ a L, c a = some L → ∀ nd ∈ L, P nd) (ks : List Nat) : ∀ L, collectL c ks = some L → ∀ nd ∈ L, P nd := by
  induction ks with
  | nil => intro L hL; simp only [collectL, Option.some.injEq] at hL; subst hL; simp
  | cons k ks ih =>
    intro L hL
    simp only [collectL] at hL
    cases h1 : c k with
    | none => rw [h1] at hL; simp at hL
    | some l =>
      cases h2 : collectL c ks with
      | none => rw [h1, h2] at hL; simp at hL
      | some m =>
        rw [h1, h2] at hL
        simp only [Option.bind_some, Option.map_some, Option.some.injEq] at hL
        subst hL
        intro nd hn
        rcases List.mem_append.1 hn with hn | hn
        · exact h k l h1 nd hn
        · exact ih m h2 nd hn
theorem collect_all (P : Node → Prop) (res : Nat → Option (Option Node)) (hk : ∀ a nd, res a = some (some nd) → P nd) (left : Nat) : ∀ a L, collect res left a = some L → ∀ nd ∈ L, P nd := by
  induction left with
  | zero =>
    intro a L h
    simp only [collect] at h
    split at h
    · simp only [Option.some.injEq] at h; subst h; simp
    · cases h
  | succ left ih =>
    intro a L h
    simp only [collect] at h
    cases hr : res a with
    | none => rw [hr] at h; cases h
    | some o =>
      cases o with
      | none => rw [hr] at h; simp only [Option.some.injEq] at h; subst h; simp
      | some nd =>
        rw [hr] at h
        simp only [] at h
        split at h
        · cases hc : collectL (collect res left) nd.kids with
          | none => rw [hc] at h; cases h
          | some m =>
            rw [hc] at h
            simp only [Option.map_some, Option.some.injEq] at h
            subst h
            intro x hx
            rcases List.mem_cons.1 hx with rfl | hx
            · exact hk a _ hr
            · exact collectL_all P _ ih nd.kids m hc x hx
        · cases h
theorem costs_le (L : List Node) (M : Nat) (h : ∀ nd ∈ L, nd.cost ≤ M) : costs L ≤ L.length * M := by
  induction L with
  | nil => simp [costs]
  | cons a L ih =>
    have := ih fun nd hn => h nd (List.mem_cons_of_mem _ hn)
    have := h a List.mem_cons_self
    simp only [costs, List.length_cons, Nat.add_mul]
    omega
end Go.Proofs.Ygcfah
