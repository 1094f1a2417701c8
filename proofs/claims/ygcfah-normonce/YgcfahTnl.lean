/- From what tree.Norm does at each node to NormOf. -/
import Derived.Test.YgcfahTno
namespace Go.Proofs.Ygcfah
set_option linter.unusedVariables false
set_option linter.unusedSimpArgs false
def pad (c : Int) (z : Nat → Int) (n : Nat) : Nat → Int := fun k => if k < n then z k else c
theorem trimC_end (c : Int) (z : Nat → Int) (n k : Nat) (h : trimC c z n ≤ k) : pad c z n k = c := by
  induction n with
  | zero => simp [pad]
  | succ n ih =>
    rw [trimC] at h
    unfold pad at ih ⊢
    by_cases hz : z n = c
    · rw [if_pos hz] at h
      by_cases hk : k = n
      · subst hk; simp [hz]
      · have := ih h
        by_cases hkn : k < n
        · rw [if_pos hkn] at this; rw [if_pos (by omega)]; exact this
        · rw [if_neg (by omega)]
    · rw [if_neg hz] at h
      rw [if_neg (by omega)]
theorem trimC_last (c : Int) (z : Nat → Int) (n : Nat) : trimC c z n = 0 ∨ pad c z n (trimC c z n - 1) ≠ c := by
  induction n with
  | zero => left; rfl
  | succ n ih =>
    rw [trimC]
    by_cases hz : z n = c
    · rw [if_pos hz]
      rcases ih with h | h
      · exact .inl h
      · right
        unfold pad at h ⊢
        by_cases hk : trimC c z n - 1 < n
        · rw [if_pos hk] at h; rw [if_pos (by omega)]; exact h
        · rw [if_neg hk] at h; exact absurd rfl h
    · rw [if_neg hz]
      right
      unfold pad
      simp [hz]
theorem trim_iff {c : Int} {z1 z2 : Nat → Int} {n1 n2 : Nat} (h : ∀ k, pad c z1 n1 k = c ↔ pad c z2 n2 k = c) : trimC c z1 n1 = trimC c z2 n2 := by
  have a1 := trimC_last c z1 n1
  have a2 := trimC_last c z2 n2
  rcases Nat.lt_trichotomy (trimC c z1 n1) (trimC c z2 n2) with hl | he | hg
  · exfalso
    rcases a2 with a2 | a2
    · omega
    · exact a2 ((h _).1 (trimC_end c z1 n1 _ (by omega)))
  · exact he
  · exfalso
    rcases a1 with a1 | a1
    · omega
    · exact a1 ((h _).2 (trimC_end c z2 n2 _ (by omega)))
theorem trim_szw {z1 z2 : Nat → Int} {n1 n2 : Nat} (h : ∀ k, szw z1 n1 k = szw z2 n2 k) : trimC 0 z1 n1 = trimC 0 z2 n2 := by
  apply trim_iff
  intro k
  have := h k
  unfold szw at this
  unfold pad
  rw [this]
theorem trim_gt {c : Int} {z : Nat → Int} {n j : Nat} (hj : j < n) (hz : z j ≠ c) : j < trimC c z n := by
  rcases Nat.lt_or_ge j (trimC c z n) with h | h
  · exact h
  · have := trimC_end c z n j h
    unfold pad at this
    rw [if_pos hj] at this
    exact absurd this hz
/-- What is known of node c of the Norm once it has been made. -/
structure PN (n : Nat) (nd : Nat → NodeC) (m : Nat) (nu : Nat → NodeC) (src sD sP : Nat → Nat) (el : Nat → Bool) (c : Nat) : Prop where
  lt : src c < n
  kind : (nu c).kind = (nd (src c)).kind
  code : (nu c).code = (nd (src c)).code
  data : ∀ k, szw (nd (src c)).dz (nd (src c)).dL k = szw (nu c).dz (nu c).dL k
  list : (nd (src c)).kind = 2 → (nd (src c)).dL = (nu c).dL ∧ (nd (src c)).kL = (nu c).kL
  strc : (nd (src c)).kind = 1 → (nu c).dL = sD c ∧ (nu c).kL = sP c
  sec : (nd (src c)).kind = 1 → (el c = false → sD c = trimC 0 (nd (src c)).dz (nd (src c)).dL ∧ sP c = trimC (-1) (nd (src c)).kz (nd (src c)).kL) ∧ sD c ≤ 8 ∧ trimC (-1) (nd (src c)).kz (nd (src c)).kL ≤ sP c ∧ sP c ≤ 8
  kid : ∀ j, j < (nu c).kL → j < (nd (src c)).kL → (nd (src c)).kz j ≠ -1 → ∃ c', (nu c).kz j = ((c' : Nat) : Int) ∧ c' < m ∧ src c' = ((nd (src c)).kz j).toNat ∧ el c' = inl (nd (src c)) ∧ (inl (nd (src c)) = true → sD c' = ev2 nd (src c) ∧ sP c' = evP nd (nd (src c)).kz (nd (src c)).kL)
  nokid : ∀ j, j < (nu c).kL → (j < (nd (src c)).kL → (nd (src c)).kz j = -1) → (nu c).kz j = -1
theorem PN.krow {n : Nat} {nd : Nat → NodeC} {m : Nat} {nu : Nat → NodeC} {src sD sP : Nat → Nat} {el : Nat → Bool} {c : Nat} (h : PN n nd m nu src sD sP el c) (hT : Tok n nd) : (nd (src c)).kind = 1 ∨ (nd (src c)).kind = 2 := by
  have := hT.shp _ h.lt
  unfold Shp at this
  omega
theorem PN.klt {n : Nat} {nd : Nat → NodeC} {m : Nat} {nu : Nat → NodeC} {src sD sP : Nat → Nat} {el : Nat → Bool} {c : Nat} (h : PN n nd m nu src sD sP el c) (hT : Tok n nd) {j : Nat} (hj : j < (nd (src c)).kL) (hk : (nd (src c)).kz j ≠ -1) : j < (nu c).kL := by
  rcases h.krow hT with h1 | h2
  · have h3 := (h.strc h1).2
    have h4 := (h.sec h1).2.2.1
    have h5 := trim_gt hj hk
    omega
  · have := (h.list h2).2
    omega
theorem PN.ktrim {n : Nat} {nd : Nat → NodeC} {m : Nat} {nu : Nat → NodeC} {src sD sP : Nat → Nat} {el : Nat → Bool} {c : Nat} (h : PN n nd m nu src sD sP el c) (hT : Tok n nd) : trimC (-1) (nu c).kz (nu c).kL = trimC (-1) (nd (src c)).kz (nd (src c)).kL := by
  apply trim_iff
  intro k
  unfold pad
  by_cases hx : k < (nd (src c)).kL
  · by_cases hz : (nd (src c)).kz k = -1
    · rw [if_pos hx, hz]
      by_cases hy : k < (nu c).kL
      · rw [if_pos hy, h.nokid k hy fun _ => hz]
      · rw [if_neg hy]
    · have hy := h.klt hT hx hz
      obtain ⟨c', h1, _⟩ := h.kid k hy hx hz
      rw [if_pos hx, if_pos hy, h1]
      constructor
      · intro h2; omega
      · intro h2; exact absurd h2 hz
  · rw [if_neg hx]
    by_cases hy : k < (nu c).kL
    · rw [if_pos hy, h.nokid k hy fun h2 => absurd h2 hx]
    · rw [if_neg hy]
theorem normOf_of {n : Nat} {nd : Nat → NodeC} {m : Nat} {nu : Nat → NodeC} {src sD sP : Nat → Nat} {el : Nat → Bool} (hT : Tok n nd) (h : ∀ c, c < m → PN n nd m nu src sD sP el c) : NormOf n nd m nu src el := by
  refine ⟨fun c hc => (h c hc).lt, fun c hc => (h c hc).kind, fun c hc => (h c hc).code, fun c hc => (h c hc).data, fun c hc => (h c hc).list, ?_, ?_, ?_, ?_, ?_, fun c hc => (h c hc).nokid⟩
  · intro c hc h1 he
    have hp := h c hc
    have hs := (hp.sec h1).1 he
    have hd := hp.strc h1
    refine ⟨?_, ?_⟩
    · rw [← trim_szw hp.data, hd.1, hs.1]
    · rw [hp.ktrim hT, hd.2, hs.2]
  · intro c hc hin
    have hp := h c hc
    have hin2 : inl (nd (src c)) = true := by unfold inl at hin ⊢; rw [hp.kind, hp.code] at hin; exact hin
    have hk27 : (nd (src c)).kind = 2 ∧ (nd (src c)).code = 7 := by unfold inl at hin2; simpa using hin2
    have hkl := (hp.list hk27.1).2
    have hel := hT.el hp.lt hk27.1 hk27.2
    have hkid : ∀ j, j < (nd (src c)).kL → ∃ c', (nu c).kz j = ((c' : Nat) : Int) ∧ c' < m ∧ src c' = ((nd (src c)).kz j).toNat ∧ sD c' = ev2 nd (src c) ∧ sP c' = evP nd (nd (src c)).kz (nd (src c)).kL ∧ (nd (src c')).kind = 1 := by
      intro j hj
      have h0 := hel j hj
      obtain ⟨c', h1, h2, h3, h4, h5⟩ := hp.kid j (by omega) hj (by omega)
      refine ⟨c', h1, h2, h3, (h5 hin2).1, (h5 hin2).2, ?_⟩
      have hs := hT.shp _ hp.lt
      unfold Shp at hs
      rw [h3]
      rcases hs with hs | ⟨_, _, _, hs | hs | hs⟩
      · omega
      · omega
      · omega
      · exact (hs.2.2 j hj).2
    have hevd : ∀ q, q ≤ (nd (src c)).kL → evD nu (nu c).kz q = evD nd (nd (src c)).kz q := by
      intro q
      induction q with
      | zero => intro _; rfl
      | succ q ih =>
        intro hq
        obtain ⟨c', h1, h2, h3, _⟩ := hkid q (by omega)
        rw [evD, evD, ih (by omega), h1, Int.toNat_natCast, ← h3, trim_szw (h c' h2).data]
    have hevp : ∀ q, q ≤ (nd (src c)).kL → evP nu (nu c).kz q = evP nd (nd (src c)).kz q := by
      intro q
      induction q with
      | zero => intro _; rfl
      | succ q ih =>
        intro hq
        obtain ⟨c', h1, h2, h3, _⟩ := hkid q (by omega)
        rw [evP, evP, ih (by omega), h1, Int.toNat_natCast, ← h3, (h c' h2).ktrim hT]
    have l1 := evD_le nd (nd (src c)).kz (nd (src c)).kL 8 fun j hj => (hel j hj).2.2.1
    have l2 := evP_le nd (nd (src c)).kz (nd (src c)).kL 8 fun j hj => (hel j hj).2.2.2
    have l3 : ev2 nd (src c) ≤ 8 := by unfold ev2; split <;> omega
    refine ⟨ev2 nd (src c), evP nd (nd (src c)).kz (nd (src c)).kL, l3, l2, ?_, ?_, ?_⟩
    · intro j hj
      obtain ⟨c', h1, h2, h3, h4, h5, h6⟩ := hkid j (by omega)
      have hs := (h c' h2).strc h6
      rw [h1, Int.toNat_natCast]
      exact ⟨by omega, by omega, by rw [hs.1, h4], by rw [hs.2, h5]⟩
    · rw [← hkl, hevd _ (Nat.le_refl _), hevp _ (Nat.le_refl _)]
      intro g1 g2 g3
      unfold ev2
      rw [if_pos ⟨g1, by omega⟩]
      exact ⟨rfl, g3⟩
    · rw [← hkl, hevd _ (Nat.le_refl _), hevp _ (Nat.le_refl _)]
      intro g1
      unfold ev2
      rw [if_neg (by omega)]
      exact ⟨rfl, rfl⟩
  · intro c hc
    have hp := h c hc
    have := hT.kl hp.lt
    rcases hp.krow hT with h1 | h2
    · have := hp.sec h1; have := hp.strc h1; omega
    · have := hp.list h2; omega
  · intro c hc
    have hp := h c hc
    have := hT.kl hp.lt
    rcases hp.krow hT with h1 | h2
    · have := hp.sec h1; have := hp.strc h1; omega
    · have := hp.list h2; omega
  · intro c hc j hj hk
    have hp := h c hc
    have hy := hp.klt hT hj hk
    obtain ⟨c', h1, h2, h3, h4, _⟩ := hp.kid j hy hj hk
    exact ⟨hy, c', h1, h2, h3, h4⟩
end Go.Proofs.Ygcfah
