/- The queue of tree.Equal, with no Go in sight. -/
import Derived.Test.YgcfahUsm
namespace Go.Proofs.Ygcfah
set_option linter.unusedVariables false
set_option linter.unusedSimpArgs false
/-- At the head of round i of tree.Equal's loop. -/
structure EO (A : Nat → NodeC) (CR i N : Nat) (l g f : Nat → Nat) (S : Nat → Prop) : Prop where
  s : ∀ c, c < N → S (l c) ∧ g c = f (l c)
  pw : ∀ c, c < N → ∃ d e, 1 ≤ d ∧ pwr A (l c) d e < 1000
  sum : i + qS A l i (N - i) = CR
  iN : i ≤ N
/-- Within it, j kids done, at node p. -/
structure EI (A : Nat → NodeC) (CR i j N : Nat) (l g f : Nat → Nat) (S : Nat → Prop) (p : Nat) : Prop where
  s : ∀ c, c < N → S (l c) ∧ g c = f (l c)
  pw : ∀ c, c < N → ∃ d e, 1 ≤ d ∧ pwr A (l c) d e < 1000
  sum : i + 1 + qS A l (i + 1) (N - (i + 1)) + ksm (cnr A) (A p).kz (A p).kL = CR + ksm (cnr A) (A p).kz j
  iN : i < N
  lp : l i = p
theorem EO.start {A : Nat → NodeC} {CR r : Nat} {l g f : Nat → Nat} {S : Nat → Prop} (hs : S r) (hCR : CR = cnr A r) (hl : l 0 = r) (hg : g 0 = f r) (hp : pwr A r 1 false < 1000) : EO A CR 0 1 l g f S := by
  refine ⟨fun c hc => ?_, fun c hc => ?_, ?_, by omega⟩
  · rw [show c = 0 by omega, hl]; exact ⟨hs, hg⟩
  · rw [show c = 0 by omega, hl]; exact ⟨1, false, Nat.le_refl _, hp⟩
  · rw [show 1 - 0 = 0 + 1 from rfl, qS, qS, hl, hCR]; omega
theorem EI.start {nA : Nat} {A : Nat → NodeC} {CR i N : Nat} {l g f : Nat → Nat} {S : Nat → Prop} (h : EO A CR i N l g f S) (hT : Tok nA A) (hS : ∀ c, S c → c < nA) (hi : i < N) : EI A CR i 0 N l g f S (l i) := by
  refine ⟨h.s, h.pw, ?_, hi, rfl⟩
  have hsum := h.sum
  rw [show N - i = (N - (i + 1)) + 1 by omega, qS] at hsum
  obtain ⟨d, e, _, h2⟩ := h.pw i hi
  rw [cn_step hT (hS _ (h.s i hi).1) h2] at hsum
  rw [ksm]
  omega
theorem EI.null {A : Nat → NodeC} {CR i j N : Nat} {l g f : Nat → Nat} {S : Nat → Prop} {p : Nat} (h : EI A CR i j N l g f S p) (hk : (A p).kz j = -1) : EI A CR i (j + 1) N l g f S p := by
  refine ⟨h.s, h.pw, ?_, h.iN, h.lp⟩
  have := h.sum
  rw [ksm, if_pos hk]
  omega
theorem EI.lt {nA : Nat} {A : Nat → NodeC} {CR i j N : Nat} {l g f : Nat → Nat} {S : Nat → Prop} {p : Nat} (h : EI A CR i j N l g f S p) (hT : Tok nA A) (hS : ∀ c, S c → c < nA) (hj : j < (A p).kL) (hk : (A p).kz j ≠ -1) : N < CR := by
  have h3 := h.iN
  have h1 := qS_ge (nd := A) (src := l) (N - (i + 1)) (i + 1) fun k _ hk => by
    obtain ⟨d, e, _, h2⟩ := h.pw k (by omega)
    exact cnr_pos hT (hS _ (h.s k (by omega)).1) h2
  have h2 := h.sum
  have h5 := ksm_mono (cnr A) (A p).kz (show j + 1 ≤ (A p).kL by omega)
  rw [ksm, if_neg hk] at h5
  obtain ⟨d, e, g1, g2⟩ := h.pw i h3
  rw [h.lp] at g2
  have hp : p < nA := by have := hS _ (h.s i h3).1; rw [h.lp] at this; exact this
  have h6 := cnr_pos hT (hT.kid hp hj hk).2.1 (pwr_kid hT hp g1 g2 hj hk).2
  omega
theorem EO.lt {nA : Nat} {A : Nat → NodeC} {CR i N : Nat} {l g f : Nat → Nat} {S : Nat → Prop} (h : EO A CR i N l g f S) (hT : Tok nA A) (hS : ∀ c, S c → c < nA) : N ≤ CR := by
  have h3 := h.iN
  have h1 := qS_ge (nd := A) (src := l) (N - i) i fun k _ hk => by
    obtain ⟨d, e, _, h2⟩ := h.pw k (by omega)
    exact cnr_pos hT (hS _ (h.s k (by omega)).1) h2
  have h2 := h.sum
  omega
theorem EI.push {nA nB : Nat} {A B : Nat → NodeC} {CR i j N : Nat} {l g f : Nat → Nat} {S : Nat → Prop} {p : Nat} (h : EI A CR i j N l g f S p) (hT : Tok nA A) (hM : Sim nA A nB B f S) (hj : j < (A p).kL) (hk : (A p).kz j ≠ -1) {z : Nat} (hz : (A p).kz j = (z : Nat)) : EI A CR i (j + 1) (N + 1) (putF l N z) (putF g N (f z)) f S p := by
  have hiN := h.iN
  have hSp : S p := by have := (h.s i hiN).1; rw [h.lp] at this; exact this
  have hSz := (hM.kid p hSp j hj hk).1
  rw [hz, Int.toNat_natCast] at hSz
  have hne : i ≠ N := by omega
  refine ⟨fun c hc => ?_, fun c hc => ?_, ?_, by omega, by simp [putF, hne, h.lp]⟩
  · unfold putF
    by_cases hcN : c = N
    · rw [if_pos hcN, if_pos hcN]; exact ⟨hSz, rfl⟩
    · rw [if_neg hcN, if_neg hcN]; exact h.s c (by omega)
  · unfold putF
    by_cases hcN : c = N
    · rw [if_pos hcN]
      obtain ⟨d, e, g1, g2⟩ := h.pw i hiN
      rw [h.lp] at g2
      have := (pwr_kid hT (hM.la p hSp) g1 g2 hj hk).2
      rw [hz, Int.toNat_natCast] at this
      exact ⟨_, _, by split <;> omega, this⟩
    · rw [if_neg hcN]; exact h.pw c (by omega)
  · have := h.sum
    rw [ksm, if_neg hk, qS_push (by omega), hz, Int.toNat_natCast]
    omega
theorem EI.done {A : Nat → NodeC} {CR i N : Nat} {l g f : Nat → Nat} {S : Nat → Prop} {p : Nat} (h : EI A CR i (A p).kL N l g f S p) : EO A CR (i + 1) N l g f S := by
  have := h.sum
  have := h.iN
  exact ⟨h.s, h.pw, by omega, by omega⟩
end Go.Proofs.Ygcfah
