/- The Norm of a tree that passes Check passes Check; with no Go in sight. -/
import Derived.Test.YgcfahTrp
import Derived.Test.YgcfahTck
namespace Go.Proofs.Ygcfah
set_option linter.unusedVariables false
set_option linter.unusedSimpArgs false
theorem ksm_pad (f : Nat → Nat) (z : Nat → Int) (L M : Nat) (h : L ≤ M) : ksm f (pad (-1) z L) M = ksm f z L := by
  induction M with
  | zero => rw [show L = 0 by omega]; rfl
  | succ M ih =>
    by_cases hL : L ≤ M
    · rw [ksm, ih hL]
      have : pad (-1) z L M = -1 := by unfold pad; rw [if_neg (by omega)]
      rw [if_pos this]
      rfl
    · have hLM : L = M + 1 := by omega
      subst hLM
      clear ih h hL
      have : ∀ m, m ≤ M + 1 → ksm f (pad (-1) z (M + 1)) m = ksm f z m := by
        intro m
        induction m with
        | zero => intro _; rfl
        | succ m ih2 =>
          intro hm
          rw [ksm, ksm, ih2 (by omega)]
          have : pad (-1) z (M + 1) m = z m := by unfold pad; rw [if_pos (by omega)]
          rw [this]
      exact this _ (Nat.le_refl _)
theorem ksm_term (f g : Nat → Nat) (z1 z2 : Nat → Int) (M : Nat) (h : ∀ j, j < M → (z1 j = -1 ↔ z2 j = -1) ∧ (z1 j ≠ -1 → f (z1 j).toNat = g (z2 j).toNat)) : ksm f z1 M = ksm g z2 M := by
  induction M with
  | zero => rfl
  | succ M ih =>
    rw [ksm, ksm, ih fun j hj => h j (by omega)]
    have := h M (by omega)
    by_cases hz : z1 M = -1
    · rw [if_pos hz, if_pos (this.1.1 hz)]
    · rw [if_neg hz, if_neg (fun h2 => hz (this.1.2 h2)), this.2 hz]
/-- Sums over kids that agree but for nulls at the end. -/
theorem ksm_two (f g : Nat → Nat) (z1 z2 : Nat → Int) (L1 L2 : Nat) (h1 : ∀ j, j < L2 → z2 j ≠ -1 → j < L1 ∧ z1 j ≠ -1 ∧ f (z1 j).toNat = g (z2 j).toNat) (h2 : ∀ j, j < L1 → (j < L2 → z2 j = -1) → z1 j = -1) : ksm f z1 L1 = ksm g z2 L2 := by
  rw [← ksm_pad f z1 L1 (max L1 L2) (by omega), ← ksm_pad g z2 L2 (max L1 L2) (by omega)]
  apply ksm_term
  intro j hj
  unfold pad
  by_cases hx : j < L2
  · by_cases hz : z2 j = -1
    · rw [if_pos hx, hz]
      by_cases hy : j < L1
      · rw [if_pos hy, h2 j hy fun _ => hz]
        exact ⟨Iff.rfl, fun h => absurd rfl h⟩
      · rw [if_neg hy]
        exact ⟨Iff.rfl, fun h => absurd rfl h⟩
    · obtain ⟨g1, g2, g3⟩ := h1 j hx hz
      rw [if_pos hx, if_pos g1]
      exact ⟨⟨fun h => absurd h g2, fun h => absurd h hz⟩, fun _ => g3⟩
  · rw [if_neg hx]
    by_cases hy : j < L1
    · rw [if_pos hy, h2 j hy fun h => absurd h hx]
      exact ⟨Iff.rfl, fun h => absurd rfl h⟩
    · rw [if_neg hy]
      exact ⟨Iff.rfl, fun h => absurd rfl h⟩
theorem PN.inl {n : Nat} {nd : Nat → NodeC} {m : Nat} {nu : Nat → NodeC} {src sD sP : Nat → Nat} {el : Nat → Bool} {c : Nat} (h : PN n nd m nu src sD sP el c) : inl (nu c) = inl (nd (src c)) := by
  unfold Ygcfah.inl
  rw [h.kind, h.code]
/-- All nodes have been made. -/
def AllPN (n : Nat) (nd : Nat → NodeC) (m : Nat) (nu : Nat → NodeC) (src sD sP : Nat → Nat) (el : Nat → Bool) : Prop := ∀ c, c < m → PN n nd m nu src sD sP el c
theorem AllPN.shp {n : Nat} {nd : Nat → NodeC} {m : Nat} {nu : Nat → NodeC} {src sD sP : Nat → Nat} {el : Nat → Bool} (h : AllPN n nd m nu src sD sP el) (hT : Tok n nd) : ∀ c, c < m → Shp nu c := by
  intro c hc
  have hp := h c hc
  have hs := hT.shp _ hp.lt
  unfold Shp at hs ⊢
  rcases hs with ⟨h1, h2, h3, h4⟩ | ⟨h1, h2, h3, h4⟩
  · have a1 := hp.strc h1
    have a2 := hp.sec h1
    exact .inl ⟨hp.kind.trans h1, hp.code.trans h2, by omega, by omega⟩
  · have a1 := hp.list h1
    refine .inr ⟨hp.kind.trans h1, by omega, by omega, ?_⟩
    rw [hp.code]
    rcases h4 with ⟨g1, g2, g3, g4⟩ | ⟨g1, g2⟩ | ⟨g1, g2, g3⟩
    · refine .inl ⟨g1, g2, by omega, fun j hj => ?_⟩
      have hd := hp.data j
      unfold szw at hd
      rw [if_pos (by omega), if_pos hj] at hd
      rw [← hd]
      exact g4 j (by omega)
    · exact .inr (.inl ⟨g1, by omega⟩)
    · refine .inr (.inr ⟨g1, by omega, fun j hj => ?_⟩)
      obtain ⟨k1, k2⟩ := g3 j (by omega)
      obtain ⟨c', e1, e2, e3, _⟩ := hp.kid j hj (by omega) k1
      rw [e1]
      refine ⟨by omega, ?_⟩
      rw [Int.toNat_natCast, (h c' e2).kind, e3]
      exact k2
theorem AllPN.ev {n : Nat} {nd : Nat → NodeC} {m : Nat} {nu : Nat → NodeC} {src sD sP : Nat → Nat} {el : Nat → Bool} (h : AllPN n nd m nu src sD sP el) (hT : Tok n nd) {c : Nat} (hc : c < m) (h2 : (nd (src c)).kind = 2) (h7 : (nd (src c)).code = 7) :
    evD nu (nu c).kz (nu c).kL = evD nd (nd (src c)).kz (nd (src c)).kL ∧ evP nu (nu c).kz (nu c).kL = evP nd (nd (src c)).kz (nd (src c)).kL := by
  have hp := h c hc
  have hkl := (hp.list h2).2
  have hel := hT.el hp.lt h2 h7
  have hkid : ∀ j, j < (nd (src c)).kL → ∃ c', (nu c).kz j = ((c' : Nat) : Int) ∧ c' < m ∧ src c' = ((nd (src c)).kz j).toNat := by
    intro j hj
    have h0 := hel j hj
    obtain ⟨c', h1, h2, h3, _⟩ := hp.kid j (by omega) hj (by omega)
    exact ⟨c', h1, h2, h3⟩
  rw [← hkl]
  constructor
  · have : ∀ q, q ≤ (nd (src c)).kL → evD nu (nu c).kz q = evD nd (nd (src c)).kz q := by
      intro q
      induction q with
      | zero => intro _; rfl
      | succ q ih =>
        intro hq
        obtain ⟨c', h1, h2, h3⟩ := hkid q (by omega)
        rw [evD, evD, ih (by omega), h1, Int.toNat_natCast, ← h3, trim_szw (h c' h2).data]
    exact this _ (Nat.le_refl _)
  · have : ∀ q, q ≤ (nd (src c)).kL → evP nu (nu c).kz q = evP nd (nd (src c)).kz q := by
      intro q
      induction q with
      | zero => intro _; rfl
      | succ q ih =>
        intro hq
        obtain ⟨c', h1, h2, h3⟩ := hkid q (by omega)
        rw [evP, evP, ih (by omega), h1, Int.toNat_natCast, ← h3, (h c' h2).ktrim hT]
    exact this _ (Nat.le_refl _)
theorem AllPN.wds {n : Nat} {nd : Nat → NodeC} {m : Nat} {nu : Nat → NodeC} {src sD sP : Nat → Nat} {el : Nat → Bool} (h : AllPN n nd m nu src sD sP el) (hT : Tok n nd) {c : Nat} (hc : c < m) : wds nu c = wds nd (src c) := by
  have hp := h c hc
  unfold Ygcfah.wds
  rw [hp.kind, hp.code]
  by_cases h1 : (nd (src c)).kind = 1
  · rw [if_pos h1, if_pos h1, hp.ktrim hT, trim_szw hp.data]
  · have h2 : (nd (src c)).kind = 2 := (hp.krow hT).resolve_left h1
    have hl := hp.list h2
    rw [if_neg h1, if_neg h1, ← hl.1, ← hl.2]
    by_cases h7 : (nd (src c)).code = 7
    · have he := h.ev hT hc h2 h7
      have : evSum nu c = evSum nd (src c) := by
        unfold evSum
        rw [he.1, he.2, ← hl.2]
      rw [this]
    · rw [if_neg h7, if_neg h7]
theorem AllPN.pw {n : Nat} {nd : Nat → NodeC} {m : Nat} {nu : Nat → NodeC} {src sD sP : Nat → Nat} {el : Nat → Bool} (h : AllPN n nd m nu src sD sP el) (hT : Tok n nd) (l : Nat) : ∀ c d e, c < m → pw nu l c d e = pw nd l (src c) d e := by
  induction l with
  | zero => intro c d e hc; rfl
  | succ l ih =>
    intro c d e hc
    have hp := h c hc
    rw [Ygcfah.pw, Ygcfah.pw, hp.inl]
    unfold ownW
    rw [h.wds hT hc]
    have : ksm (fun k => Ygcfah.pw nu l k (if Ygcfah.inl (nd (src c)) = true then d else d + 1) (Ygcfah.inl (nd (src c)))) (nu c).kz (nu c).kL = ksm (fun k => Ygcfah.pw nd l k (if Ygcfah.inl (nd (src c)) = true then d else d + 1) (Ygcfah.inl (nd (src c)))) (nd (src c)).kz (nd (src c)).kL := by
      apply ksm_two
      · intro j hj hz
        have hy := hp.klt hT hj hz
        obtain ⟨c', e1, e2, e3, _⟩ := hp.kid j hy hj hz
        refine ⟨hy, by omega, ?_⟩
        rw [e1, Int.toNat_natCast, ih c' _ _ e2, e3]
      · intro j hj hz
        exact hp.nokid j hj hz
    rw [this]
/-- Norm's tree passes Check. -/
theorem Out.check {n : Nat} {nd : Nat → NodeC} {r m : Nat} {src sD sP gD gP : Nat → Nat} {el : Nat → Bool} {nu : Nat → NodeC} (h : Out n nd r m m m src sD sP gD gP el nu) (hC : CheckP n (r : Nat) nd) (hm : m ≤ 512) : CheckP m ((0 : Nat) : Int) nu := by
  have hT : Tok n nd := ⟨fun x hx => (hC.2.1 x hx).1, fun x hx => (hC.2.1 x hx).2⟩
  have hA : AllPN n nd m nu src sD sP el := h.pn
  have hN0 := h.N0
  refine ⟨⟨hm, by omega, by omega⟩, fun c hc => ⟨h.up c hc, hA.shp hT c hc⟩, fun k hk => ?_, .inr ?_⟩
  · have := h.oc k
    rw [this]
    refine ⟨by split <;> omega, fun h0 => ?_⟩
    rw [if_neg (by omega)]
  · have h1 := hA.pw hT 20 0 1 false hN0
    rw [h.r0] at h1
    rcases hC.2.2.2 with h2 | h2
    · omega
    · rw [Int.toNat_natCast] at h2 ⊢
      show 1 + Ygcfah.pw nu 20 0 1 false ≤ 256
      rw [h1]
      exact h2
end Go.Proofs.Ygcfah
