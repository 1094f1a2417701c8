/- Trees that look the same; with no Go in sight. -/
import Derived.Test.YgcfahUck
namespace Go.Proofs.Ygcfah
set_option linter.unusedVariables false
set_option linter.unusedSimpArgs false
/-- The nodes of A in S look like the nodes of B that f names. -/
structure Sim (nA : Nat) (A : Nat → NodeC) (nB : Nat) (B : Nat → NodeC) (f : Nat → Nat) (S : Nat → Prop) : Prop where
  la : ∀ c, S c → c < nA
  lt : ∀ c, S c → f c < nB
  kind : ∀ c, S c → (B (f c)).kind = (A c).kind
  code : ∀ c, S c → (B (f c)).code = (A c).code
  dl : ∀ c, S c → (B (f c)).dL = (A c).dL
  dz : ∀ c, S c → ∀ k, k < (A c).dL → (B (f c)).dz k = (A c).dz k
  kl : ∀ c, S c → (B (f c)).kL = (A c).kL
  nul : ∀ c, S c → ∀ j, j < (A c).kL → (A c).kz j = -1 → (B (f c)).kz j = -1
  kid : ∀ c, S c → ∀ j, j < (A c).kL → (A c).kz j ≠ -1 → S ((A c).kz j).toNat ∧ (B (f c)).kz j = ((f ((A c).kz j).toNat : Nat) : Int)
theorem Sim.refl {n : Nat} {nd : Nat → NodeC} (hT : Tok n nd) : Sim n nd n nd (fun c => c) (fun c => c < n) :=
  ⟨fun c h => h, fun c h => h, fun c h => rfl, fun c h => rfl, fun c h => rfl, fun c h k hk => rfl, fun c h => rfl, fun c h j hj hz => hz, fun c h j hj hz => ⟨(hT.kid h hj hz).2.1, (hT.kid h hj hz).2.2.symm⟩⟩
theorem ev2_eq {n : Nat} {nd : Nat → NodeC} {m : Nat} {nu : Nat → NodeC} {src sD sP : Nat → Nat} {el : Nat → Bool} (h : AllPN n nd m nu src sD sP el) (hT : Tok n nd) {c : Nat} (hc : c < m) (hin : inl (nu c) = true) : ev2 nu c = ev2 nd (src c) ∧ evP nu (nu c).kz (nu c).kL = evP nd (nd (src c)).kz (nd (src c)).kL := by
  rw [(h c hc).inl] at hin
  have hk27 : (nd (src c)).kind = 2 ∧ (nd (src c)).code = 7 := by unfold inl at hin; simpa using hin
  have he := h.ev hT hc hk27.1 hk27.2
  refine ⟨?_, he.2⟩
  unfold ev2
  rw [he.1, he.2, ← ((h c hc).list hk27.1).2]
/-- Norm of a Norm looks the same. -/
theorem norm_sim {n : Nat} {nd : Nat → NodeC} {r m m2 : Nat} {src sD sP gD gP src2 sD2 sP2 gD2 gP2 : Nat → Nat} {el el2 : Nat → Bool} {nu nu2 : Nat → NodeC} (hT : Tok n nd) (hT2 : Tok m nu) (h : Out n nd r m m m src sD sP gD gP el nu) (h2 : Out m nu 0 m2 m2 m2 src2 sD2 sP2 gD2 gP2 el2 nu2) :
    ∃ S : Nat → Prop, Sim m2 nu2 m nu src2 S ∧ S 0 := by
  have hA : AllPN n nd m nu src sD sP el := h.pn
  have hA2 : AllPN m nu m2 nu2 src2 sD2 sP2 el2 := h2.pn
  have hNo := normOf_of hT h.pn
  refine ⟨fun c => c < m2 ∧ el2 c = el (src2 c) ∧ ((nu (src2 c)).kind = 1 → el2 c = true → sD2 c = (nu (src2 c)).dL ∧ sP2 c = (nu (src2 c)).kL), ?_, ?_⟩
  · have hlen : ∀ c, c < m2 → el2 c = el (src2 c) → ((nu (src2 c)).kind = 1 → el2 c = true → sD2 c = (nu (src2 c)).dL ∧ sP2 c = (nu (src2 c)).kL) → (nu (src2 c)).dL = (nu2 c).dL ∧ (nu (src2 c)).kL = (nu2 c).kL := by
      intro c hc he hs
      have p2 := hA2 c hc
      rcases p2.krow hT2 with h1 | h1
      · have g1 := p2.strc h1
        cases hel : el2 c
        · have g2 := (p2.sec h1).1 hel
          have g3 := hNo.trim (src2 c) p2.lt (by rw [← (hA _ p2.lt).kind]; exact h1) (by rw [← he]; exact hel)
          omega
        · have g2 := hs h1 hel
          omega
      · exact p2.list h1
    refine ⟨fun c hc => hc.1, fun c hc => (hA2 c hc.1).lt, fun c hc => (hA2 c hc.1).kind.symm, fun c hc => (hA2 c hc.1).code.symm, fun c hc => (hlen c hc.1 hc.2.1 hc.2.2).1, fun c hc k hk => ?_, fun c hc => (hlen c hc.1 hc.2.1 hc.2.2).2, fun c hc j hj hz => ?_, fun c hc j hj hz => ?_⟩
    · have hl := hlen c hc.1 hc.2.1 hc.2.2
      have := (hA2 c hc.1).data k
      unfold szw at this
      rw [if_pos (by omega), if_pos hk] at this
      exact this
    · have hl := hlen c hc.1 hc.2.1 hc.2.2
      rcases Classical.em ((nu (src2 c)).kz j = -1) with h1 | h1
      · exact h1
      · obtain ⟨c', e1, _⟩ := (hA2 c hc.1).kid j hj (by omega) h1
        omega
    · have hl := hlen c hc.1 hc.2.1 hc.2.2
      have p2 := hA2 c hc.1
      have p1 := hA _ p2.lt
      have hz1 : (nu (src2 c)).kz j ≠ -1 := fun h0 => hz (p2.nokid j hj fun _ => h0)
      obtain ⟨c', e1, e2, e3, e4, e5⟩ := p2.kid j hj (by omega) hz1
      have hz0 : j < (nd (src (src2 c))).kL ∧ (nd (src (src2 c))).kz j ≠ -1 := by
        rcases Classical.em (j < (nd (src (src2 c))).kL ∧ (nd (src (src2 c))).kz j ≠ -1) with h1 | h1
        · exact h1
        · refine absurd (p1.nokid j (by omega) fun h2 => ?_) hz1
          rcases Classical.em ((nd (src (src2 c))).kz j = -1) with h3 | h3
          · exact h3
          · exact absurd ⟨h2, h3⟩ h1
      obtain ⟨c'', f1, f2, f3, f4, f5⟩ := p1.kid j (by omega) hz0.1 hz0.2
      have hcc : src2 c' = c'' := by rw [e3, f1, Int.toNat_natCast]
      have hin : inl (nu (src2 c)) = inl (nd (src (src2 c))) := p1.inl
      rw [e1, Int.toNat_natCast]
      refine ⟨⟨e2, ?_, ?_⟩, ?_⟩
      · rw [hcc, e4, f4, hin]
      · rw [hcc]
        intro hk he
        have hI : inl (nu (src2 c)) = true := by rw [← e4]; exact he
        have g1 := e5 hI
        have g2 := f5 (by rw [← hin]; exact hI)
        have g3 := ev2_eq hA hT p2.lt hI
        have p3 := hA c'' f2
        have g4 := p3.strc (by rw [← p3.kind]; exact hk)
        refine ⟨by rw [g1.1, g4.1, g2.1, g3.1], by rw [g1.2, g4.2, g2.2, g3.2]⟩
      · rw [hcc]; exact f1
  · refine ⟨h2.N0, ?_, fun _ h3 => ?_⟩
    · rw [h2.r0, h2.e0, h.e0]
    · rw [h2.e0] at h3; cases h3
/-- k and k + 1 change places. -/
def sw (k j : Nat) : Nat := if j = k then k + 1 else if j = k + 1 then k else j
def swI (k : Nat) (x : Int) : Int := if x = (k : Nat) then (k : Nat) + 1 else if x = (k : Nat) + 1 then (k : Nat) else x
theorem sw_sw (k j : Nat) : sw k (sw k j) = j := by
  unfold sw
  by_cases h1 : j = k
  · subst h1; simp
  · by_cases h2 : j = k + 1
    · subst h2; simp
    · simp [h1, h2]
theorem sw_lt {k j n : Nat} (hk : k + 1 < n) (hj : j < n) : sw k j < n := by
  unfold sw
  split
  · omega
  · split <;> omega
theorem swI_nat (k j : Nat) : swI k ((j : Nat) : Int) = ((sw k j : Nat) : Int) := by
  unfold swI sw
  by_cases h1 : j = k
  · subst h1; simp
  · by_cases h2 : j = k + 1
    · subst h2
      rw [if_neg (by omega), if_pos (by omega), if_neg (by omega), if_pos rfl]
    · rw [if_neg (by omega), if_neg (by omega), if_neg h1, if_neg h2]
theorem swI_null (k : Nat) (x : Int) : swI k x = -1 ↔ x = -1 := by
  unfold swI
  by_cases h1 : x = (k : Nat)
  · rw [if_pos h1]; omega
  · rw [if_neg h1]
    by_cases h2 : x = (k : Nat) + 1
    · rw [if_pos h2]; omega
    · rw [if_neg h2]
theorem swI_swI (k : Nat) (x : Int) : swI k (swI k x) = x := by
  unfold swI
  by_cases h1 : x = (k : Nat)
  · rw [if_pos h1, if_neg (by omega), if_pos rfl, h1]
  · rw [if_neg h1]
    by_cases h2 : x = (k : Nat) + 1
    · rw [if_pos h2, if_pos rfl, h2]
    · rw [if_neg h2, if_neg h1, if_neg h2]
/-- un is nd, nodes k and k + 1 changed. -/
structure SwOf (n : Nat) (nd : Nat → NodeC) (k : Nat) (un : Nat → NodeC) : Prop where
  kind : ∀ c, c < n → (un c).kind = (nd (sw k c)).kind
  code : ∀ c, c < n → (un c).code = (nd (sw k c)).code
  dl : ∀ c, c < n → (un c).dL = (nd (sw k c)).dL
  dz : ∀ c, c < n → (un c).dz = (nd (sw k c)).dz
  kl : ∀ c, c < n → (un c).kL = (nd (sw k c)).kL
  kz : ∀ c, c < n → ∀ j, j < (un c).kL → (un c).kz j = swI k ((nd (sw k c)).kz j)
theorem SwOf.sim {n : Nat} {nd : Nat → NodeC} {k : Nat} {un : Nat → NodeC} (h : SwOf n nd k un) (hT : Tok n nd) (hk : k + 1 < n) : Sim n nd n un (sw k) (fun c => c < n) := by
  have hs : ∀ c, c < n → sw k c < n := fun c hc => sw_lt hk hc
  refine ⟨fun c h => h, hs, fun c hc => ?_, fun c hc => ?_, fun c hc => ?_, fun c hc x hx => ?_, fun c hc => ?_, fun c hc j hj hz => ?_, fun c hc j hj hz => ?_⟩
  · rw [h.kind _ (hs c hc), sw_sw]
  · rw [h.code _ (hs c hc), sw_sw]
  · rw [h.dl _ (hs c hc), sw_sw]
  · rw [h.dz _ (hs c hc), sw_sw]
  · rw [h.kl _ (hs c hc), sw_sw]
  · rw [h.kz _ (hs c hc) j (by rw [h.kl _ (hs c hc), sw_sw]; exact hj), sw_sw, hz]; exact (swI_null k _).2 rfl
  · have := hT.kid hc hj hz
    refine ⟨this.2.1, ?_⟩
    rw [h.kz _ (hs c hc) j (by rw [h.kl _ (hs c hc), sw_sw]; exact hj), sw_sw, ← swI_nat, this.2.2]
theorem SwOf.sim2 {n : Nat} {nd : Nat → NodeC} {k : Nat} {un : Nat → NodeC} (h : SwOf n nd k un) (hT : Tok n nd) (hk : k + 1 < n) : Sim n un n nd (sw k) (fun c => c < n) := by
  have hs : ∀ c, c < n → sw k c < n := fun c hc => sw_lt hk hc
  refine ⟨fun c h => h, hs, fun c hc => ?_, fun c hc => ?_, fun c hc => ?_, fun c hc x hx => ?_, fun c hc => ?_, fun c hc j hj hz => ?_, fun c hc j hj hz => ?_⟩
  · rw [h.kind c hc]
  · rw [h.code c hc]
  · rw [h.dl c hc]
  · rw [h.dz c hc]
  · rw [h.kl c hc]
  · rw [h.kz c hc j hj] at hz; exact (swI_null k _).1 hz
  · have e := h.kz c hc j hj
    have hz2 : (nd (sw k c)).kz j ≠ -1 := fun h0 => hz (by rw [e, h0]; exact (swI_null k _).2 rfl)
    have := hT.kid (hs c hc) (by rw [← h.kl c hc]; exact hj) hz2
    obtain ⟨z, hz3⟩ : ∃ z : Nat, (nd (sw k c)).kz j = (z : Nat) := ⟨_, this.2.2.symm⟩
    rw [e, hz3, swI_nat, Int.toNat_natCast, sw_sw]
    rw [hz3, Int.toNat_natCast] at this
    exact ⟨sw_lt hk this.2.1, rfl⟩
theorem SwOf.shp {n : Nat} {nd : Nat → NodeC} {k : Nat} {un : Nat → NodeC} (h : SwOf n nd k un) (hT : Tok n nd) (hk : k + 1 < n) : ∀ c, c < n → Shp un c := by
  intro c hc
  have hq := sw_lt hk hc
  have hs := hT.shp _ hq
  unfold Shp at hs ⊢
  rw [h.kind c hc, h.code c hc, h.dl c hc, h.kl c hc, h.dz c hc]
  rcases hs with hs | ⟨h1, h2, h3, h4⟩
  · exact .inl hs
  · refine .inr ⟨h1, h2, h3, ?_⟩
    rcases h4 with g | g | ⟨g1, g2, g3⟩
    · exact .inl g
    · exact .inr (.inl g)
    · refine .inr (.inr ⟨g1, g2, fun j hj => ?_⟩)
      have hj2 : j < (un c).kL := by rw [h.kl c hc]; exact hj
      rw [h.kz c hc j hj2]
      have h0 := g3 j hj
      refine ⟨fun e => h0.1 ((swI_null k _).1 e), ?_⟩
      have := hT.kid hq hj h0.1
      rw [← this.2.2, swI_nat, Int.toNat_natCast, h.kind _ (sw_lt hk this.2.1), sw_sw]
      exact h0.2
theorem SwOf.kab {n : Nat} {nd : Nat → NodeC} {k : Nat} {un : Nat → NodeC} (h : SwOf n nd k un) (hT : Tok n nd) (hk : k + 1 < n) (hno : ∀ j, j < (nd k).kL → (nd k).kz j ≠ (k : Nat) + 1) : ∀ c, c < n → Kab n un c := by
  intro c hc j hj hz
  have e := h.kz c hc j hj
  have hz2 : (nd (sw k c)).kz j ≠ -1 := fun h0 => hz (by rw [e, h0]; exact (swI_null k _).2 rfl)
  have hj2 : j < (nd (sw k c)).kL := by rw [← h.kl c hc]; exact hj
  have := hT.kid (sw_lt hk hc) hj2 hz2
  obtain ⟨z, hz3⟩ : ∃ z : Nat, (nd (sw k c)).kz j = (z : Nat) := ⟨_, this.2.2.symm⟩
  have hn : sw k c = k → z ≠ k + 1 := by
    intro h1 h2
    rw [h1] at hz3 hj2
    exact hno j hj2 (by rw [hz3, h2]; rfl)
  rw [e, hz3, swI_nat]
  rw [hz3, Int.toNat_natCast] at this
  have h1 := this.1
  have h2 := this.2.1
  have h3 := sw_lt hk h2
  refine ⟨?_, by omega⟩
  have : c < sw k z := by
    unfold sw at h1 hn ⊢
    by_cases c1 : c = k
    · rw [if_pos c1] at h1 hn
      rw [if_neg (by omega), if_neg (by omega)]; omega
    · rw [if_neg c1] at h1 hn
      by_cases c2 : c = k + 1
      · rw [if_pos c2] at h1 hn
        have := hn rfl
        rw [if_neg (by omega), if_neg (by omega)]; omega
      · rw [if_neg c2] at h1 hn
        split
        · omega
        · split <;> omega
  omega
theorem SwOf.occN {n : Nat} {nd : Nat → NodeC} {k : Nat} {un : Nat → NodeC} (h : SwOf n nd k un) {c x : Nat} (hc : c < n) : occN (un c).kz (x : Nat) (un c).kL = occN (nd (sw k c)).kz ((sw k x : Nat) : Int) (nd (sw k c)).kL := by
  have : ∀ m, m ≤ (un c).kL → Ygcfah.occN (un c).kz (x : Nat) m = Ygcfah.occN (nd (sw k c)).kz ((sw k x : Nat) : Int) m := by
    intro m
    induction m with
    | zero => intro _; rfl
    | succ m ih =>
      intro hm
      rw [Ygcfah.occN, Ygcfah.occN, ih (by omega), h.kz c hc m (by omega)]
      have : swI k ((nd (sw k c)).kz m) = (x : Nat) ↔ (nd (sw k c)).kz m = ((sw k x : Nat) : Int) := by
        constructor
        · intro e
          rw [← swI_nat, ← e, swI_swI]
        · intro e
          rw [e, swI_nat, sw_sw]
      by_cases hh : swI k ((nd (sw k c)).kz m) = (x : Nat)
      · rw [if_pos hh, if_pos (this.1 hh)]
      · rw [if_neg hh, if_neg (fun e => hh (this.2 e))]
  rw [this _ (Nat.le_refl _), h.kl c hc]
theorem SwOf.occ {n : Nat} {nd : Nat → NodeC} {k : Nat} {un : Nat → NodeC} (h : SwOf n nd k un) (hk : k + 1 < n) (x : Nat) : occ un (x : Nat) n = occ nd ((sw k x : Nat) : Int) n := by
  have h1 : ∀ i, i ≤ k → Ygcfah.occ un (x : Nat) i = Ygcfah.occ nd ((sw k x : Nat) : Int) i := by
    intro i
    induction i with
    | zero => intro _; rfl
    | succ i ih =>
      intro hi
      rw [Ygcfah.occ, Ygcfah.occ, ih (by omega), h.occN (by omega)]
      rw [show sw k i = i from by unfold sw; rw [if_neg (by omega), if_neg (by omega)]]
  have h2 : Ygcfah.occ un (x : Nat) (k + 2) = Ygcfah.occ nd ((sw k x : Nat) : Int) (k + 2) := by
    rw [Ygcfah.occ, Ygcfah.occ, Ygcfah.occ, Ygcfah.occ, h1 k (Nat.le_refl _), h.occN (show k < n by omega), h.occN hk]
    rw [show sw k k = k + 1 from by simp [sw], show sw k (k + 1) = k from by simp [sw]]
    omega
  have h3 : ∀ i, Ygcfah.occ un (x : Nat) (min (k + 2 + i) n) = Ygcfah.occ nd ((sw k x : Nat) : Int) (min (k + 2 + i) n) := by
    intro i
    induction i with
    | zero => rw [show min (k + 2 + 0) n = k + 2 by omega]; exact h2
    | succ i ih =>
      by_cases hi : k + 2 + i < n
      · rw [show min (k + 2 + i) n = k + 2 + i by omega] at ih
        rw [show min (k + 2 + (i + 1)) n = k + 2 + i + 1 by omega, Ygcfah.occ, Ygcfah.occ, ih, h.occN hi]
        rw [show sw k (k + 2 + i) = k + 2 + i from by unfold sw; rw [if_neg (by omega), if_neg (by omega)]]
      · rw [show min (k + 2 + i) n = n by omega] at ih
        rw [show min (k + 2 + (i + 1)) n = n by omega]; exact ih
  have := h3 n
  rw [show min (k + 2 + n) n = n by omega] at this
  exact this
theorem trimC_congr {c : Int} {z1 z2 : Nat → Int} (L : Nat) (h : ∀ j, j < L → (z1 j = c ↔ z2 j = c)) : trimC c z1 L = trimC c z2 L := by
  induction L with
  | zero => rfl
  | succ L ih =>
    rw [trimC, trimC, ih fun j hj => h j (by omega)]
    have := h L (by omega)
    by_cases h1 : z1 L = c
    · rw [if_pos h1, if_pos (this.1 h1)]
    · rw [if_neg h1, if_neg (fun e => h1 (this.2 e))]
theorem SwOf.trimK {n : Nat} {nd : Nat → NodeC} {k : Nat} {un : Nat → NodeC} (h : SwOf n nd k un) {c : Nat} (hc : c < n) : trimC (-1) (un c).kz (un c).kL = trimC (-1) (nd (sw k c)).kz (nd (sw k c)).kL := by
  rw [trimC_congr (un c).kL (z2 := (nd (sw k c)).kz) fun j hj => by rw [h.kz c hc j hj]; exact swI_null k _, h.kl c hc]
theorem SwOf.trimD {n : Nat} {nd : Nat → NodeC} {k : Nat} {un : Nat → NodeC} (h : SwOf n nd k un) {c : Nat} (hc : c < n) : trimC 0 (un c).dz (un c).dL = trimC 0 (nd (sw k c)).dz (nd (sw k c)).dL := by
  rw [h.dz c hc, h.dl c hc]
theorem SwOf.wds {n : Nat} {nd : Nat → NodeC} {k : Nat} {un : Nat → NodeC} (h : SwOf n nd k un) (hT : Tok n nd) (hk : k + 1 < n) {c : Nat} (hc : c < n) : wds un c = wds nd (sw k c) := by
  unfold Ygcfah.wds
  rw [h.kind c hc, h.code c hc]
  by_cases h1 : (nd (sw k c)).kind = 1
  · rw [if_pos h1, if_pos h1, h.trimK hc, h.trimD hc]
  · rw [if_neg h1, if_neg h1, h.dl c hc, h.kl c hc]
    by_cases h7 : (nd (sw k c)).code = 7
    · have h2 : (nd (sw k c)).kind = 2 := by
        have := hT.shp _ (sw_lt hk hc)
        unfold Shp at this
        omega
      have hel := hT.el (sw_lt hk hc) h2 h7
      have hkid : ∀ j, j < (nd (sw k c)).kL → ∃ z : Nat, (nd (sw k c)).kz j = (z : Nat) ∧ z < n ∧ (un c).kz j = ((sw k z : Nat) : Int) := by
        intro j hj
        have h0 := hel j hj
        refine ⟨((nd (sw k c)).kz j).toNat, by omega, by omega, ?_⟩
        rw [h.kz c hc j (by rw [h.kl c hc]; exact hj), ← swI_nat]
        congr 1
        omega
      have e1 : ∀ q, q ≤ (nd (sw k c)).kL → evD un (un c).kz q = evD nd (nd (sw k c)).kz q := by
        intro q
        induction q with
        | zero => intro _; rfl
        | succ q ih =>
          intro hq
          obtain ⟨z, g1, g2, g3⟩ := hkid q (by omega)
          rw [evD, evD, ih (by omega), g1, g3, Int.toNat_natCast, Int.toNat_natCast, h.trimD (sw_lt hk g2), sw_sw]
      have e2 : ∀ q, q ≤ (nd (sw k c)).kL → evP un (un c).kz q = evP nd (nd (sw k c)).kz q := by
        intro q
        induction q with
        | zero => intro _; rfl
        | succ q ih =>
          intro hq
          obtain ⟨z, g1, g2, g3⟩ := hkid q (by omega)
          rw [evP, evP, ih (by omega), g1, g3, Int.toNat_natCast, Int.toNat_natCast, h.trimK (sw_lt hk g2), sw_sw]
      have : evSum un c = evSum nd (sw k c) := by
        unfold evSum
        rw [h.kl c hc, e1 _ (Nat.le_refl _), e2 _ (Nat.le_refl _)]
      rw [this]
    · rw [if_neg h7, if_neg h7]
theorem SwOf.pw {n : Nat} {nd : Nat → NodeC} {k : Nat} {un : Nat → NodeC} (h : SwOf n nd k un) (hT : Tok n nd) (hk : k + 1 < n) (l : Nat) : ∀ c d e, c < n → pw un l c d e = pw nd l (sw k c) d e := by
  induction l with
  | zero => intro c d e hc; rfl
  | succ l ih =>
    intro c d e hc
    have hin : inl (un c) = inl (nd (sw k c)) := by unfold inl; rw [h.kind c hc, h.code c hc]
    rw [Ygcfah.pw, Ygcfah.pw, hin]
    unfold ownW
    rw [h.wds hT hk hc]
    have : ksm (fun x => Ygcfah.pw un l x (if inl (nd (sw k c)) = true then d else d + 1) (inl (nd (sw k c)))) (un c).kz (un c).kL = ksm (fun x => Ygcfah.pw nd l x (if inl (nd (sw k c)) = true then d else d + 1) (inl (nd (sw k c)))) (nd (sw k c)).kz (nd (sw k c)).kL := by
      rw [h.kl c hc]
      apply ksm_term
      intro j hj
      have e := h.kz c hc j (by rw [h.kl c hc]; exact hj)
      rw [e]
      refine ⟨swI_null k _, fun hz => ?_⟩
      have hz2 : (nd (sw k c)).kz j ≠ -1 := fun h0 => hz ((swI_null k _).2 h0)
      have := hT.kid (sw_lt hk hc) hj hz2
      obtain ⟨z, hz3⟩ : ∃ z : Nat, (nd (sw k c)).kz j = (z : Nat) := ⟨_, this.2.2.symm⟩
      rw [hz3, swI_nat, Int.toNat_natCast, Int.toNat_natCast]
      rw [hz3, Int.toNat_natCast] at this
      rw [ih _ _ _ (sw_lt hk this.2.1), sw_sw]
    rw [this]
theorem SwOf.check {n : Nat} {nd : Nat → NodeC} {k : Nat} {un : Nat → NodeC} {root : Int} (h : SwOf n nd k un) (hC : CheckP n root nd) (hk : k + 1 < n) (hno : ∀ j, j < (nd k).kL → (nd k).kz j ≠ (k : Nat) + 1) : CheckP n (swI k root) un := by
  have hT : Tok n nd := ⟨fun x hx => (hC.2.1 x hx).1, fun x hx => (hC.2.1 x hx).2⟩
  have hl := hC.1
  have hroot : swI k root = -1 ∧ root = -1 ∨ ∃ r : Nat, root = (r : Nat) ∧ r < n ∧ swI k root = ((sw k r : Nat) : Int) := by
    unfold Lim at hl
    by_cases h1 : root = -1
    · exact .inl ⟨(swI_null k _).2 h1, h1⟩
    · refine .inr ⟨root.toNat, by omega, by omega, ?_⟩
      rw [← swI_nat]
      congr 1
      omega
  refine ⟨?_, fun c hc => ⟨h.kab hT hk hno c hc, h.shp hT hk c hc⟩, fun x hx => ?_, ?_⟩
  · unfold Lim at hl ⊢
    rcases hroot with ⟨e, _⟩ | ⟨r, _, e1, e2⟩
    · omega
    · have := sw_lt hk e1
      omega
  · rw [h.occ hk x]
    have := hC.2.2.1 (sw k x) (sw_lt hk hx)
    refine ⟨this.1, fun e => this.2 ?_⟩
    rw [← swI_nat, e, swI_swI]
  · rcases hroot with ⟨e, _⟩ | ⟨r, e0, e1, e2⟩
    · exact .inl e
    · right
      rw [e2, Int.toNat_natCast]
      rcases hC.2.2.2 with h2 | h2
      · omega
      · rw [e0, Int.toNat_natCast] at h2
        show 1 + Ygcfah.pw un 20 (sw k r) 1 false ≤ 256
        rw [h.pw hT hk 20 _ _ _ (sw_lt hk e1), sw_sw]
        exact h2
end Go.Proofs.Ygcfah
