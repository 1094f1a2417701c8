/- The queue of tree.Norm, with no Go in sight. -/
import Derived.Test.YgcfahTnl
namespace Go.Proofs.Ygcfah
set_option linter.unusedVariables false
set_option linter.unusedSimpArgs false
/-- The nodes that hang from the r entries from c on. -/
def qS (nd : Nat → NodeC) (src : Nat → Nat) : Nat → Nat → Nat
  | _, 0 => 0
  | c, r + 1 => cnr nd (src c) + qS nd src (c + 1) r
theorem qS_congr {nd : Nat → NodeC} {src src' : Nat → Nat} (r : Nat) : ∀ c, (∀ k, c ≤ k → k < c + r → src k = src' k) → qS nd src c r = qS nd src' c r := by
  induction r with
  | zero => intro c h; rfl
  | succ r ih =>
    intro c h
    rw [qS, qS, ih (c + 1) fun k h1 h2 => h k (by omega) (by omega), h c (by omega) (by omega)]
theorem qS_last {nd : Nat → NodeC} {src : Nat → Nat} (r : Nat) : ∀ c, qS nd src c (r + 1) = qS nd src c r + cnr nd (src (c + r)) := by
  induction r with
  | zero => intro c; simp [qS]
  | succ r ih =>
    intro c
    rw [qS, ih (c + 1), qS, show c + 1 + r = c + (r + 1) by omega]
    omega
theorem qS_push {nd : Nat → NodeC} {src : Nat → Nat} {c N z : Nat} (h : c ≤ N) : qS nd (putF src N z) c (N + 1 - c) = qS nd src c (N - c) + cnr nd z := by
  rw [show N + 1 - c = (N - c) + 1 by omega, qS_last, show c + (N - c) = N by omega]
  have e : qS nd (putF src N z) c (N - c) = qS nd src c (N - c) := qS_congr _ _ fun k h1 h2 => by simp [putF]; omega
  rw [e]
  simp [putF]
theorem qS_ge {nd : Nat → NodeC} {src : Nat → Nat} (r : Nat) : ∀ c, (∀ k, c ≤ k → k < c + r → 1 ≤ cnr nd (src k)) → r ≤ qS nd src c r := by
  induction r with
  | zero => intro c h; simp
  | succ r ih =>
    intro c h
    rw [qS]
    have h1 := ih (c + 1) fun k g1 g2 => h k (by omega) (by omega)
    have h2 := h c (by omega) (by omega)
    omega
/-- The sections of an entry. -/
def Sec (nd : Nat → NodeC) (k : Nat) (e : Bool) (D P : Nat) : Prop :=
  (nd k).kind = 1 → (e = false → D = trimC 0 (nd k).dz (nd k).dL ∧ P = trimC (-1) (nd k).kz (nd k).kL) ∧ trimC 0 (nd k).dz (nd k).dL ≤ D ∧ D ≤ 8 ∧ trimC (-1) (nd k).kz (nd k).kL ≤ P ∧ P ≤ 8
/-- What the queue holds. -/
structure Qe (n : Nat) (nd : Nat → NodeC) (N : Nat) (src sD sP : Nat → Nat) (el : Nat → Bool) : Prop where
  lt : ∀ c, c < N → src c < n
  pw : ∀ c, c < N → ∃ d, 1 ≤ d ∧ pwr nd (src c) d (el c) < 1000
  sec : ∀ c, c < N → Sec nd (src c) (el c) (sD c) (sP c)
theorem Qe.one {n : Nat} {nd : Nat → NodeC} (hT : Tok n nd) {N : Nat} {src sD sP : Nat → Nat} {el : Nat → Bool} (h : Qe n nd N src sD sP el) {c : Nat} (hc : c < N) : 1 ≤ cnr nd (src c) := by
  obtain ⟨d, h1, h2⟩ := h.pw c hc
  exact cnr_pos hT (h.lt c hc) h2
theorem trim_sec {n : Nat} {nd : Nat → NodeC} (hT : Tok n nd) {k : Nat} (hk : k < n) : Sec nd k false (trimC 0 (nd k).dz (nd k).dL) (trimC (-1) (nd k).kz (nd k).kL) := by
  intro h1
  have hs := hT.shp k hk
  unfold Shp at hs
  have t1 := trimC_le 0 (nd k).dz (nd k).dL
  have t2 := trimC_le (-1) (nd k).kz (nd k).kL
  exact ⟨fun _ => ⟨rfl, rfl⟩, Nat.le_refl _, by omega, Nat.le_refl _, by omega⟩
theorem Qe.start {n : Nat} {nd : Nat → NodeC} (hT : Tok n nd) {r : Nat} (hr : r < n) (hp : pwr nd r 1 false < 1000) (src sD sP : Nat → Nat) (el : Nat → Bool) (h0 : src 0 = r) (he : el 0 = false) (hd : sD 0 = trimC 0 (nd r).dz (nd r).dL) (hP : sP 0 = trimC (-1) (nd r).kz (nd r).kL) : Qe n nd 1 src sD sP el := by
  refine ⟨fun c hc => ?_, fun c hc => ?_, fun c hc => ?_⟩
  · rw [show c = 0 by omega, h0]; exact hr
  · rw [show c = 0 by omega, h0, he]; exact ⟨1, Nat.le_refl _, hp⟩
  · rw [show c = 0 by omega, h0, he, hd, hP]; exact trim_sec hT hr
theorem evD_ge (nd : Nat → NodeC) (kz : Nat → Int) (m j : Nat) (h : j < m) : trimC 0 (nd (kz j).toNat).dz (nd (kz j).toNat).dL ≤ evD nd kz m := by
  induction m with
  | zero => omega
  | succ m ih =>
    rw [evD]
    by_cases hj : j = m
    · subst hj; omega
    · have := ih (by omega); omega
theorem evP_ge (nd : Nat → NodeC) (kz : Nat → Int) (m j : Nat) (h : j < m) : trimC (-1) (nd (kz j).toNat).kz (nd (kz j).toNat).kL ≤ evP nd kz m := by
  induction m with
  | zero => omega
  | succ m ih =>
    rw [evP]
    by_cases hj : j = m
    · subst hj; omega
    · have := ih (by omega); omega
theorem even_sec {n : Nat} {nd : Nat → NodeC} (hT : Tok n nd) {i : Nat} (hi : i < n) (hin : inl (nd i) = true) {j : Nat} (hj : j < (nd i).kL) : Sec nd ((nd i).kz j).toNat true (ev2 nd i) (evP nd (nd i).kz (nd i).kL) := by
  intro h1
  have hk27 : (nd i).kind = 2 ∧ (nd i).code = 7 := by unfold inl at hin; simpa using hin
  have l1 := evD_le nd (nd i).kz (nd i).kL 8 fun q hq => (hT.el hi hk27.1 hk27.2 q hq).2.2.1
  have l2 := evP_le nd (nd i).kz (nd i).kL 8 fun q hq => (hT.el hi hk27.1 hk27.2 q hq).2.2.2
  have g1 := evD_ge nd (nd i).kz (nd i).kL j hj
  have g2 := evP_ge nd (nd i).kz (nd i).kL j hj
  have l3 : ev2 nd i ≤ 8 ∧ evD nd (nd i).kz (nd i).kL ≤ ev2 nd i := by unfold ev2; split <;> omega
  refine ⟨fun h => absurd h (by simp), by omega, by omega, by omega, by omega⟩
theorem Qe.push {n : Nat} {nd : Nat → NodeC} (hT : Tok n nd) {N : Nat} {src sD sP : Nat → Nat} {el : Nat → Bool} (h : Qe n nd N src sD sP el) {i : Nat} (hi : i < N) {j : Nat} (hj : j < (nd (src i)).kL) (hk : (nd (src i)).kz j ≠ -1) {D P : Nat} (hs : Sec nd ((nd (src i)).kz j).toNat (inl (nd (src i))) D P) :
    Qe n nd (N + 1) (putF src N ((nd (src i)).kz j).toNat) (putF sD N D) (putF sP N P) (putF el N (inl (nd (src i)))) := by
  have hkid := hT.kid (h.lt i hi) hj hk
  refine ⟨fun c hc => ?_, fun c hc => ?_, fun c hc => ?_⟩
  · unfold putF
    split
    · exact hkid.2.1
    · exact h.lt c (by omega)
  · unfold putF
    split
    · obtain ⟨d, h1, h2⟩ := h.pw i hi
      have := pwr_kid hT (h.lt i hi) h1 h2 hj hk
      exact ⟨_, by split <;> omega, this.2⟩
    · exact h.pw c (by omega)
  · unfold putF
    split
    · exact hs
    · exact h.sec c (by omega)
/-- What has been written of the kids of entry i, j of them. -/
structure Ks (nd : Nat → NodeC) (i j N : Nat) (src sD sP : Nat → Nat) (el : Nat → Bool) (ku : Nat → Int) : Prop where
  kid : ∀ q, q < j → q < (nd (src i)).kL → (nd (src i)).kz q ≠ -1 → ∃ c', ku q = ((c' : Nat) : Int) ∧ i < c' ∧ c' < N ∧ src c' = ((nd (src i)).kz q).toNat ∧ el c' = inl (nd (src i)) ∧ (inl (nd (src i)) = true → sD c' = ev2 nd (src i) ∧ sP c' = evP nd (nd (src i)).kz (nd (src i)).kL)
  no : ∀ q, q < j → (q < (nd (src i)).kL → (nd (src i)).kz q = -1) → ku q = -1
theorem Ks.start (nd : Nat → NodeC) (i N : Nat) (src sD sP : Nat → Nat) (el : Nat → Bool) (ku : Nat → Int) : Ks nd i 0 N src sD sP el ku := ⟨fun q h => absurd h (by omega), fun q h => absurd h (by omega)⟩
theorem Ks.null {nd : Nat → NodeC} {i j N : Nat} {src sD sP : Nat → Nat} {el : Nat → Bool} {ku : Nat → Int} (h : Ks nd i j N src sD sP el ku) (hk : j < (nd (src i)).kL → (nd (src i)).kz j = -1) : Ks nd i (j + 1) N src sD sP el (putF ku j (-1)) := by
  refine ⟨fun q hq hx hz => ?_, fun q hq hx => ?_⟩
  · by_cases hqj : q = j
    · subst hqj; exact absurd (hk hx) hz
    · simp only [putF, if_neg hqj]; exact h.kid q (by omega) hx hz
  · by_cases hqj : q = j
    · subst hqj; simp [putF]
    · simp only [putF, if_neg hqj]; exact h.no q (by omega) hx
theorem Ks.push {nd : Nat → NodeC} {i j N : Nat} {src sD sP : Nat → Nat} {el : Nat → Bool} {ku : Nat → Int} (h : Ks nd i j N src sD sP el ku) (hi : i < N) (hj : j < (nd (src i)).kL) (hk : (nd (src i)).kz j ≠ -1) {D P : Nat} (hDP : inl (nd (src i)) = true → D = ev2 nd (src i) ∧ P = evP nd (nd (src i)).kz (nd (src i)).kL) :
    Ks nd i (j + 1) (N + 1) (putF src N ((nd (src i)).kz j).toNat) (putF sD N D) (putF sP N P) (putF el N (inl (nd (src i)))) (putF ku j (N : Nat)) := by
  have hsi : putF src N ((nd (src i)).kz j).toNat i = src i := by simp [putF]; omega
  refine ⟨fun q hq => ?_, fun q hq => ?_⟩
  · rw [hsi]
    intro hx hz
    by_cases hqj : q = j
    · subst hqj
      exact ⟨N, by simp [putF], hi, by omega, by simp [putF], by simp [putF], fun hin => by simpa [putF] using hDP hin⟩
    · obtain ⟨c', h1, h2, h3, h4, h5, h6⟩ := h.kid q (by omega) hx hz
      have hne : c' ≠ N := by omega
      refine ⟨c', by simp [putF, hqj, h1], h2, by omega, by simp [putF, hne, h4], by simp [putF, hne, h5], fun hin => by simpa [putF, hne] using h6 hin⟩
  · rw [hsi]
    intro hx
    by_cases hqj : q = j
    · subst hqj; exact absurd (hx hj) hk
    · simp only [putF, if_neg hqj]; exact h.no q (by omega) hx
/-- A made node stays made when the queue grows. -/
theorem PN.grow {n : Nat} {nd : Nat → NodeC} {m : Nat} {nu : Nat → NodeC} {src sD sP : Nat → Nat} {el : Nat → Bool} {c : Nat} (h : PN n nd m nu src sD sP el c) (hc : c < m) (z D P : Nat) (e : Bool) : PN n nd (m + 1) nu (putF src m z) (putF sD m D) (putF sP m P) (putF el m e) c := by
  have hne : c ≠ m := by omega
  have e1 : putF src m z c = src c := by simp [putF, hne]
  have e2 : putF sD m D c = sD c := by simp [putF, hne]
  have e3 : putF sP m P c = sP c := by simp [putF, hne]
  have e4 : putF el m e c = el c := by simp [putF, hne]
  refine ⟨?_, ?_, ?_, ?_, ?_, ?_, ?_, ?_, ?_⟩
  · rw [e1]; exact h.lt
  · rw [e1]; exact h.kind
  · rw [e1]; exact h.code
  · rw [e1]; exact h.data
  · rw [e1]; exact h.list
  · rw [e1, e2, e3]; exact h.strc
  · rw [e1, e2, e3, e4]; exact h.sec
  · rw [e1]
    intro j hj hx hz
    obtain ⟨c', h1, h2, h3, h4, h5⟩ := h.kid j hj hx hz
    have hne' : c' ≠ m := by omega
    exact ⟨c', h1, by omega, by simp [putF, hne', h3], by simp [putF, hne', h4], fun hin => by simpa [putF, hne'] using h5 hin⟩
  · rw [e1]; exact h.nokid
/-- A made node does not hang on the nodes that are yet to be made. -/
theorem PN.nodes {n : Nat} {nd : Nat → NodeC} {m : Nat} {nu nu' : Nat → NodeC} {src sD sP : Nat → Nat} {el : Nat → Bool} {c : Nat} (h : PN n nd m nu src sD sP el c) (e : nu' c = nu c) : PN n nd m nu' src sD sP el c := by
  refine ⟨h.lt, by rw [e]; exact h.kind, by rw [e]; exact h.code, by rw [e]; exact h.data, by rw [e]; exact h.list, by rw [e]; exact h.strc, h.sec, by rw [e]; exact h.kid, by rw [e]; exact h.nokid⟩
end Go.Proofs.Ygcfah
