/- The number of nodes below a node. -/
import Derived.Test.YgcfahTlaw
namespace Go.Proofs.Ygcfah
set_option linter.unusedVariables false
set_option linter.unusedSimpArgs false
/-- The nodes that hang from node i, itself counted. -/
def cn (nd : Nat → NodeC) : Nat → Nat → Nat
  | 0, _ => 0
  | l + 1, i => 1 + ksm (cn nd l) (nd i).kz (nd i).kL
theorem ksm_kid {f : Nat → Nat} {kz : Nat → Int} {m j : Nat} (hj : j < m) (hk : kz j ≠ -1) : f (kz j).toNat ≤ ksm f kz m := by
  have h1 := ksm_mono f kz (show j + 1 ≤ m from hj)
  rw [ksm, if_neg hk] at h1
  omega
/-- A sum below 1000 is a sum of what lies not too deep. -/
theorem pw_kid {nd : Nat → NodeC} {l i d : Nat} {e : Bool} (h : pw nd (l + 1) i d e < 1000) {j : Nat} (hj : j < (nd i).kL) (hk : (nd i).kz j ≠ -1) :
    d ≤ 8 ∧ pw nd l ((nd i).kz j).toNat (if inl (nd i) then d else d + 1) (inl (nd i)) < 1000 := by
  rw [pw] at h
  by_cases hd : 8 < d
  · rw [if_pos hd] at h; omega
  · rw [if_neg hd] at h
    have := ksm_kid (f := fun k => pw nd l k (if inl (nd i) then d else d + 1) (inl (nd i))) hj hk
    exact ⟨by omega, by omega⟩
theorem cn_stable {n : Nat} {nd : Nat → NodeC} (h : Tok n nd) (l : Nat) : ∀ i d e, i < n → pw nd l i d e < 1000 → cn nd (l + 1) i = cn nd l i := by
  induction l with
  | zero => intro i d e hi hp; rw [pw] at hp; omega
  | succ l ih =>
    intro i d e hi hp
    have e1 : cn nd (l + 1 + 1) i = 1 + ksm (cn nd (l + 1)) (nd i).kz (nd i).kL := by rw [cn]
    have e2 : cn nd (l + 1) i = 1 + ksm (cn nd l) (nd i).kz (nd i).kL := by rw [cn]
    rw [e1, e2]
    congr 1
    apply ksm_congr
    intro j hj hk
    have hkid := h.kid hi hj hk
    exact ih _ _ _ hkid.2.1 (pw_kid hp hj hk).2
/-- The law's walk starts with 20. -/
def cnr (nd : Nat → NodeC) (i : Nat) : Nat := cn nd 20 i
theorem cn_step' {n : Nat} {nd : Nat → NodeC} (h : Tok n nd) (l : Nat) {i d : Nat} {e : Bool} (hi : i < n) (hp : pw nd (l + 1) i d e < 1000) : cn nd (l + 1) i = 1 + ksm (cn nd (l + 1)) (nd i).kz (nd i).kL := by
  have e2 : cn nd (l + 1) i = 1 + ksm (cn nd l) (nd i).kz (nd i).kL := by rw [cn]
  rw [e2]
  congr 1
  apply ksm_congr
  intro j hj hk
  have hkid := h.kid hi hj hk
  exact (cn_stable h l _ _ _ hkid.2.1 (pw_kid hp hj hk).2).symm
theorem cn_step {n : Nat} {nd : Nat → NodeC} (h : Tok n nd) {i d : Nat} {e : Bool} (hi : i < n) (hp : pwr nd i d e < 1000) : cnr nd i = 1 + ksm (cnr nd) (nd i).kz (nd i).kL :=
  cn_step' h 19 hi hp
theorem pwr_kid {n : Nat} {nd : Nat → NodeC} (h : Tok n nd) {i d : Nat} {e : Bool} (hi : i < n) (h1 : 1 ≤ d) (hp : pwr nd i d e < 1000) {j : Nat} (hj : j < (nd i).kL) (hk : (nd i).kz j ≠ -1) :
    d ≤ 8 ∧ pwr nd ((nd i).kz j).toNat (if inl (nd i) then d else d + 1) (inl (nd i)) < 1000 := by
  have hd : d ≤ 8 := by
    by_cases hd : 8 < d
    · rw [pw_deep nd i d e hd] at hp; omega
    · omega
  refine ⟨hd, ?_⟩
  rw [pw_step h hi h1 hd] at hp
  have := ksm_kid (f := fun k => pwr nd k (if inl (nd i) then d else d + 1) (inl (nd i))) hj hk
  omega
theorem cnr_pos {n : Nat} {nd : Nat → NodeC} (h : Tok n nd) {i d : Nat} {e : Bool} (hi : i < n) (hp : pwr nd i d e < 1000) : 1 ≤ cnr nd i := by
  rw [cn_step h hi hp]; omega
/-- The sum over the nodes that wait, from i on, r of them. -/
def cS (nd : Nat → NodeC) (dep : Nat → Nat) : Nat → Nat → Nat
  | _, 0 => 0
  | i, r + 1 => (if dep i = 0 then 0 else cnr nd i) + cS nd dep (i + 1) r
theorem cS_congr {nd : Nat → NodeC} {dep dep' : Nat → Nat} (r : Nat) : ∀ i, (∀ k, i ≤ k → dep k = dep' k) → cS nd dep i r = cS nd dep' i r := by
  induction r with
  | zero => intro i h; rfl
  | succ r ih =>
    intro i h
    rw [cS, cS, ih (i + 1) fun k hk => h k (by omega), h i (by omega)]
theorem cS_put {nd : Nat → NodeC} {dep : Nat → Nat} {k v : Nat} (hv : v ≠ 0) (hk0 : dep k = 0) (r : Nat) : ∀ i, i ≤ k → k < i + r → cS nd (putF dep k v) i r = cS nd dep i r + cnr nd k := by
  induction r with
  | zero => intro i h1 h2; omega
  | succ r ih =>
    intro i h1 h2
    rw [cS, cS]
    by_cases hik : i = k
    · subst hik
      rw [cS_congr (dep := putF dep i v) (dep' := dep) r (i + 1) fun x hx => by simp [putF, show x ≠ i by omega]]
      simp [putF, hv, hk0]
      omega
    · rw [ih (i + 1) (by omega) (by omega)]
      simp only [putF, if_neg hik]
      omega
theorem ckids_put {n : Nat} {root : Int} {nd : Nat → NodeC} (hl : Links n root nd) (ht : Tok n nd) {i r v : Nat} (hv : v ≠ 0) (hi : i < n) (hr : i + 1 + r = n) {dep : Nat → Nat} (hw : Wait n root nd dep i 0) (m : Nat) (hm : m ≤ (nd i).kL)
    (P : Nat → Nat → Prop) (hP0 : ∀ k, dep k ≠ 0 → P k (dep k)) (hPk : ∀ j, j < m → (nd i).kz j ≠ -1 → P ((nd i).kz j).toNat v) :
    ∃ dep', cS nd dep' (i + 1) r = cS nd dep (i + 1) r + ksm (cnr nd) (nd i).kz m ∧ Wait n root nd dep' i m ∧ ∀ k, dep' k ≠ 0 → P k (dep' k) := by
  induction m with
  | zero => exact ⟨dep, by simp [ksm], hw, hP0⟩
  | succ m ih =>
    obtain ⟨dep', h1, h2, h3⟩ := ih (by omega) fun j hj => hPk j (by omega)
    by_cases hk : (nd i).kz m = -1
    · exact ⟨dep', by simp [ksm, hk, h1], h2.skip, h3⟩
    · have hkid := ht.kid hi (show m < _ by omega) hk
      refine ⟨putF dep' ((nd i).kz m).toNat v, ?_, h2.put ht hi (by omega) hk, ?_⟩
      · rw [cS_put hv (h2.free hl ht hi (by omega) hk) r (i + 1) (by omega) (by omega), h1]
        simp [ksm, hk]
        omega
      · intro k hkk
        unfold putF at hkk ⊢
        by_cases hkz : k = ((nd i).kz m).toNat
        · rw [if_pos hkz, hkz]; exact hPk m (by omega) hk
        · rw [if_neg hkz] at hkk ⊢; exact h3 k hkk
theorem cS_le {n : Nat} {root : Int} {nd : Nat → NodeC} (hl : Links n root nd) (ht : Tok n nd) (r : Nat) : ∀ i dep, i + r = n → Wait n root nd dep i 0 → (∀ k, dep k ≠ 0 → ∃ e, pwr nd k (dep k) e < 1000) → cS nd dep i r ≤ r := by
  induction r with
  | zero => intro i dep h hw hp; simp [cS]
  | succ r ih =>
    intro i dep h hw hp
    rw [cS]
    by_cases hd : dep i = 0
    · have := ih (i + 1) dep (by omega) hw.pass hp
      simp [hd]
      omega
    · rw [if_neg hd]
      obtain ⟨e, he⟩ := hp i hd
      have h8 : dep i ≤ 8 := by
        by_cases h8 : 8 < dep i
        · rw [pw_deep nd i _ e h8] at he; omega
        · omega
      obtain ⟨dep', h1, h2, h3⟩ := ckids_put hl ht (v := if inl (nd i) then dep i else dep i + 1) (r := r) (by split <;> omega) (show i < n by omega) (by omega) hw (nd i).kL (Nat.le_refl _) (fun k d => ∃ e, pwr nd k d e < 1000) hp (fun j hj hk => ⟨_, (pwr_kid ht (by omega) (by omega) he hj hk).2⟩)
      have h4 := ih (i + 1) dep' (by omega) h2.next h3
      rw [cn_step ht (by omega) he]
      omega
theorem cS_none {nd : Nat → NodeC} (r : Nat) : ∀ i, cS nd (fun _ => 0) i r = 0 := by
  induction r with
  | zero => intro i; rfl
  | succ r ih => intro i; rw [cS, ih]; simp
theorem cn_root_le {n root : Nat} {nd : Nat → NodeC} (hl : Links n root nd) (ht : Tok n nd) (hr : root < n) (hp : pwr nd root 1 false < 1000) : cnr nd root ≤ n := by
  have h := cS_put (nd := nd) (dep := fun _ => 0) (k := root) (v := 1) (by omega) rfl (n - root) root (Nat.le_refl _) (by omega)
  rw [cS_none, Nat.zero_add] at h
  have := cS_le hl ht (n - root) root (dep0 root) (by omega) (wait_root root) (by
    intro k hk
    by_cases hkr : k = root
    · subst hkr; exact ⟨false, by simpa [dep0, putF] using hp⟩
    · simp [dep0, putF, hkr] at hk)
  unfold dep0 at this
  omega
end Go.Proofs.Ygcfah
