/- The trees: what Check means, with no Go in sight. -/
import Derived.Test.YgcfahTr2
namespace Go.Proofs.Ygcfah
open Go.RowKit
set_option linter.unusedVariables false
set_option linter.unusedSimpArgs false
/-- How often k stands among the first m kids. -/
def occN (kz : Nat → Int) (k : Int) : Nat → Nat
  | 0 => 0
  | m + 1 => occN kz k m + (if kz m = k then 1 else 0)
/-- How often k stands among the kids of the first nodes. -/
def occ (nd : Nat → NodeC) (k : Int) : Nat → Nat
  | 0 => 0
  | i + 1 => occ nd k i + occN (nd i).kz k (nd i).kL
theorem occN_mono (kz : Nat → Int) (k : Int) {m m' : Nat} (h : m ≤ m') : occN kz k m ≤ occN kz k m' := by
  induction m' with
  | zero => rw [show m = 0 by omega]; exact Nat.le_refl _
  | succ x ih =>
    by_cases hx : m ≤ x
    · have := ih hx; simp only [occN]; omega
    · rw [show m = x + 1 by omega]; exact Nat.le_refl _
theorem occ_mono (nd : Nat → NodeC) (k : Int) {m m' : Nat} (h : m ≤ m') : occ nd k m ≤ occ nd k m' := by
  induction m' with
  | zero => rw [show m = 0 by omega]; exact Nat.le_refl _
  | succ x ih =>
    by_cases hx : m ≤ x
    · have := ih hx; simp only [occ]; omega
    · rw [show m = x + 1 by omega]; exact Nat.le_refl _
theorem occ_part (nd : Nat → NodeC) (k : Int) {i n m : Nat} (h : i < n) (hm : m ≤ (nd i).kL) : occ nd k i + occN (nd i).kz k m ≤ occ nd k n := by
  have h1 := occ_mono nd k (show i + 1 ≤ n from h)
  have h2 := occN_mono (nd i).kz k hm
  simp only [occ] at h1
  omega

def Links (n : Nat) (root : Int) (nd : Nat → NodeC) : Prop := ∀ k : Nat, k < n → occ nd k n ≤ 1 ∧ ((k : Int) = root → occ nd k n = 0)
def Kab (n : Nat) (nd : Nat → NodeC) (i : Nat) : Prop := ∀ j, j < (nd i).kL → (nd i).kz j ≠ -1 → (i : Int) < (nd i).kz j ∧ (nd i).kz j < n
/-- The least number too great for an element of the code. -/
def elTop (code : Int) : Int := if code = 2 then 256 else if code = 3 then 65536 else if code = 4 then 4294967296 else 18446744073709551616
def Shp (nd : Nat → NodeC) (i : Nat) : Prop :=
  ((nd i).kind = 1 ∧ (nd i).code = 0 ∧ (nd i).dL ≤ 8 ∧ (nd i).kL ≤ 8) ∨
  ((nd i).kind = 2 ∧ (nd i).dL ≤ 128 ∧ (nd i).kL ≤ 128 ∧
    ((2 ≤ (nd i).code ∧ (nd i).code ≤ 5 ∧ (nd i).kL = 0 ∧ ∀ j, j < (nd i).dL → (nd i).dz j < elTop (nd i).code) ∨
     ((nd i).code = 6 ∧ (nd i).dL = 0) ∨
     ((nd i).code = 7 ∧ (nd i).dL = 0 ∧ ∀ j, j < (nd i).kL → (nd i).kz j ≠ -1 ∧ (nd ((nd i).kz j).toNat).kind = 1)))
def PShp (n : Nat) (nd : Nat → NodeC) (i : Nat) : Prop :=
  ((nd i).kind = 1 ∧ (nd i).code = 0 ∧ (nd i).dL ≤ 8 ∧ (nd i).kL ≤ 8) ∨
  ((nd i).kind = 2 ∧ (nd i).dL ≤ 128 ∧ (nd i).kL ≤ 128 ∧
    ((2 ≤ (nd i).code ∧ (nd i).code ≤ 5 ∧ (nd i).kL = 0 ∧ ∀ j, j < (nd i).dL → (nd i).dz j < elTop (nd i).code) ∨
     ((nd i).code = 6 ∧ (nd i).dL = 0) ∨
     ((nd i).code = 7 ∧ (nd i).dL = 0 ∧ ∀ j, j < (nd i).kL → 0 ≤ (nd i).kz j ∧ (nd i).kz j < n ∧ (nd ((nd i).kz j).toNat).kind = 1)))
theorem shp_pshp {n : Nat} {nd : Nat → NodeC} {i : Nat} (hk : Kab n nd i) : Shp nd i ↔ PShp n nd i := by
  unfold Shp PShp
  have e : (∀ j, j < (nd i).kL → (nd i).kz j ≠ -1 ∧ (nd ((nd i).kz j).toNat).kind = 1) ↔ (∀ j, j < (nd i).kL → 0 ≤ (nd i).kz j ∧ (nd i).kz j < n ∧ (nd ((nd i).kz j).toNat).kind = 1) := by
    constructor
    · intro h j hj
      have h1 := h j hj
      have h2 := hk j hj h1.1
      exact ⟨by omega, h2.2, h1.2⟩
    · intro h j hj
      have h1 := h j hj
      exact ⟨by omega, h1.2.2⟩
  rw [e]
/-- The lists of structs. -/
def inl (nd : NodeC) : Bool := nd.kind == 2 && nd.code == 7
/-- What the kids of a list keep at the most. -/
def evD (nd : Nat → NodeC) (kz : Nat → Int) : Nat → Nat
  | 0 => 0
  | m + 1 => max (evD nd kz m) (trimC 0 (nd (kz m).toNat).dz (nd (kz m).toNat).dL)
def evP (nd : Nat → NodeC) (kz : Nat → Int) : Nat → Nat
  | 0 => 0
  | m + 1 => max (evP nd kz m) (trimC (-1) (nd (kz m).toNat).kz (nd (kz m).toNat).kL)
def evSum (nd : Nat → NodeC) (i : Nat) : Nat :=
  if 0 < (nd i).kL ∧ evD nd (nd i).kz (nd i).kL + evP nd (nd i).kz (nd i).kL = 0 then 1 else evD nd (nd i).kz (nd i).kL + evP nd (nd i).kz (nd i).kL
def elW (code : Int) : Nat := if code = 2 then 1 else if code = 3 then 2 else if code = 4 then 4 else 8
/-- The words of a node's object. -/
def wds (nd : Nat → NodeC) (i : Nat) : Nat :=
  if (nd i).kind = 1 then trimC 0 (nd i).dz (nd i).dL + trimC (-1) (nd i).kz (nd i).kL
  else if (nd i).code = 6 then (nd i).kL
  else if (nd i).code = 7 then 1 + (nd i).kL * evSum nd i
  else ((nd i).dL * elW (nd i).code + 7) / 8
def ownW (nd : Nat → NodeC) (i : Nat) : Nat := min (wds nd i) 257
/-- The sum over the kids. -/
def ksm (f : Nat → Nat) (kz : Nat → Int) : Nat → Nat
  | 0 => 0
  | m + 1 => ksm f kz m + (if kz m = -1 then 0 else f (kz m).toNat)
/-- The words of what hangs from a node; 1000 for what lies too deep. -/
def pw (nd : Nat → NodeC) : Nat → Nat → Nat → Bool → Nat
  | 0, _, _, _ => 1000
  | l + 1, i, d, e => if 8 < d then 1000 else (if e then 0 else ownW nd i) + ksm (fun k => pw nd l k (if inl (nd i) then d else d + 1) (inl (nd i))) (nd i).kz (nd i).kL
theorem ksm_congr {f g : Nat → Nat} {kz : Nat → Int} {m : Nat} (h : ∀ j, j < m → kz j ≠ -1 → f (kz j).toNat = g (kz j).toNat) : ksm f kz m = ksm g kz m := by
  induction m with
  | zero => rfl
  | succ m ih =>
    simp only [ksm]
    rw [ih fun j hj => h j (by omega)]
    by_cases hk : kz m = -1
    · simp [hk]
    · simp [hk, h m (by omega) hk]
theorem ksm_mono (f : Nat → Nat) (kz : Nat → Int) {m m' : Nat} (h : m ≤ m') : ksm f kz m ≤ ksm f kz m' := by
  induction m' with
  | zero => rw [show m = 0 by omega]; exact Nat.le_refl _
  | succ x ih =>
    by_cases hx : m ≤ x
    · have := ih hx; simp only [ksm]; omega
    · rw [show m = x + 1 by omega]; exact Nat.le_refl _
structure Tok (n : Nat) (nd : Nat → NodeC) : Prop where
  kab : ∀ i, i < n → Kab n nd i
  shp : ∀ i, i < n → Shp nd i
theorem Tok.kid {n : Nat} {nd : Nat → NodeC} (h : Tok n nd) {i j : Nat} (hi : i < n) (hj : j < (nd i).kL) (hk : (nd i).kz j ≠ -1) : i < ((nd i).kz j).toNat ∧ ((nd i).kz j).toNat < n ∧ ((((nd i).kz j).toNat : Nat) : Int) = (nd i).kz j := by
  have := h.kab i hi j hj hk
  omega
theorem Tok.inl_kid {n : Nat} {nd : Nat → NodeC} (h : Tok n nd) {i j : Nat} (hi : i < n) (hj : j < (nd i).kL) (hk : (nd i).kz j ≠ -1) (hin : inl (nd i) = true) : inl (nd ((nd i).kz j).toNat) = false := by
  have hs := h.shp i hi
  simp [inl] at hin
  unfold Shp at hs
  have h1 : (nd ((nd i).kz j).toNat).kind = 1 := by
    rcases hs with h1 | ⟨_, _, _, h2 | h2 | h2⟩
    · omega
    · omega
    · omega
    · exact (h2.2.2 j hj).2
  simp [inl, h1]
def need (nd : Nat → NodeC) (i d : Nat) : Nat := if 8 < d then 0 else 2 * (8 - d) + (if inl (nd i) then 2 else 1)
theorem pw_stable {n : Nat} {nd : Nat → NodeC} (h : Tok n nd) (l : Nat) : ∀ i d e, i < n → need nd i d ≤ l → pw nd (l + 1) i d e = pw nd l i d e := by
  induction l with
  | zero =>
    intro i d e hi hl
    have : 8 < d := by
      unfold need at hl
      split at hl
      · assumption
      · split at hl <;> omega
    simp [pw, this]
  | succ l ih =>
    intro i d e hi hl
    rw [pw, pw]
    by_cases hd : 8 < d
    · simp [hd]
    · simp only [hd, if_false]
      congr 1
      apply ksm_congr
      intro j hj hk
      have hkid := h.kid hi hj hk
      apply ih _ _ _ hkid.2.1
      unfold need at hl ⊢
      rw [if_neg hd] at hl
      cases hin : inl (nd i) with
      | true =>
        have := h.inl_kid hi hj hk hin
        rw [hin] at hl
        simp [this, hd]
        simp at hl
        omega
      | false =>
        rw [hin] at hl
        simp at hl
        simp
        split
        · omega
        · split <;> omega
theorem pw_step' {n : Nat} {nd : Nat → NodeC} (h : Tok n nd) (l : Nat) (hl : 16 ≤ l) {i d : Nat} {e : Bool} (hi : i < n) (h1 : 1 ≤ d) (h8 : d ≤ 8) :
    pw nd (l + 1) i d e = (if e then 0 else ownW nd i) + ksm (fun k => pw nd (l + 1) k (if inl (nd i) then d else d + 1) (inl (nd i))) (nd i).kz (nd i).kL := by
  have e1 : pw nd (l + 1) i d e = if 8 < d then 1000 else (if e then 0 else ownW nd i) + ksm (fun k => pw nd l k (if inl (nd i) then d else d + 1) (inl (nd i))) (nd i).kz (nd i).kL := by rw [pw]
  rw [e1, if_neg (by omega)]
  congr 1
  apply ksm_congr
  intro j hj hk
  have hkid := h.kid hi hj hk
  refine (pw_stable h l _ _ _ hkid.2.1 ?_).symm
  have h2 : ∀ x, 1 ≤ x → need nd ((nd i).kz j).toNat x ≤ 16 := by
    intro x hx
    unfold need
    split
    · omega
    · split <;> omega
  have := h2 (if inl (nd i) then d else d + 1) (by split <;> omega)
  omega
theorem pw_deep' (nd : Nat → NodeC) (l i d : Nat) (e : Bool) (h : 8 < d) : pw nd l i d e = 1000 := by
  cases l with
  | zero => rw [pw]
  | succ l => rw [pw, if_pos h]
/-- The law's walk starts with 20. -/
def pwr (nd : Nat → NodeC) (i d : Nat) (e : Bool) : Nat := pw nd 20 i d e
theorem pw_deep (nd : Nat → NodeC) (i d : Nat) (e : Bool) (h : 8 < d) : pwr nd i d e = 1000 := pw_deep' nd 20 i d e h
theorem pw_step {n : Nat} {nd : Nat → NodeC} (h : Tok n nd) {i d : Nat} {e : Bool} (hi : i < n) (h1 : 1 ≤ d) (h8 : d ≤ 8) :
    pwr nd i d e = (if e then 0 else ownW nd i) + ksm (fun k => pwr nd k (if inl (nd i) then d else d + 1) (inl (nd i))) (nd i).kz (nd i).kL := pw_step' h 19 (by omega) hi h1 h8
/-- The sum over the nodes that wait, from i on, r of them. -/
def pS (nd : Nat → NodeC) (dep : Nat → Nat) (elm : Nat → Bool) : Nat → Nat → Nat
  | _, 0 => 0
  | i, r + 1 => (if dep i = 0 then 0 else pwr nd i (dep i) (elm i)) + pS nd dep elm (i + 1) r
theorem pS_congr {nd : Nat → NodeC} {dep dep' : Nat → Nat} {elm elm' : Nat → Bool} (r : Nat) : ∀ i, (∀ k, i ≤ k → dep k = dep' k ∧ elm k = elm' k) → pS nd dep elm i r = pS nd dep' elm' i r := by
  induction r with
  | zero => intro i h; rfl
  | succ r ih =>
    intro i h
    rw [pS, pS, ih (i + 1) fun k hk => h k (by omega), (h i (by omega)).1, (h i (by omega)).2]
def putF {α : Type} (f : Nat → α) (k : Nat) (v : α) : Nat → α := fun x => if x = k then v else f x
theorem pS_put {nd : Nat → NodeC} {dep : Nat → Nat} {elm : Nat → Bool} {k v : Nat} {e : Bool} (hv : v ≠ 0) (hk0 : dep k = 0) (r : Nat) : ∀ i, i ≤ k → k < i + r → pS nd (putF dep k v) (putF elm k e) i r = pS nd dep elm i r + pwr nd k v e := by
  induction r with
  | zero => intro i h1 h2; omega
  | succ r ih =>
    intro i h1 h2
    rw [pS, pS]
    by_cases hik : i = k
    · subst hik
      rw [pS_congr (dep := putF dep i v) (dep' := dep) (elm := putF elm i e) (elm' := elm) r (i + 1) fun x hx => by simp [putF, show x ≠ i by omega]]
      simp [putF, hv, hk0]
      omega
    · rw [ih (i + 1) (by omega) (by omega)]
      simp only [putF, if_neg hik]
      omega
/-- Who waits has been met as a kid, or is the root. -/
def Wait (n : Nat) (root : Int) (nd : Nat → NodeC) (dep : Nat → Nat) (i m : Nat) : Prop := ∀ k, k < n → dep k ≠ 0 → (k : Int) = root ∨ 1 ≤ occ nd k i + occN (nd i).kz k m
theorem Wait.free {n : Nat} {root : Int} {nd : Nat → NodeC} {dep : Nat → Nat} {i m : Nat} (h : Wait n root nd dep i m) (hl : Links n root nd) (ht : Tok n nd) (hi : i < n) (hm : m < (nd i).kL) (hk : (nd i).kz m ≠ -1) : dep ((nd i).kz m).toNat = 0 := by
  have hkid := ht.kid hi hm hk
  have h1 := hl _ hkid.2.1
  have h2 := occ_part nd ((((nd i).kz m).toNat : Nat) : Int) hi (show m + 1 ≤ (nd i).kL from hm)
  simp only [occN, hkid.2.2, if_true] at h2
  rw [hkid.2.2] at h1
  by_cases h0 : dep ((nd i).kz m).toNat = 0
  · exact h0
  · have h3 := h _ hkid.2.1 h0
    rw [hkid.2.2] at h3
    rcases h3 with h3 | h3
    · have := h1.2 h3; omega
    · omega
theorem Wait.put {n : Nat} {root : Int} {nd : Nat → NodeC} {dep : Nat → Nat} {i m v : Nat} (h : Wait n root nd dep i m) (ht : Tok n nd) (hi : i < n) (hm : m < (nd i).kL) (hk : (nd i).kz m ≠ -1) : Wait n root nd (putF dep ((nd i).kz m).toNat v) i (m + 1) := by
  have hkid := ht.kid hi hm hk
  intro k hkn hd
  simp only [occN]
  by_cases hkk : k = ((nd i).kz m).toNat
  · right
    rw [if_pos (by omega)]
    omega
  · simp only [Ygcfah.putF, if_neg hkk] at hd
    rcases h k hkn hd with h1 | h1
    · exact .inl h1
    · exact .inr (by omega)
theorem Wait.skip {n : Nat} {root : Int} {nd : Nat → NodeC} {dep : Nat → Nat} {i m : Nat} (h : Wait n root nd dep i m) : Wait n root nd dep i (m + 1) := by
  intro k hkn hd
  simp only [occN]
  rcases h k hkn hd with h1 | h1
  · exact .inl h1
  · exact .inr (by omega)
theorem Wait.next {n : Nat} {root : Int} {nd : Nat → NodeC} {dep : Nat → Nat} {i : Nat} (h : Wait n root nd dep i (nd i).kL) : Wait n root nd dep (i + 1) 0 := by
  intro k hkn hd
  simp only [occ, occN]
  rcases h k hkn hd with h1 | h1
  · exact .inl h1
  · exact .inr (by omega)
theorem Wait.pass {n : Nat} {root : Int} {nd : Nat → NodeC} {dep : Nat → Nat} {i : Nat} (h : Wait n root nd dep i 0) : Wait n root nd dep (i + 1) 0 := by
  intro k hkn hd
  simp only [occ, occN]
  rcases h k hkn hd with h1 | h1
  · exact .inl h1
  · simp only [occN] at h1; exact .inr (by omega)
theorem own_le (nd : Nat → NodeC) (i : Nat) : ownW nd i ≤ 257 := by unfold ownW; omega
theorem kids_put {n : Nat} {root : Int} {nd : Nat → NodeC} (hl : Links n root nd) (ht : Tok n nd) {i r v : Nat} {e : Bool} (hv : v ≠ 0) (hi : i < n) (hr : i + 1 + r = n) {dep : Nat → Nat} {elm : Nat → Bool} (hw : Wait n root nd dep i 0) (m : Nat) (hm : m ≤ (nd i).kL) :
    ∃ dep' elm', pS nd dep' elm' (i + 1) r = pS nd dep elm (i + 1) r + ksm (fun k => pwr nd k v e) (nd i).kz m ∧ Wait n root nd dep' i m := by
  induction m with
  | zero => exact ⟨dep, elm, by simp [ksm], hw⟩
  | succ m ih =>
    obtain ⟨dep', elm', h1, h2⟩ := ih (by omega)
    by_cases hk : (nd i).kz m = -1
    · exact ⟨dep', elm', by simp [ksm, hk, h1], h2.skip⟩
    · have hkid := ht.kid hi (show m < _ by omega) hk
      refine ⟨putF dep' ((nd i).kz m).toNat v, putF elm' ((nd i).kz m).toNat e, ?_, h2.put ht hi (by omega) hk⟩
      rw [pS_put hv (h2.free hl ht hi (by omega) hk) r (i + 1) (by omega) (by omega), h1]
      simp [ksm, hk]
      omega
theorem pS_le {n : Nat} {root : Int} {nd : Nat → NodeC} (hl : Links n root nd) (ht : Tok n nd) (r : Nat) : ∀ i dep elm, i + r = n → Wait n root nd dep i 0 → pS nd dep elm i r ≤ 1000 * r := by
  induction r with
  | zero => intro i dep elm h hw; simp [pS]
  | succ r ih =>
    intro i dep elm h hw
    rw [pS]
    by_cases hd : dep i = 0
    · have := ih (i + 1) dep elm (by omega) hw.pass
      simp [hd]
      omega
    · rw [if_neg hd]
      by_cases h8 : dep i ≤ 8
      · obtain ⟨dep', elm', h1, h2⟩ := kids_put hl ht (v := if inl (nd i) then dep i else dep i + 1) (e := inl (nd i)) (r := r) (by split <;> omega) (show i < n by omega) (by omega) (elm := elm) hw (nd i).kL (Nat.le_refl _)
        have h3 := ih (i + 1) dep' elm' (by omega) h2.next
        rw [pw_step ht (by omega) (by omega) h8]
        have := own_le nd i
        have : (if elm i = true then 0 else ownW nd i) ≤ 257 := by split <;> omega
        omega
      · have h3 := ih (i + 1) dep elm (by omega) hw.pass
        have : pwr nd i (dep i) (elm i) = 1000 := pw_deep _ _ _ _ (by omega)
        omega
/-- Only the root waits. -/
def dep0 (root : Nat) : Nat → Nat := putF (fun _ => 0) root 1
theorem pS_none {nd : Nat → NodeC} {elm : Nat → Bool} (r : Nat) : ∀ i, pS nd (fun _ => 0) elm i r = 0 := by
  induction r with
  | zero => intro i; rfl
  | succ r ih => intro i; rw [pS, ih]; simp
theorem pS_root {nd : Nat → NodeC} {root n : Nat} (hr : root < n) : pS nd (dep0 root) (fun _ => false) root (n - root) = pwr nd root 1 false := by
  have h := pS_put (nd := nd) (dep := fun _ => 0) (elm := fun _ => false) (k := root) (v := 1) (e := false) (by omega) rfl (n - root) root (Nat.le_refl _) (by omega)
  rw [pS_none, Nat.zero_add] at h
  rw [← h]
  exact pS_congr _ _ fun k hk => ⟨rfl, by simp [putF]⟩
theorem wait_root {n : Nat} {root : Nat} {nd : Nat → NodeC} (i : Nat) : Wait n root nd (dep0 root) i 0 := by
  intro k hk hd
  left
  by_cases h : k = root
  · rw [h]
  · simp [dep0, putF, h] at hd
theorem pw_root_le {n root : Nat} {nd : Nat → NodeC} (hl : Links n root nd) (ht : Tok n nd) (hr : root < n) : pwr nd root 1 false ≤ 1000 * n := by
  rw [← pS_root hr]
  have := pS_le hl ht (n - root) root (dep0 root) (fun _ => false) (by omega) (wait_root root)
  omega

/-- A truth as a Bool. -/
noncomputable def pB (P : Prop) : Bool := @decide P (Classical.propDecidable P)
theorem pB_true {P : Prop} (h : P) : pB P = true := by unfold pB; exact @decide_eq_true P (Classical.propDecidable P) h
theorem pB_false {P : Prop} (h : ¬P) : pB P = false := by unfold pB; exact @decide_eq_false P (Classical.propDecidable P) h
theorem pB_congr {P Q : Prop} (h : P ↔ Q) : pB P = pB Q := by rw [propext h]
theorem Below.kept {w w' : World} (h : Below w.heap.size w w') {a : Addr} {v : Value} (hc : w.cell? a = some v) : w'.cell? a = some v := by
  rw [h.cell (World.block_lt_of_cell? w a hc)]
  exact hc
theorem IRow.below {w w' : World} {k : IntKind} {a : Option Addr} {n : Nat} {z : Nat → Int} (h : IRow w k a n z) (hb : Below w.heap.size w w') : IRow w' k a n z := by
  rcases h with h | ⟨b, off, e, h⟩
  · exact .inl h
  · exact .inr ⟨b, off, e, fun i hi => ⟨Below.kept hb (h i hi).1, (h i hi).2⟩⟩
theorem NodeOk.below {w w' : World} {nd : NodeC} (h : NodeOk w nd) (hb : Below w.heap.size w w') : NodeOk w' nd :=
  ⟨h.k, h.c, h.dl, h.kl, h.dm, h.km, h.dn, h.kn, h.d.below hb, h.i.below hb⟩
/-- The nodes of a tree that has some. -/
def NCells (w : World) (b off n : Nat) (nd : Nat → NodeC) : Prop :=
  ∀ i, i < n → NodeOk w (nd i) ∧ w.cell? ⟨b, off + i * 4, none⟩ = some (.int .u8 (nd i).kind) ∧ w.cell? ⟨b, off + i * 4 + 1, none⟩ = some (.int .u8 (nd i).code) ∧ w.cell? ⟨b, off + i * 4 + 2, none⟩ = some (.slice (nd i).dA (nd i).dL (nd i).dC) ∧ w.cell? ⟨b, off + i * 4 + 3, none⟩ = some (.slice (nd i).kA (nd i).kL (nd i).kC)
theorem NCells.below {w w' : World} {b off n : Nat} {nd : Nat → NodeC} (h : NCells w b off n nd) (hb : Below w.heap.size w w') : NCells w' b off n nd := by
  intro i hi
  obtain ⟨h0, h1, h2, h3, h4⟩ := h i hi
  exact ⟨h0.below hb, Below.kept hb h1, Below.kept hb h2, Below.kept hb h3, Below.kept hb h4⟩
end Go.Proofs.Ygcfah
