/- A round of tree.Norm, with no Go in sight. -/
import Derived.Test.YgcfahTqu
namespace Go.Proofs.Ygcfah
set_option linter.unusedVariables false
set_option linter.unusedSimpArgs false
/-- Within round i of the outer loop, j kids done; q is the node, Di and Pi its sections. -/
structure Inn (n : Nat) (nd : Nat → NodeC) (r CR i j N : Nat) (src sD sP gD gP : Nat → Nat) (el : Nat → Bool) (nu : Nat → NodeC) (ku : Nat → Int) (q Di Pi : Nat) : Prop where
  qe : Qe n nd N src sD sP el
  ks : Ks nd i j N src sD sP el ku
  sum : i + 1 + qS nd src (i + 1) (N - (i + 1)) + ksm (cnr nd) (nd q).kz (nd q).kL = CR + ksm (cnr nd) (nd q).kz (min j (nd q).kL)
  iN : i < N
  r0 : src 0 = r
  e0 : el 0 = false
  pn : ∀ c, c < i → PN n nd N nu src sD sP el c
  gs : ∀ c, i + 1 ≤ c → c < N → gD c = sD c ∧ gP c = sP c
  sq : src i = q
  sd : sD i = Di
  sp : sP i = Pi
  oc : ∀ k : Nat, occ nu (k : Nat) i + occN ku (k : Nat) j = if 1 ≤ k ∧ k < N then 1 else 0
  up : ∀ c, c < i → Kab N nu c
/-- At the head of round i of the outer loop. -/
structure Out (n : Nat) (nd : Nat → NodeC) (r CR i N : Nat) (src sD sP gD gP : Nat → Nat) (el : Nat → Bool) (nu : Nat → NodeC) : Prop where
  qe : Qe n nd N src sD sP el
  sum : i + qS nd src i (N - i) = CR
  iN : i ≤ N
  N0 : 0 < N
  r0 : src 0 = r
  e0 : el 0 = false
  gs : ∀ c, i ≤ c → c < N → gD c = sD c ∧ gP c = sP c
  pn : ∀ c, c < i → PN n nd N nu src sD sP el c
  oc : ∀ k : Nat, occ nu (k : Nat) i = if 1 ≤ k ∧ k < N then 1 else 0
  up : ∀ c, c < i → Kab N nu c
theorem Out.start {n : Nat} {nd : Nat → NodeC} {r CR : Nat} {src sD sP : Nat → Nat} {el : Nat → Bool} {nu : Nat → NodeC} (hQ : Qe n nd 1 src sD sP el) (hCR : CR = cnr nd r) (h0 : src 0 = r) (e0 : el 0 = false) : Out n nd r CR 0 1 src sD sP sD sP el nu := by
  refine ⟨hQ, ?_, by omega, by omega, h0, e0, fun c _ _ => ⟨rfl, rfl⟩, fun c hc => absurd hc (by omega), fun k => ?_, fun c hc => absurd hc (by omega)⟩
  · rw [show 1 - 0 = 0 + 1 from rfl, qS, qS, h0, hCR]
    omega
  · rw [if_neg (by omega)]
    rfl
theorem occ_congr {nd nd' : Nat → NodeC} {k : Int} (i : Nat) (h : ∀ c, c < i → nd' c = nd c) : occ nd' k i = occ nd k i := by
  induction i with
  | zero => rfl
  | succ i ih => rw [occ, occ, ih fun c hc => h c (by omega), h i (by omega)]
theorem occN_putF {ku : Nat → Int} {k v : Int} (j m : Nat) (h : m ≤ j) : occN (putF ku j v) k m = occN ku k m := by
  induction m with
  | zero => rfl
  | succ m ih =>
    have hne : m ≠ j := by omega
    rw [occN, occN, ih (by omega)]
    simp [putF, hne]
theorem Inn.start {n : Nat} {nd : Nat → NodeC} {r CR i N : Nat} {src sD sP gD gP : Nat → Nat} {el : Nat → Bool} {nu : Nat → NodeC} (hT : Tok n nd) (h : Out n nd r CR i N src sD sP gD gP el nu) (hiN : i < N) (D P : Nat) (ku : Nat → Int) :
    Inn n nd r CR i 0 N src sD sP (putF gD i D) (putF gP i P) el nu ku (src i) (gD i) (gP i) := by
  refine ⟨h.qe, Ks.start nd i N src sD sP el ku, ?_, hiN, h.r0, h.e0, h.pn, fun c h1 h2 => ?_, rfl, (h.gs i (Nat.le_refl _) hiN).1.symm, (h.gs i (Nat.le_refl _) hiN).2.symm, fun k => ?_, h.up⟩
  · have hsum := h.sum
    rw [show N - i = (N - (i + 1)) + 1 by omega, qS] at hsum
    obtain ⟨d, _, h2⟩ := h.qe.pw i hiN
    rw [cn_step hT (h.qe.lt i hiN) h2] at hsum
    rw [Nat.zero_min, ksm]
    omega
  · have := h.gs c (by omega) h2
    have hne : c ≠ i := by omega
    simpa [putF, hne] using this
  · rw [occN]; exact h.oc k
theorem Inn.null {n : Nat} {nd : Nat → NodeC} {r CR i j N : Nat} {src sD sP gD gP : Nat → Nat} {el : Nat → Bool} {nu : Nat → NodeC} {ku : Nat → Int} {q Di Pi : Nat} (h : Inn n nd r CR i j N src sD sP gD gP el nu ku q Di Pi) (hk : j < (nd q).kL → (nd q).kz j = -1) :
    Inn n nd r CR i (j + 1) N src sD sP gD gP el nu (putF ku j (-1)) q Di Pi := by
  refine ⟨h.qe, h.ks.null (by rw [h.sq]; exact hk), ?_, h.iN, h.r0, h.e0, h.pn, h.gs, h.sq, h.sd, h.sp, fun k => ?_, h.up⟩
  rotate_left
  · rw [occN, occN_putF _ _ (Nat.le_refl _), ← h.oc k]
    have : ¬((-1 : Int) = (k : Nat)) := by omega
    simp [putF, this]
  have := h.sum
  by_cases hj : j < (nd q).kL
  · rw [show min (j + 1) (nd q).kL = j + 1 by omega, ksm, if_pos (hk hj)]
    rw [show min j (nd q).kL = j by omega] at this
    omega
  · rw [show min (j + 1) (nd q).kL = (nd q).kL by omega]
    rw [show min j (nd q).kL = (nd q).kL by omega] at this
    omega
theorem Inn.lt {n : Nat} {nd : Nat → NodeC} {r CR i j N : Nat} {src sD sP gD gP : Nat → Nat} {el : Nat → Bool} {nu : Nat → NodeC} {ku : Nat → Int} {q Di Pi : Nat} (h : Inn n nd r CR i j N src sD sP gD gP el nu ku q Di Pi) (hT : Tok n nd) : N ≤ CR ∧ (j < (nd q).kL → (nd q).kz j ≠ -1 → N < CR) := by
  have h1 := qS_ge (nd := nd) (src := src) (N - (i + 1)) (i + 1) fun k _ hk => h.qe.one hT (by have := h.iN; omega)
  have h2 := h.sum
  have h3 := h.iN
  have h4 := ksm_mono (cnr nd) (nd q).kz (show min j (nd q).kL ≤ (nd q).kL by omega)
  refine ⟨by omega, fun hj hk => ?_⟩
  have h5 := ksm_mono (cnr nd) (nd q).kz (show j + 1 ≤ (nd q).kL by omega)
  rw [ksm, if_neg hk] at h5
  rw [show min j (nd q).kL = j by omega] at h2
  obtain ⟨d, g1, g2⟩ := h.qe.pw i h3
  rw [h.sq] at g2
  have hq : q < n := by have := h.qe.lt i h3; rw [h.sq] at this; exact this
  have h6 := cnr_pos hT (hT.kid hq hj hk).2.1 (pwr_kid hT hq g1 g2 hj hk).2
  omega
theorem Inn.push {n : Nat} {nd : Nat → NodeC} {r CR i j N : Nat} {src sD sP gD gP : Nat → Nat} {el : Nat → Bool} {nu : Nat → NodeC} {ku : Nat → Int} {q Di Pi : Nat} (h : Inn n nd r CR i j N src sD sP gD gP el nu ku q Di Pi) (hT : Tok n nd) (hj : j < (nd q).kL) (hk : (nd q).kz j ≠ -1) {D P z : Nat} (hz : z = ((nd q).kz j).toNat) (hs : Sec nd z (inl (nd q)) D P) (hDP : inl (nd q) = true → D = ev2 nd q ∧ P = evP nd (nd q).kz (nd q).kL) {gD' gP' : Nat → Nat} (hg : ∀ c, c < N → gD' c = gD c ∧ gP' c = gP c) (hgN : gD' N = D ∧ gP' N = P) :
    Inn n nd r CR i (j + 1) (N + 1) (putF src N z) (putF sD N D) (putF sP N P) gD' gP' (putF el N (inl (nd q))) nu (putF ku j ((N : Nat) : Int)) q Di Pi := by
  have hiN := h.iN
  have hsq := h.sq
  have hqn : q < n := by have := h.qe.lt i hiN; rw [hsq] at this; exact this
  subst hz
  have p1 := h.qe.push hT hiN (j := j) (by rw [hsq]; exact hj) (by rw [hsq]; exact hk) (D := D) (P := P) (by rw [hsq]; exact hs)
  have p2 := h.ks.push hiN (by rw [hsq]; exact hj) (by rw [hsq]; exact hk) (D := D) (P := P) (by rw [hsq]; exact hDP)
  rw [hsq] at p1 p2
  have hne : i ≠ N := by omega
  have hne0 : (0 : Nat) ≠ N := by omega
  refine ⟨p1, p2, ?_, by omega, by simp [putF, hne0, h.r0], by simp [putF, hne0, h.e0], fun c hc => (h.pn c hc).grow (by omega) _ _ _ _, fun c h1 h2 => ?_, by simp [putF, hne, hsq], by simp [putF, hne, h.sd], by simp [putF, hne, h.sp], fun k => ?_, fun c hc x hx hz => ?_⟩
  · have h1 := h.sum
    rw [show min j (nd q).kL = j by omega] at h1
    rw [show min (j + 1) (nd q).kL = j + 1 by omega, ksm, if_neg hk, qS_push (by omega)]
    omega
  · by_cases hcN : c = N
    · subst hcN; simpa [putF] using hgN
    · have g1 := hg c (by omega)
      have g2 := h.gs c h1 (by omega)
      simp only [putF, if_neg hcN]
      exact ⟨g1.1.trans g2.1, g1.2.trans g2.2⟩
  · rw [occN, occN_putF _ _ (Nat.le_refl _)]
    have h1 := h.oc k
    by_cases hkN : k = N
    · subst hkN
      rw [if_neg (by omega)] at h1
      have e1 : putF ku j ((k : Nat) : Int) j = (k : Nat) := by simp [putF]
      have e2 : (1 ≤ k ∧ k < k + 1) := by omega
      rw [e1, if_pos rfl, if_pos e2]
      omega
    · have : ¬(((N : Nat) : Int) = (k : Nat)) := by omega
      simp only [putF, if_true, if_neg this]
      rw [Nat.add_zero, h1]
      by_cases hk1 : 1 ≤ k ∧ k < N
      · rw [if_pos hk1, if_pos (by omega)]
      · rw [if_neg hk1, if_neg (by omega)]
  · have := h.up c hc x hx hz
    omega
theorem ksm_trim (f : Nat → Nat) (kz : Nat → Int) (L m : Nat) (h : trimC (-1) kz L ≤ m) : ksm f kz (min m L) = ksm f kz L := by
  induction L with
  | zero => rw [Nat.min_zero]
  | succ L ih =>
    by_cases hm : L + 1 ≤ m
    · rw [Nat.min_eq_right hm]
    · rw [trimC] at h
      by_cases hz : kz L = -1
      · rw [if_pos hz] at h
        have := ih h
        rw [show min m (L + 1) = min m L by omega, this]
        show _ = ksm f kz L + _
        rw [if_pos hz]
        rfl
      · rw [if_neg hz] at h; omega
theorem szw_szw (z : Nat → Int) (L D : Nat) (h : trimC 0 z L ≤ D) (k : Nat) : szw z L k = szw (szw z L) D k := by
  unfold szw
  by_cases hk : k < D
  · rw [if_pos hk]
  · rw [if_neg hk]
    exact trimC_end 0 z L k (by omega)
/-- The sections of the node that is made. -/
theorem Inn.secs {n : Nat} {nd : Nat → NodeC} {r CR i j N : Nat} {src sD sP gD gP : Nat → Nat} {el : Nat → Bool} {nu : Nat → NodeC} {ku : Nat → Int} {q Di Pi : Nat} (h : Inn n nd r CR i j N src sD sP gD gP el nu ku q Di Pi) (hT : Tok n nd) {D P : Nat} (hD : D = if (nd q).kind = 2 then (nd q).dL else Di) (hP : P = if (nd q).kind = 2 then (nd q).kL else Pi) :
    D ≤ 128 ∧ P ≤ 128 ∧ trimC 0 (nd q).dz (nd q).dL ≤ D ∧ trimC (-1) (nd q).kz (nd q).kL ≤ P := by
  have hqn : q < n := by have := h.qe.lt i h.iN; rw [h.sq] at this; exact this
  have t1 := trimC_le 0 (nd q).dz (nd q).dL
  have t2 := trimC_le (-1) (nd q).kz (nd q).kL
  have hk := hT.kl hqn
  by_cases h2 : (nd q).kind = 2
  · rw [if_pos h2] at hD hP
    omega
  · rw [if_neg h2] at hD hP
    have hs := hT.shp q hqn
    unfold Shp at hs
    have h1 : (nd q).kind = 1 := by omega
    have := h.qe.sec i h.iN
    rw [h.sq, h.sd, h.sp] at this
    have := this h1
    omega
theorem Inn.done {n : Nat} {nd : Nat → NodeC} {r CR i j N : Nat} {src sD sP gD gP : Nat → Nat} {el : Nat → Bool} {nu : Nat → NodeC} {ku : Nat → Int} {q Di Pi : Nat} (h : Inn n nd r CR i j N src sD sP gD gP el nu ku q Di Pi) (hT : Tok n nd) {D : Nat} (hD : D = if (nd q).kind = 2 then (nd q).dL else Di) (hP : j = if (nd q).kind = 2 then (nd q).kL else Pi) {y : NodeC} (y1 : y.kind = (nd q).kind) (y2 : y.code = (nd q).code) (y3 : y.dL = D) (y4 : y.dz = szw (nd q).dz (nd q).dL) (y5 : y.kL = j) (y6 : y.kz = ku) :
    Out n nd r CR (i + 1) N src sD sP gD gP el (putF nu i y) := by
  obtain ⟨s1, s2, s3, s4⟩ := h.secs hT hD hP
  have hqn : q < n := by have := h.qe.lt i h.iN; rw [h.sq] at this; exact this
  have hiN := h.iN
  refine ⟨h.qe, ?_, by omega, by omega, h.r0, h.e0, fun c h1 h2 => h.gs c h1 h2, fun c hc => ?_, fun k => ?_, fun c hc => ?_⟩
  · have := h.sum
    rw [ksm_trim _ _ _ _ s4] at this
    omega
  · by_cases hci : c = i
    · subst hci
      have e : putF nu c y c = y := by simp [putF]
      refine ⟨h.qe.lt c h.iN, ?_, ?_, ?_, ?_, ?_, ?_, ?_, ?_⟩
      · rw [e, h.sq, y1]
      · rw [e, h.sq, y2]
      · rw [e, h.sq, y3, y4]
        exact szw_szw _ _ _ s3
      · rw [e, h.sq]
        intro h2
        rw [if_pos h2] at hD hP
        omega
      · rw [e, h.sq, h.sd, h.sp]
        intro h1
        rw [if_neg (by omega)] at hD hP
        omega
      · have := h.qe.sec c h.iN
        rw [h.sq, h.sd, h.sp] at this ⊢
        intro h1
        have := this h1
        exact ⟨this.1, this.2.2.1, this.2.2.2.1, this.2.2.2.2⟩
      · rw [e, y5, y6]
        intro x hx hx2 hz
        obtain ⟨c', g1, g2, g3, g4, g5, g6⟩ := h.ks.kid x hx hx2 hz
        exact ⟨c', g1, g3, g4, g5, g6⟩
      · rw [e, y5, y6]
        intro x hx hx2
        exact h.ks.no x hx hx2
    · exact (h.pn c (by omega)).nodes (by simp [putF, hci])
  · have e : putF nu i y i = y := by simp [putF]
    rw [occ, e, y5, y6, occ_congr i (nd' := putF nu i y) (nd := nu) fun c hc => ?_]
    · exact h.oc k
    · have hne : c ≠ i := by omega
      simp [putF, hne]
  · by_cases hci : c = i
    · subst hci
      intro x
      rw [show putF nu c y c = y from by simp [putF], y5, y6]
      intro hx hz
      by_cases hx2 : x < (nd (src c)).kL ∧ (nd (src c)).kz x ≠ -1
      · obtain ⟨c', g1, g2, g3, _⟩ := h.ks.kid x hx hx2.1 hx2.2
        omega
      · refine absurd (h.ks.no x hx fun h1 => ?_) hz
        rcases Classical.em ((nd (src c)).kz x = -1) with h2 | h2
        · exact h2
        · exact absurd ⟨h1, h2⟩ hx2
    · intro x
      rw [show putF nu i y c = nu c from by simp [putF, hci]]
      exact h.up c (by omega) x
theorem wf_i16 {x : Int} (h : -32768 ≤ x ∧ x ≤ 32767) : (Lit.int .i16 x).wf = true := by
  simp [Lit.wf, IntKind.min, IntKind.max, IntKind.signed, IntKind.bits]; omega
theorem Inn.wf {n : Nat} {nd : Nat → NodeC} {r CR i j N : Nat} {src sD sP gD gP : Nat → Nat} {el : Nat → Bool} {nu : Nat → NodeC} {ku : Nat → Int} {q Di Pi : Nat} (h : Inn n nd r CR i j N src sD sP gD gP el nu ku q Di Pi) (hN : N ≤ 512) : ∀ x, x < j → (Lit.int .i16 (ku x)).wf = true := by
  intro x hx
  apply wf_i16
  by_cases hx2 : x < (nd (src i)).kL ∧ (nd (src i)).kz x ≠ -1
  · obtain ⟨c', g1, g2, g3, _⟩ := h.ks.kid x hx hx2.1 hx2.2
    omega
  · have := h.ks.no x hx fun h1 => by
      rcases Classical.em ((nd (src i)).kz x = -1) with h2 | h2
      · exact h2
      · exact absurd ⟨h1, h2⟩ hx2
    omega
theorem sec_any {n : Nat} {nd : Nat → NodeC} (hT : Tok n nd) {q j z D P : Nat} (hq : q < n) (hj : j < (nd q).kL) (hk : (nd q).kz j ≠ -1) (hz : z = ((nd q).kz j).toNat) (hD : D = if inl (nd q) = true then ev2 nd q else trimC 0 (nd z).dz (nd z).dL) (hP : P = if inl (nd q) = true then evP nd (nd q).kz (nd q).kL else trimC (-1) (nd z).kz (nd z).kL) :
    Sec nd z (inl (nd q)) D P ∧ (inl (nd q) = true → D = ev2 nd q ∧ P = evP nd (nd q).kz (nd q).kL) := by
  subst hz
  by_cases hI : inl (nd q) = true
  · rw [if_pos hI] at hD hP
    rw [hD, hP, hI]
    exact ⟨even_sec hT hq hI hj, fun _ => ⟨rfl, rfl⟩⟩
  · rw [if_neg hI] at hD hP
    have hI2 : inl (nd q) = false := by simpa using hI
    rw [hD, hP, hI2]
    exact ⟨trim_sec hT (hT.kid hq hj hk).2.1, fun h => absurd h (by simp)⟩
end Go.Proofs.Ygcfah
