/- law.mark, whole. -/
import Derived.Test.YgcfahQmark
namespace Go.Proofs.Ygcfah
open Go.RowKit
set_option linter.unusedVariables false
set_option linter.unusedSimpArgs false
set_option maxRecDepth 100000 in
theorem mark_nul (b off len cap : Nat) (z : Int → Int) (g : Nat) (l : Nat) (hle : l ≤ 9) (hl2 : len ≤ 256) (a : Nat) (w : World) (ha : a < len) (hRow : Row w b off len z) (hr : rsn z len a = (WP.nul, true)) :
    Calls Fahg.prog 32 #[.slice (some ⟨b, off, none⟩) len cap, .int .i64 a, .int .i64 ((l + 1 : Nat) : Int), .pointer (some ⟨g, 0, none⟩)] w fun e w' => e = .returned (.bool true) ∧ Below w.heap.size w w' := by
  have hwr : IntKind.u16.wrap (a : Int) = a := by rw [IntKind.wrap_u16]; omega
  have hres := nresolve_in b off len cap a z (by omega) (by omega) hl2 w hRow
  rw [hr] at hres
  simp only [WP.nval, WP.nul] at hres
  have HRS : Hid _ := hres
  clear hres hr hRow
  go_enter Fahg.func32, Fahg.ntmps32
  go_wp2_with fail
  refine Calls.mono HRS.out ?_
  rintro e w1 ⟨rfl, hb1⟩
  have HB1 : Hid _ := hb1
  clear hb1 HRS
  go_wp2_with fail
  go_ret
  exact ⟨rfl, below_alloc HB1.out (Nat.le_refl _) _⟩
theorem drop_map_rangeQ (f : Nat → Nat) (n k : Nat) (h : k < n) : ((List.range n).map f).drop k = f k :: ((List.range n).map f).drop (k + 1) := by
  rw [List.drop_eq_getElem_cons (by simpa using h)]
  simp
theorem resN_null {z : Int → Int} {len a : Nat} (hz : ∀ i, 0 ≤ i → i < (len : Int) → U64 (z i)) (hl2 : len ≤ 256) (ha : a < len) (h : resN z len a = some none) : rsn z len a = (WP.nul, true) := by
  have hsh := nshape z len a (by omega) (by omega) hl2 hz
  unfold resN at h
  cases hr : rsn z len a with
  | mk p ok =>
    rw [hr] at hsh h
    cases ok with
    | false => simp at h
    | true =>
      rcases hsh rfl with hn | hs
      · simp only at hn; rw [hn]
      · have := (shape_ok hl2 hs.s).2
        simp only at this
        simp [this] at h
theorem resN_node {z : Int → Int} {len a : Nat} {nd : Node} (hz : ∀ i, 0 ≤ i → i < (len : Int) → U64 (z i)) (hl2 : len ≤ 256) (ha : a < len) (h : resN z len a = some (some nd)) : ∃ p, rsn z len a = (p, true) ∧ NShape len p ∧ nd = nodeN z p := by
  have hsh := nshape z len a (by omega) (by omega) hl2 hz
  unfold resN at h
  cases hr : rsn z len a with
  | mk p ok =>
    rw [hr] at hsh h
    cases ok with
    | false => simp at h
    | true =>
      rcases hsh rfl with hn | hs
      · simp only at hn; rw [hn] at h; simp [WP.nul] at h
      · have := (shape_ok hl2 hs.s).2
        simp only at this hs
        simp [this] at h
        exact ⟨p, rfl, hs, h.symm⟩
/-- The slots of a shaped pointer are its kids. -/
theorem slots_shape (z : Int → Int) (len : Nat) (hl2 : len ≤ 256) (p : WP) (hp : NShape len p) : ∃ f0 c0 r0 st0 : Nat, (∀ w, Calls Fahg.prog 96 #[p.nval] w fun e w' => e = .returned (slotsV f0 c0 r0 st0) ∧ Below w.heap.size w w') ∧ (nodeOf z p).kids.length = c0 ∧ c0 ≤ 256 ∧
    (∀ k, k < c0 → ∃ y, (nodeOf z p).kids.drop k = y :: (nodeOf z p).kids.drop (k + 1) ∧ y < len ∧ ∀ w, Calls Fahg.prog 97 #[slotsV f0 c0 r0 st0, .int .i64 k] w fun e w' => e = .returned (.int .i64 y) ∧ ∃ cc nq, w' = (w.alloc (.cells cc 185)).drewN nq) := by
  have hkin := kid_in hp.s
  obtain ⟨nl, nn, nb, nk, nm⟩ := shape_node z hl2 hp.s
  obtain ⟨hs, hn, hc2⟩ := hp
  cases hs with
  | struct A D P hD hP hb h1 hw =>
    have hk : (nodeOf z ⟨1, A, D, P, 0, 0⟩).kids = (List.range P).map fun k => A + D + k := by rw [node_struct z A D P hw]
    rw [hk]
    refine ⟨A + D, P, P, D + P, fun w => slots_struct A D P hD hP (by omega) w, by simp, by omega, fun k hk => ⟨A + D + k, drop_map_rangeQ _ _ _ hk, by omega, fun w => ?_⟩⟩
    have := at_x (A + D) P P (D + P) k (by omega) (by omega) (by omega) (by omega) (by rw [Nat.div_eq_of_lt hk]; omega) (by omega) w
    rw [Nat.div_eq_of_lt hk, Nat.mod_eq_of_lt hk, Nat.zero_mul, Nat.add_zero] at this
    exact this
  | list A c C W hc hC hW hb h1 hw =>
    have hC2 : C ≤ 128 := by have : (C : Int) ≤ 128 := hn; omega
    have hc2' : 2 ≤ (c : Int) := hc2 rfl
    by_cases k6 : c = 6
    · subst k6
      have hWC : W = C := by
        have : elBits ((6 : Nat) : Int) = 64 := by simp [elBits]
        rw [this] at hW; omega
      subst hWC
      have hk : (nodeOf z ⟨2, A, 0, 0, ((6 : Nat) : Int), W⟩).kids = (List.range W).map fun k => A + k := by
        have := node_ptrs z A W hw
        rw [show nodeOf z ⟨2, A, 0, 0, ((6 : Nat) : Int), W⟩ = nodeOf z ⟨2, A, 0, 0, 6, W⟩ from rfl, this]
      rw [hk]
      refine ⟨A, W, 1, 1, fun w => slots_ptrs A W hC2 (by omega) w, by simp, by omega, fun k hk => ⟨A + k, drop_map_rangeQ _ _ _ hk, by omega, fun w => ?_⟩⟩
      have := at_x A W 1 1 k (by omega) (by omega) (by omega) (by omega) (by rw [Nat.div_one]; omega) (by omega) w
      rw [Nat.div_one, Nat.mul_one, Nat.mod_one, Nat.add_zero] at this
      exact this
    · have hk : (nodeOf z ⟨2, A, 0, 0, c, C⟩).kids = [] := by rw [node_pad z A C W 0 c (by omega) (by omega) hw]
      rw [hk]
      exact ⟨0, 0, 0, 0, fun w => slots_none A c C (by simp; omega) (by simp; omega) (by omega) w, rfl, by omega, fun k hk => absurd hk (by omega)⟩
  | structs A D P C hD hP hC hA hb hw =>
    have hC2 : C ≤ 128 := by have : (C : Int) ≤ 128 := hn; omega
    have e : kidN ⟨2, A, D, P, 7, C⟩ = C * P := by
      unfold kidN
      rw [if_neg (by simp), if_neg (by simp)]
      by_cases k0 : P = 0
      · subst k0; rw [if_neg (by simp)]; simp
      · rw [if_pos ⟨rfl, by simp only []; omega⟩]; simp
    have e2 : kidAt ⟨2, A, D, P, 7, C⟩ = fun k => A + k / P * (D + P) + D + k % P := by funext k; simp [kidAt]
    have hk : (nodeOf z ⟨2, A, D, P, 7, C⟩).kids = (List.range (C * P)).map fun k => A + k / P * (D + P) + D + k % P := by
      simp only [nodeOf]; rw [e, e2]
    have hCP : C * P ≤ C * (D + P) := Nat.mul_le_mul_left _ (by omega)
    have hcp2 : C * P ≤ 256 := by omega
    rw [hk]
    have hA256 : A ≤ 256 := by generalize C * (D + P) = q at *; omega
    have hi1 : (C : Int) * P ≤ 65536 := by
      have : ((C * P : Nat) : Int) ≤ 65536 := by omega
      simpa using this
    have hi0 : 0 ≤ (C : Int) * P := Int.mul_nonneg (by omega) (by omega)
    refine ⟨A + D, C * P, P, D + P, fun w => slots_structs A D P C hD hP hC2 hA256 hi1 hi0 w, by simp, hcp2, fun k hk => ⟨A + k / P * (D + P) + D + k % P, drop_map_rangeQ _ _ _ hk, ?_, fun w => ?_⟩⟩
    · have hP0 : 0 < P := by
        rcases Nat.eq_zero_or_pos P with h | h
        · subst h; simp at hk
        · exact h
      have := kid_structs A D P C k hP0 hk
      omega
    · have hP0 : 0 < P := by
        rcases Nat.eq_zero_or_pos P with h | h
        · subst h; simp at hk
        · exact h
      have h1 := kid_structs A D P C k hP0 hk
      have := at_x (A + D) (C * P) P (D + P) k (by omega) hP0 (by omega) (by omega) (by omega) (by omega) w
      rw [show A + D + k / P * (D + P) + k % P = A + k / P * (D + P) + D + k % P by omega] at this
      exact this

theorem mark_all (b off len cap : Nat) (z : Int → Int) (hl2 : len ≤ 256) (g : Nat) (hbg : b ≠ g) : ∀ l, l ≤ 8 → MarkOk b off len cap z g l := by
  intro l
  induction l with
  | zero =>
    intro _ a L F sum w ha hc hs hr hb hm
    have hz : ∀ i, 0 ≤ i → i < (len : Int) → U64 (z i) := fun i h h' => (hr i h h').2
    have hrs : resN z len a = some none ∧ L = [] := by
      simp only [collect] at hc
      split at hc
      · rename_i h; simp only [Option.some.injEq] at hc; exact ⟨h, hc.symm⟩
      · cases hc
    obtain ⟨h0, rfl⟩ := hrs
    refine (mark_nul b off len cap z g 0 (by omega) hl2 a w ha hr (resN_null hz hl2 ha h0)).mono ?_
    rintro e w' ⟨rfl, hb'⟩
    exact ⟨rfl, Off.of_below hb', hm.below hb'⟩
  | succ l ih =>
    intro hle a L F sum w ha hc hs hr hb hm
    have IH : Hid (MarkOk b off len cap z g l) := ih (by omega)
    have hz : ∀ i, 0 ≤ i → i < (len : Int) → U64 (z i) := fun i h h' => (hr i h h').2
    simp only [collect] at hc
    cases h0 : resN z len a with
    | none => rw [h0] at hc; cases hc
    | some o =>
      rw [h0] at hc
      cases o with
      | none =>
        simp only [Option.some.injEq] at hc
        subst hc
        refine (mark_nul b off len cap z g (l + 1) (by omega) hl2 a w ha hr (resN_null hz hl2 ha h0)).mono ?_
        rintro e w' ⟨rfl, hb'⟩
        exact ⟨rfl, Off.of_below hb', hm.below hb'⟩
      | some nd =>
        obtain ⟨p, hrs, hsh, rfl⟩ := resN_node hz hl2 ha h0
        simp only [] at hc
        split at hc
        · cases hk : collectL (collect (resN z len) l) (nodeN z p).kids with
          | none => rw [hk] at hc; cases hc
          | some LK =>
            rw [hk] at hc
            simp only [Option.map_some, Option.some.injEq] at hc
            subst hc
            obtain ⟨nl, nn, nb, nk, nm⟩ := shape_node z hl2 hsh.s
            obtain ⟨f0, c0, r0, st0, hSL, hlen, hc1, hat⟩ := slots_shape z len hl2 p hsh
            have pk := (shape_ok hl2 hsh.s).2
            have hlo : (nodeOf z p).lo ≤ 256 := by
              have := hsh.s
              cases this with
              | struct A D P hD hP hb h1 hw => simp at nl; omega
              | list A c C W hc6 hC hW hb h1 hw => rw [if_neg (by simp only []; omega)] at nl; simp only [] at nl; omega
              | structs A D P C hD hP hC hA hb hw => simp at nl; generalize C * (D + P) = q at *; omega
            have hFW : ∀ w, _ := fun w => first_shape z len hl2 p hsh w
            have hWD : ∀ w, _ := fun w => nwords_shape len hl2 p hsh w
            rw [← nn] at hWD
            obtain ⟨p1, p2, p3, p4, p5, p6⟩ := p
            have hws : sum + (nodeOf z ⟨p1, p2, p3, p4, p5, p6⟩).n + wordsL LK ≤ 100000 := by
              simp only [wordsL, nodeN] at hs; omega
            have := mark_x b off len cap z hl2 g l a (by omega) ha w hr hb hbg F sum hm p1 p2 p3 p4 p5 p6 hsh (by simpa using pk) hrs _ _ hFW hWD (by omega) hlo (by omega) (nodeOf z ⟨p1, p2, p3, p4, p5, p6⟩).kids LK hk hws f0 c0 r0 st0 hSL hlen hc1 hat IH
            refine this.mono ?_
            rintro e w' ⟨rfl, ho, hm'⟩
            refine ⟨rfl, ho, ?_⟩
            have e1 : sum + wordsL (nodeN z ⟨p1, p2, p3, p4, p5, p6⟩ :: LK) = sum + (nodeOf z ⟨p1, p2, p3, p4, p5, p6⟩).n + wordsL LK := by
              simp only [wordsL, nodeN]; omega
            rw [e1]
            exact hm'
        · cases hc
end Go.Proofs.Ygcfah
