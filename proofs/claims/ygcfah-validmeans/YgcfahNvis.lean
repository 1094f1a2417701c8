/- vmodel.visit whole, and vmodel.Validate. -/
import Derived.Test.YgcfahNv
namespace Go.Proofs.Ygcfah
open Go.RowKit
set_option linter.unusedVariables false
set_option linter.unusedSimpArgs false

theorem nvis_none (res : Nat → Option (Option Node)) (l : Nat) (s : (Nat → Bool) × Nat) (a : Nat) (h : res a = none) : vis res l s a = none := by cases l <;> simp [vis, h]
theorem nvis_null (res : Nat → Option (Option Node)) (l : Nat) (s : (Nat → Bool) × Nat) (a : Nat) (h : res a = some none) : vis res l s a = some s := by cases l <;> simp [vis, h]
theorem nvis_zero (res : Nat → Option (Option Node)) (s : (Nat → Bool) × Nat) (a : Nat) (nd : Node) (h : res a = some (some nd)) : vis res 0 s a = none := by simp [vis, h]
theorem nvis_succ (res : Nat → Option (Option Node)) (l : Nat) (s : (Nat → Bool) × Nat) (a : Nat) (nd : Node) (h : res a = some (some nd)) :
    vis res (l + 1) s a = if free s.1 nd.lo nd.n && nd.pad then visL (vis res l) (join s.1 nd.lo nd.n, s.2 + nd.cost) nd.kids else none := by simp [vis, h]

set_option maxRecDepth 100000 in
theorem nvisit_no (b off len cap : Nat) (z : Int → Int) (g : Nat) (left : Nat) (hl2 : len ≤ 256) (a : Nat) (w : World) (ha : a < len) (hRow : Row w b off len z) (p : WP) (hr : rsn z len a = (p, false)) :
    Calls Fahg.prog 90 #[.slice (some ⟨b, off, none⟩) len cap, .int .i64 a, .int .i64 left, .pointer (some ⟨g, 0, none⟩)] w fun e w' => e = .returned (.bool false) ∧ Below w.heap.size w w' := by
  have hwr : IntKind.u16.wrap (a : Int) = a := by rw [IntKind.wrap_u16]; omega
  have hres := nresolve_in b off len cap a z (by omega) (by omega) hl2 w hRow
  rw [hr] at hres
  obtain ⟨p1, p2, p3, p4, p5, p6⟩ := p
  simp only [WP.nval] at hres
  have HRS : Hid _ := hres
  clear hres hr hRow
  go_enter Fahg.func90, Fahg.ntmps90
  go_wp2_with fail
  refine Calls.mono HRS.out ?_
  rintro e w1 ⟨rfl, hb1⟩
  have HB1 : Hid _ := hb1
  clear hb1 HRS
  go_wp2_with fail
  go_ret
  exact ⟨rfl, below_alloc HB1.out (Nat.le_refl _) _⟩
set_option maxRecDepth 100000 in
theorem nvisit_nul (b off len cap : Nat) (z : Int → Int) (g : Nat) (left : Nat) (hl2 : len ≤ 256) (a : Nat) (w : World) (ha : a < len) (hRow : Row w b off len z) (hr : rsn z len a = (WP.nul, true)) :
    Calls Fahg.prog 90 #[.slice (some ⟨b, off, none⟩) len cap, .int .i64 a, .int .i64 left, .pointer (some ⟨g, 0, none⟩)] w fun e w' => e = .returned (.bool true) ∧ Below w.heap.size w w' := by
  have hwr : IntKind.u16.wrap (a : Int) = a := by rw [IntKind.wrap_u16]; omega
  have hres := nresolve_in b off len cap a z (by omega) (by omega) hl2 w hRow
  rw [hr] at hres
  simp only [WP.nval, WP.nul] at hres
  have HRS : Hid _ := hres
  clear hres hr hRow
  go_enter Fahg.func90, Fahg.ntmps90
  go_wp2_with fail
  refine Calls.mono HRS.out ?_
  rintro e w1 ⟨rfl, hb1⟩
  have HB1 : Hid _ := hb1
  clear hb1 HRS
  go_wp2_with fail
  go_ret
  exact ⟨rfl, below_alloc HB1.out (Nat.le_refl _) _⟩
set_option maxRecDepth 100000 in
set_option maxHeartbeats 1000000 in
theorem nvisit_deep (b off len cap : Nat) (z : Int → Int) (g : Nat) (hl2 : len ≤ 256) (a : Nat) (w : World) (ha : a < len) (hRow : Row w b off len z) (p1 p2 p3 p4 p5 p6 : Int) (hk0 : (p1 == 0) = false) (hr : rsn z len a = (⟨p1, p2, p3, p4, p5, p6⟩, true)) :
    Calls Fahg.prog 90 #[.slice (some ⟨b, off, none⟩) len cap, .int .i64 a, .int .i64 0, .pointer (some ⟨g, 0, none⟩)] w fun e w' => e = .returned (.bool false) ∧ Below w.heap.size w w' := by
  have hwr : IntKind.u16.wrap (a : Int) = a := by rw [IntKind.wrap_u16]; omega
  have hres := nresolve_in b off len cap a z (by omega) (by omega) hl2 w hRow
  rw [hr] at hres
  simp only [WP.nval] at hres
  have HRS : Hid _ := hres
  clear hres hr hRow
  go_enter Fahg.func90, Fahg.ntmps90
  go_wp2_with fail
  refine Calls.mono HRS.out ?_
  rintro e w1 ⟨rfl, hb1⟩
  have HB1 : Hid _ := hb1
  clear hb1 HRS
  go_wp2_with fail
  go_ret
  exact ⟨rfl, below_alloc HB1.out (Nat.le_refl _) _⟩

theorem nvisit_all (b off len cap : Nat) (z : Int → Int) (B g : Nat) (hl2 : len ≤ 256) (hb : b < B) (hBg : B ≤ g) : ∀ left, left ≤ 8 → NVisitOk b off len cap z B g left := by
  intro left
  induction left with
  | zero =>
    intro _ a s w ha hRow hBw hM
    have hsh := nshape z len a (by omega) (by omega) hl2 (fun i h h' => (hRow i h h').2)
    have hro : resN z len a = if (rsn z len a).2 = false then none else if (rsn z len a).1.kind = 0 then some none else some (some (nodeN z (rsn z len a).1)) := rfl
    cases hr : rsn z len a with
    | mk p ok =>
      rw [hr] at hsh hro
      cases ok with
      | false =>
        rw [nvis_none (resN z len) 0 s a (by simpa using hro)]
        refine (nvisit_no b off len cap z g 0 hl2 a w ha hRow p hr).mono ?_
        rintro e w' ⟨rfl, hb'⟩
        exact ⟨rfl, .of_below hb', fun s' h => by cases h⟩
      | true =>
        rcases hsh rfl with hn | hs
        · simp only at hn
          subst hn
          rw [nvis_null (resN z len) 0 s a (by simpa [WP.nul] using hro)]
          refine (nvisit_nul b off len cap z g 0 hl2 a w ha hRow hr).mono ?_
          rintro e w' ⟨rfl, hb'⟩
          exact ⟨rfl, .of_below hb', fun s' h => by cases h; exact hM.below hb'⟩
        · simp only at hs
          have pk := (shape_ok hl2 hs.s).2
          rw [nvis_zero (resN z len) s a (nodeN z p) (by simpa [pk] using hro)]
          obtain ⟨p1, p2, p3, p4, p5, p6⟩ := p
          refine (nvisit_deep b off len cap z g hl2 a w ha hRow p1 p2 p3 p4 p5 p6 (by simpa using pk) hr).mono ?_
          rintro e w' ⟨rfl, hb'⟩
          exact ⟨rfl, .of_below hb', fun s' h => by cases h⟩
  | succ left ih =>
    intro hle a s w ha hRow hBw hM
    have IH : Hid (NVisitOk b off len cap z B g left) := ih (by omega)
    have hsh := nshape z len a (by omega) (by omega) hl2 (fun i h h' => (hRow i h h').2)
    have hro : resN z len a = if (rsn z len a).2 = false then none else if (rsn z len a).1.kind = 0 then some none else some (some (nodeN z (rsn z len a).1)) := rfl
    cases hr : rsn z len a with
    | mk p ok =>
      rw [hr] at hsh hro
      cases ok with
      | false =>
        rw [nvis_none (resN z len) (left + 1) s a (by simpa using hro)]
        refine (nvisit_no b off len cap z g (left + 1) hl2 a w ha hRow p hr).mono ?_
        rintro e w' ⟨rfl, hb'⟩
        exact ⟨rfl, .of_below hb', fun s' h => by cases h⟩
      | true =>
        rcases hsh rfl with hn | hs
        · simp only at hn
          subst hn
          rw [nvis_null (resN z len) (left + 1) s a (by simpa [WP.nul] using hro)]
          refine (nvisit_nul b off len cap z g (left + 1) hl2 a w ha hRow hr).mono ?_
          rintro e w' ⟨rfl, hb'⟩
          exact ⟨rfl, .of_below hb', fun s' h => by cases h; exact hM.below hb'⟩
        · simp only at hs
          have pk := (shape_ok hl2 hs.s).2
          have hv := nvis_succ (resN z len) left s a (nodeN z p) (by simpa [pk] using hro)
          generalize vis (resN z len) (left + 1) s a = V at *
          have hS : Hid _ := hs
          obtain ⟨hsh', hn, hc2⟩ := hs
          cases hsh' with
          | struct A D P hD hP hbd h1 hw =>
            refine nvisit_struct b off len cap z B g left hl2 hb hBg (by omega) IH a s w ha hRow hBw hM V A D P hD hP hbd hS hr (hv.trans ?_)
            rw [show (nodeN z ⟨1, A, D, P, 0, 0⟩).kids = (nodeOf z ⟨1, A, D, P, 0, 0⟩).kids from rfl, node_struct z A D P hw]; simp [nodeN, node_struct z A D P hw, padB]
          | structs A D P C hD hP hC hA hbd hw =>
            have hC2 : C ≤ 128 := by have : (C : Int) ≤ 128 := hn; omega
            have hk : (nodeOf z ⟨2, A, D, P, 7, C⟩).kids = (List.range (C * P)).map fun k => A + k / P * (D + P) + D + k % P := by
              have e : kidN ⟨2, A, D, P, 7, C⟩ = C * P := by
                unfold kidN
                rw [if_neg (by simp), if_neg (by simp)]
                by_cases k0 : P = 0
                · subst k0; rw [if_neg (by simp)]; simp
                · rw [if_pos ⟨rfl, by simp only []; omega⟩]; simp
              have e2 : kidAt ⟨2, A, D, P, 7, C⟩ = fun k => A + k / P * (D + P) + D + k % P := by funext k; simp [kidAt]
              simp only [nodeOf]; rw [e, e2]
            refine nvisit_structs b off len cap z B g left hl2 hb hBg (by omega) IH a s w ha hRow hBw hM V A D P C hD hP hC2 (by omega) hbd hS hr (hv.trans ?_)
            rw [show (nodeN z ⟨2, A, D, P, 7, C⟩).kids = (nodeOf z ⟨2, A, D, P, 7, C⟩).kids from rfl, hk]; rfl
          | list A c C W hc hC hW hbd h1 hw =>
            have hC2 : C ≤ 128 := by have : (C : Int) ≤ 128 := hn; omega
            have hc2' : 2 ≤ (c : Int) := hc2 rfl
            by_cases k6 : c = 6
            · subst k6
              have hWC : W = C := by
                have : elBits ((6 : Nat) : Int) = 64 := by simp [elBits]
                rw [this] at hW; omega
              subst hWC
              refine nvisit_ptrs b off len cap z B g left hl2 hb hBg (by omega) IH a s w ha hRow hBw hM V A W hC2 hbd hS hr (hv.trans ?_)
              have hk : (nodeOf z ⟨2, A, 0, 0, 6, W⟩).kids = (List.range W).map fun k => A + k := by rw [node_ptrs z A W hw]
              rw [show (nodeN z ⟨2, A, 0, 0, ((6 : Nat) : Int), W⟩).kids = (nodeOf z ⟨2, A, 0, 0, 6, W⟩).kids from rfl, hk]; rfl
            · refine nvisit_scalar b off len cap z B g left hl2 hb hBg (by omega) IH a s w ha hRow hBw hM V A c C W (by omega) (by omega) (by simp; omega) (by simp; omega) hC2 hW hbd hw hS hr (hv.trans ?_)
              have hk : (nodeOf z ⟨2, A, 0, 0, c, C⟩).kids = [] := by rw [node_pad z A C W 0 c (by omega) (by omega) hw]
              rw [show (nodeN z ⟨2, A, 0, 0, c, C⟩).kids = (nodeOf z ⟨2, A, 0, 0, c, C⟩).kids from rfl, hk]; rfl
end Go.Proofs.Ygcfah
