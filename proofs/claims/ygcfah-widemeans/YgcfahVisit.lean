/- wmodel.state.visit, whole. -/
import Derived.Test.YgcfahNodes
import Derived.Test.YgcfahVs1
import Derived.Test.YgcfahVs2
import Derived.Test.YgcfahVs3
import Derived.Test.YgcfahVs4
namespace Go.Proofs.Ygcfah
open Go.RowKit
set_option linter.unusedVariables false
set_option linter.unusedSimpArgs false

theorem vis_none (res : Nat → Option (Option Node)) (l : Nat) (s : (Nat → Bool) × Nat) (a : Nat) (h : res a = none) : vis res l s a = none := by cases l <;> simp [vis, h]
theorem vis_null (res : Nat → Option (Option Node)) (l : Nat) (s : (Nat → Bool) × Nat) (a : Nat) (h : res a = some none) : vis res l s a = some s := by cases l <;> simp [vis, h]
theorem vis_zero (res : Nat → Option (Option Node)) (s : (Nat → Bool) × Nat) (a : Nat) (nd : Node) (h : res a = some (some nd)) : vis res 0 s a = none := by simp [vis, h]
theorem vis_succ (res : Nat → Option (Option Node)) (l : Nat) (s : (Nat → Bool) × Nat) (a : Nat) (nd : Node) (h : res a = some (some nd)) :
    vis res (l + 1) s a = if free s.1 nd.lo nd.n && nd.pad then visL (vis res l) (join s.1 nd.lo nd.n, s.2 + nd.cost) nd.kids else none := by simp [vis, h]
theorem drop_map_range (f : Nat → Nat) (n k : Nat) (h : k < n) : ((List.range n).map f).drop k = f k :: ((List.range n).map f).drop (k + 1) := by
  rw [List.drop_eq_getElem_cons (by simpa using h)]
  simp
theorem drop_map_end (f : Nat → Nat) (n : Nat) : ((List.range n).map f).drop n = [] := by simp

set_option maxRecDepth 100000 in
theorem visit_no (b off len cap : Nat) (z : Int → Int) (g : Nat) (left : Nat) (hl2 : len ≤ 256) (a : Nat) (w : World) (ha : a < len) (hRow : Row w b off len z) (p : WP) (hr : rsv z len a = (p, false)) :
    Calls Fahg.prog 110 #[.pointer (some ⟨g, 0, none⟩), .slice (some ⟨b, off, none⟩) len cap, .int .i64 a, .int .i64 left] w fun e w' => e = .returned (.bool false) ∧ Below w.heap.size w w' := by
  have hwr : IntKind.u16.wrap (a : Int) = a := by rw [IntKind.wrap_u16]; omega
  have hres := resolve_in b off len cap a z (by omega) (by omega) hl2 w hRow
  rw [hr] at hres
  obtain ⟨p1, p2, p3, p4, p5, p6⟩ := p
  simp only [WP.val] at hres
  have HRS : Hid _ := hres
  clear hres hr hRow
  go_enter Fahg.func110, Fahg.ntmps110
  go_wp2_with fail
  refine Calls.mono HRS.out ?_
  rintro e w1 ⟨rfl, hb1⟩
  have HB1 : Hid _ := hb1
  clear hb1 HRS
  go_wp2_with fail
  go_ret
  exact ⟨rfl, below_alloc HB1.out (Nat.le_refl _) _⟩

set_option maxRecDepth 100000 in
theorem visit_nul (b off len cap : Nat) (z : Int → Int) (g : Nat) (left : Nat) (hl2 : len ≤ 256) (a : Nat) (w : World) (ha : a < len) (hRow : Row w b off len z) (hr : rsv z len a = (WP.nul, true)) :
    Calls Fahg.prog 110 #[.pointer (some ⟨g, 0, none⟩), .slice (some ⟨b, off, none⟩) len cap, .int .i64 a, .int .i64 left] w fun e w' => e = .returned (.bool true) ∧ Below w.heap.size w w' := by
  have hwr : IntKind.u16.wrap (a : Int) = a := by rw [IntKind.wrap_u16]; omega
  have hres := resolve_in b off len cap a z (by omega) (by omega) hl2 w hRow
  rw [hr] at hres
  simp only [WP.val, WP.nul] at hres
  have HRS : Hid _ := hres
  clear hres hr hRow
  go_enter Fahg.func110, Fahg.ntmps110
  go_wp2_with fail
  refine Calls.mono HRS.out ?_
  rintro e w1 ⟨rfl, hb1⟩
  have HB1 : Hid _ := hb1
  clear hb1 HRS
  go_wp2_with fail
  go_ret
  exact ⟨rfl, below_alloc HB1.out (Nat.le_refl _) _⟩

set_option maxRecDepth 100000 in
set_option maxHeartbeats 1000000 in
theorem visit_deep (b off len cap : Nat) (z : Int → Int) (g : Nat) (hl2 : len ≤ 256) (a : Nat) (w : World) (ha : a < len) (hRow : Row w b off len z) (p1 p2 p3 p4 p5 p6 : Int) (hok : WP.ok ⟨p1, p2, p3, p4, p5, p6⟩) (hk0 : (p1 == 0) = false) (hr : rsv z len a = (⟨p1, p2, p3, p4, p5, p6⟩, true)) :
    Calls Fahg.prog 110 #[.pointer (some ⟨g, 0, none⟩), .slice (some ⟨b, off, none⟩) len cap, .int .i64 a, .int .i64 0] w fun e w' => e = .returned (.bool false) ∧ Below w.heap.size w w' := by
  have hwr : IntKind.u16.wrap (a : Int) = a := by rw [IntKind.wrap_u16]; omega
  have hres := resolve_in b off len cap a z (by omega) (by omega) hl2 w hRow
  rw [hr] at hres
  simp only [WP.val] at hres
  have HRS : Hid _ := hres
  have hwd := fun w => words_any p1 p2 p3 p4 p5 p6 hok.k0 hok.k1 hok.d0 hok.d1 hok.p0 hok.p1 hok.c0 hok.c1 hok.n0 hok.n1 w
  have HWD : Hid _ := hwd
  have bw := wWords_bd p1 p3 p4 p5 p6 hok.d0 hok.p0 hok.n0
  have a0 := hok.a0
  have a1 := hok.a1
  simp only at a0 a1
  generalize wWords p1 p3 p4 p5 p6 = W at *
  clear hres hr hRow hwd hok
  go_enter Fahg.func110, Fahg.ntmps110
  go_wp2_with fail
  refine Calls.mono HRS.out ?_
  rintro e w1 ⟨rfl, hb1⟩
  have HB1 : Hid _ := hb1
  clear hb1 HRS
  go_wp2_with fail
  refine (HWD.out _).mono ?_
  rintro e w2 ⟨rfl, c, n0, hw2⟩
  have hp2 : w2.heap[w1.heap.size]? = some (.cells #[.int .u8 p1, .int .u16 p2, .int .u8 p3, .int .u8 p4, .int .u8 p5, .int .u32 p6] 78 (0, 0)) := by rw [hw2]; exact (heap_alloc_old _ _ (by simp)).trans (heap_alloc_new _ _)
  have hb2 : Below w.heap.size w w2 := by
    rw [hw2]; exact below_drewN' (below_alloc (below_alloc HB1.out (Nat.le_refl _) _) (by have := HB1.out.size; simp at this ⊢; try omega) _) _
  have r2 := cell_heap (o := 1) hp2
  have r5 := cell_heap (o := 4) hp2
  simp only [six1, six4] at r2 r5
  have HB2 : Hid _ := hb2
  clear hw2 hb2 HB1 hp2
  go_wp2_with fail
  go_quiet (fail)
  by_cases h7 : p5 = 7
  · subst h7
    go_wp2_with fail
    go_ret
    exact ⟨rfl, below_drewN' HB2.out _⟩
  · have h7' : (p5 == 7) = false := by simpa using h7
    go_wp2_with fail
    go_ret
    exact ⟨rfl, below_drewN' HB2.out _⟩

theorem visit_all (b off len cap : Nat) (z : Int → Int) (B g : Nat) (hl2 : len ≤ 256) (hb : b < B) (hBg : B ≤ g) : ∀ left, left ≤ 8 → VisitOk b off len cap z B g left := by
  intro left
  induction left with
  | zero =>
    intro _ a S cost w ha hRow hBw hM
    have hsh := rsv_shape z len a (by omega) (by omega) hl2 (fun i h h' => (hRow i h h').2)
    have hro : resOf z len a = if (rsv z len a).2 = false then none else if (rsv z len a).1.kind = 0 then some none else some (some (nodeOf z (rsv z len a).1)) := rfl
    cases hr : rsv z len a with
    | mk p ok =>
      rw [hr] at hsh hro
      cases ok with
      | false =>
        have hv := vis_none (resOf z len) 0 (S, cost) a (by simpa using hro)
        rw [hv]
        refine (visit_no b off len cap z g 0 hl2 a w ha hRow p hr).mono ?_
        rintro e w' ⟨rfl, hb'⟩
        exact ⟨rfl, .of_below hb', fun s' h => by cases h⟩
      | true =>
        rcases hsh rfl with hn | hs
        · simp only at hn
          subst hn
          have hv := vis_null (resOf z len) 0 (S, cost) a (by simpa [WP.nul] using hro)
          rw [hv]
          refine (visit_nul b off len cap z g 0 hl2 a w ha hRow hr).mono ?_
          rintro e w' ⟨rfl, hb'⟩
          exact ⟨rfl, .of_below hb', fun s' h => by cases h; exact hM.below hb'⟩
        · obtain ⟨pok, pk⟩ := shape_ok hl2 hs
          simp only at pok pk hs
          have hv := vis_zero (resOf z len) (S, cost) a (nodeOf z p) (by simpa [pk] using hro)
          rw [hv]
          obtain ⟨p1, p2, p3, p4, p5, p6⟩ := p
          refine (visit_deep b off len cap z g hl2 a w ha hRow p1 p2 p3 p4 p5 p6 pok (by simpa using pk) hr).mono ?_
          rintro e w' ⟨rfl, hb'⟩
          exact ⟨rfl, .of_below hb', fun s' h => by cases h⟩
  | succ left ih =>
    intro hle a S cost w ha hRow hBw hM
    have IH : Hid (VisitOk b off len cap z B g left) := ih (by omega)
    have hsh := rsv_shape z len a (by omega) (by omega) hl2 (fun i h h' => (hRow i h h').2)
    have hro : resOf z len a = if (rsv z len a).2 = false then none else if (rsv z len a).1.kind = 0 then some none else some (some (nodeOf z (rsv z len a).1)) := rfl
    cases hr : rsv z len a with
    | mk p ok =>
      rw [hr] at hsh hro
      cases ok with
      | false =>
        have hv := vis_none (resOf z len) (left + 1) (S, cost) a (by simpa using hro)
        rw [hv]
        refine (visit_no b off len cap z g (left + 1) hl2 a w ha hRow p hr).mono ?_
        rintro e w' ⟨rfl, hb'⟩
        exact ⟨rfl, .of_below hb', fun s' h => by cases h⟩
      | true =>
        rcases hsh rfl with hn | hs
        · simp only at hn
          subst hn
          have hv := vis_null (resOf z len) (left + 1) (S, cost) a (by simpa [WP.nul] using hro)
          rw [hv]
          refine (visit_nul b off len cap z g (left + 1) hl2 a w ha hRow hr).mono ?_
          rintro e w' ⟨rfl, hb'⟩
          exact ⟨rfl, .of_below hb', fun s' h => by cases h; exact hM.below hb'⟩
        · obtain ⟨pok, pk⟩ := shape_ok hl2 hs
          simp only at pok pk hs
          have hv := vis_succ (resOf z len) left (S, cost) a (nodeOf z p) (by simpa [pk] using hro)
          generalize vis (resOf z len) (left + 1) (S, cost) a = V at *
          cases hs with
          | struct A D P hD hP hbd h1 hw =>
            rw [node_struct z A D P hw] at hv
            refine visit_struct b off len cap z B g left hl2 hb hBg (by omega) IH a S cost w ha hRow hBw hM V A D P hD hP hbd hr (D + P) rfl (Nat.le_refl _) (Nat.le_refl _) hw ((List.range P).map fun k => A + D + k) (fun e i he hi => ?_) ?_ (hv.trans (by simp))
            · obtain rfl : e = 0 := by omega
              rw [drop_map_range _ _ _ (by omega)]
              refine ⟨?_, by omega⟩
              simp
            · show _ = _
              rw [Nat.one_mul]; exact drop_map_end _ _
          | structs A D P C hD hP hC hA hbd hw =>
            obtain ⟨L, rfl⟩ : ∃ L, A = L + 1 := ⟨A - 1, by omega⟩
            by_cases hDP : 0 < D + P
            · have hC2 : C ≤ 256 := by
                have : C * 1 ≤ C * (D + P) := Nat.mul_le_mul_left _ hDP
                omega
              have hw' : WP.words ⟨2, (L : Int) + 1, D, P, 7, C⟩ = ((1 + C * (D + P) : Nat) : Int) := hw
              have hnd := node_structs z L D P C hDP hw'
              rw [show nodeOf z ⟨2, ((L + 1 : Nat) : Int), D, P, 7, C⟩ = nodeOf z ⟨2, (L : Int) + 1, D, P, 7, C⟩ from rfl, hnd] at hv
              have hkid : ∀ e i, i < P → L + 1 + (e * P + i) / P * (D + P) + D + (e * P + i) % P = L + 1 + e * (D + P) + D + i := by
                intro e i hi
                rw [Nat.mul_comm e P, Nat.mul_add_div (by omega), Nat.mul_add_mod, Nat.div_eq_of_lt hi, Nat.mod_eq_of_lt hi]; rfl
              refine visit_structs b off len cap z B g left hl2 hb hBg (by omega) IH a S cost w ha hRow hBw hM V L D P C (C * (D + P)) hD hP hDP rfl hC2 hbd hr (1 + C * (D + P)) rfl (Nat.le_refl _) (Nat.le_refl _) hw' ((List.range (C * P)).map fun k => L + 1 + k / P * (D + P) + D + k % P) (fun e i he hi => ?_) (drop_map_end _ _) (hv.trans (by simp))
              have hlt : e * P + i < C * P := by
                have : (e + 1) * P ≤ C * P := Nat.mul_le_mul_right _ he
                rw [Nat.add_mul, Nat.one_mul] at this
                omega
              rw [drop_map_range _ _ _ hlt, hkid e i hi]
              refine ⟨rfl, ?_⟩
              have := kid_structs (L + 1) D P C (e * P + i) (by omega) hlt
              rw [hkid e i hi] at this
              omega
            · obtain rfl : D = 0 := by omega
              obtain rfl : P = 0 := by omega
              have hw' : WP.words ⟨2, (L : Int) + 1, 0, 0, 7, C⟩ = 1 := hw.trans (by simp)
              rw [show nodeOf z ⟨2, ((L + 1 : Nat) : Int), ((0 : Nat) : Int), ((0 : Nat) : Int), 7, C⟩ = nodeOf z ⟨2, (L : Int) + 1, 0, 0, 7, C⟩ from rfl, node_zstructs z L C (by omega) hw'] at hv
              exact visit_zstructs b off len cap z B g left hl2 hb hBg (by omega) IH a S cost w ha hRow hBw hM V L C (by omega) (by omega) hr 1 rfl (Nat.le_refl _) (Nat.le_refl _) hw' [] (fun e i he hi => absurd he (by omega)) rfl (hv.trans (by simp))
          | list A c C W hc hC hW hbd h1 hw =>
            by_cases k0 : c = 0
            · subst k0
              have hW0 : W = 0 := by
                have : elBits ((0 : Nat) : Int) = 0 := by simp [elBits]
                rw [this] at hW; omega
              subst hW0
              have hw' : WP.words ⟨2, A, 0, 0, 0, C⟩ = 0 := hw
              rw [show nodeOf z ⟨2, A, 0, 0, ((0 : Nat) : Int), C⟩ = nodeOf z ⟨2, A, 0, 0, 0, C⟩ from rfl, node_void z A C hC hw'] at hv
              exact visit_void b off len cap z B g left hl2 hb hBg (by omega) IH a S cost w ha hRow hBw hM V A C hC (by omega) hr 0 rfl (Nat.le_refl _) hw' [] (fun e i he hi => absurd he (by omega)) rfl (hv.trans (by simp))
            by_cases k6 : c = 6
            · subst k6
              have hWC : W = C := by
                have : elBits ((6 : Nat) : Int) = 64 := by simp [elBits]
                rw [this] at hW; omega
              subst hWC
              have hw' : WP.words ⟨2, A, 0, 0, 6, W⟩ = (W : Int) := hw
              rw [show nodeOf z ⟨2, A, 0, 0, ((6 : Nat) : Int), W⟩ = nodeOf z ⟨2, A, 0, 0, 6, W⟩ from rfl, node_ptrs z A W hw'] at hv
              refine visit_ptrs b off len cap z B g left hl2 hb hBg (by omega) IH a S cost w ha hRow hBw hM V A W hbd hr W rfl (Nat.le_refl _) (Nat.le_refl _) hw' ((List.range W).map fun k => A + k) (fun e i he hi => ?_) ?_ (hv.trans (by simp))
              · obtain rfl : i = 0 := by omega
                rw [drop_map_range _ _ _ (by omega)]
                refine ⟨?_, by omega⟩
                simp
              · show _ = _
                rw [Nat.mul_one]; exact drop_map_end _ _
            obtain ⟨E, hE⟩ := Int.eq_ofNat_of_zero_le (elBits_bd (c : Int)).1
            have hE1 : 1 ≤ E := by
              have : c = 1 ∨ c = 2 ∨ c = 3 ∨ c = 4 ∨ c = 5 := by omega
              rcases this with rfl | rfl | rfl | rfl | rfl <;> simp [elBits] at hE <;> omega
            rw [hE] at hW
            have hW' : W = (C * E + 63) / 64 := by
              have : ((C * E : Nat) : Int) = (C : Int) * E := by push_cast; rfl
              generalize C * E = t at *
              rw [← this] at hW
              omega
            obtain ⟨x, hx, hx0, hxc⟩ : ∃ x : Nat, x < 18446744073709551616 ∧ (W = 0 → x = 0) ∧ (0 < W → z ((A + W - 1 : Nat) : Int) = x) := by
              by_cases hW0 : W = 0
              · exact ⟨0, by decide, fun _ => rfl, fun h => absurd h (by omega)⟩
              · have hu := (hRow ((A + W - 1 : Nat) : Int) (by omega) (by omega)).2
                obtain ⟨x, hxx⟩ := Int.eq_ofNat_of_zero_le hu.1
                exact ⟨x, by have := hu.2; omega, fun h => absurd h hW0, fun _ => hxx⟩
            have hpb := padB_val z A C W x E c ⟨by omega, by omega⟩ hE hE1 hW' hw hx hx0 hxc
            rw [node_pad z A C W E c (by omega) (by omega) hw] at hv
            have hv2 := hv.trans (by simp only [Bool.and_eq_true] : _ = if free S A W = true ∧ padB z ⟨2, A, 0, 0, c, C⟩ = true then visL (vis (resOf z len) left) (join S A W, cost + max W 1) [] else none)
            generalize padB z ⟨2, A, 0, 0, c, C⟩ = PB at *
            have hcs : c = 1 ∨ c = 2 ∨ c = 3 ∨ c = 4 ∨ c = 5 := by omega
            rcases hcs with rfl | rfl | rfl | rfl | rfl
            · obtain rfl : E = 1 := by simp [elBits] at hE; omega
              exact visit_pad1 b off len cap z B g left hl2 hb hBg (by omega) IH a S cost w ha hRow hBw hM V A C hC PB x hx hr W hW' (by omega) (by omega) hbd hx0 hxc hpb hw [] (fun e i he hi => absurd he (by omega)) rfl hv2
            · obtain rfl : E = 8 := by simp [elBits] at hE; omega
              exact visit_pad2 b off len cap z B g left hl2 hb hBg (by omega) IH a S cost w ha hRow hBw hM V A C hC PB x hx hr W hW' (by omega) (by omega) hbd hx0 hxc hpb hw [] (fun e i he hi => absurd he (by omega)) rfl hv2
            · obtain rfl : E = 16 := by simp [elBits] at hE; omega
              exact visit_pad3 b off len cap z B g left hl2 hb hBg (by omega) IH a S cost w ha hRow hBw hM V A C hC PB x hx hr W hW' (by omega) (by omega) hbd hx0 hxc hpb hw [] (fun e i he hi => absurd he (by omega)) rfl hv2
            · obtain rfl : E = 32 := by simp [elBits] at hE; omega
              exact visit_pad4 b off len cap z B g left hl2 hb hBg (by omega) IH a S cost w ha hRow hBw hM V A C hC PB x hx hr W hW' (by omega) (by omega) hbd hx0 hxc hpb hw [] (fun e i he hi => absurd he (by omega)) rfl hv2
            · obtain rfl : E = 64 := by simp [elBits] at hE; omega
              exact visit_pad5 b off len cap z B g left hl2 hb hBg (by omega) IH a S cost w ha hRow hBw hM V A C hC PB x hx hr W hW' (by omega) (by omega) hbd hx0 hxc hpb hw [] (fun e i he hi => absurd he (by omega)) rfl hv2
end Go.Proofs.Ygcfah
