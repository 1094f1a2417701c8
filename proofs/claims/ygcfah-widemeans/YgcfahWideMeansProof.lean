/- law.WideMeans: the row. -/
import Derived.Test.YgcfahMval
import Derived.Test.YgcfahOpen
namespace Go.Proofs.Ygcfah.wideMeans
open Go.ChangeShapes Go.WideShapes Go.ChangeAt Go.RowKit
set_option linter.unusedVariables false
set_option linter.unusedSimpArgs false

set_option maxRecDepth 100000 in
set_option maxHeartbeats 1000000 in
theorem means_x (a0 : Option Addr) (len cap L : Nat) (bud : Int) (w : World) (hcap : len ≤ cap) (hnil : a0 = none → cap = 0) (hL : (len ≤ 257 ∧ L = len) ∨ (257 < len ∧ L = 257)) (ANS : Bool)
    (h1 : Hid (∀ cap2 w', Below w.heap.size w w' → Calls Fahg.prog 44 #[.slice a0 L cap2, .int .u32 bud] w' fun e w2 => e = .returned (.bool ANS) ∧ Below w'.heap.size w' w2))
    (h2 : Hid (∀ cap2 w', Below w.heap.size w w' → Calls Fahg.prog 45 #[.slice a0 L cap2, .int .u32 bud] w' fun e w2 => e = .returned (.bool ANS) ∧ Below w'.heap.size w' w2)) :
    Calls Fahg.prog 12 #[.slice a0 len cap, .int .u32 bud] w fun e w' => e = .returned (.bool true) ∧ Below w.heap.size w w' := by
  rcases hL with ⟨hl, rfl⟩ | ⟨hl, rfl⟩
  all_goals
    go_enter Fahg.func12, Fahg.ntmps12
    go_wp2_with fail
    refine (h1.out _ _ (Below.refl _ _)).mono ?_
    rintro e w1 ⟨rfl, hb1⟩
    have HB1 : Hid _ := hb1
    clear hb1
    go_wp2_with fail
    refine (h2.out _ _ HB1.out).mono ?_
    rintro e w2 ⟨rfl, hb2⟩
    have HB2 : Hid (Below w.heap.size w w2) := HB1.out.trans (hb2.mono HB1.out.size)
    clear hb2 HB1
    go_wp2_with fail
    go_ret
    exact ⟨ret_bool (by simp), HB2.out⟩

theorem walk (a0 : Option Addr) (len cap : Nat) (bud : Int) (w : World) (hs : SliceRow w a0 len cap ∨ (∃ x, a0 = some x ∧ cap = 0 ∧ len = 0)) (b0 : 0 ≤ bud) (b1 : bud ≤ 4294967295) :
    Calls Fahg.prog 12 #[.slice a0 len cap, .int .u32 bud] w fun e w' => e = .returned (.bool true) ∧ Below w.heap.size w w' := by
  obtain ⟨bud, rfl⟩ := Int.eq_ofNat_of_zero_le b0
  have hL : ∃ L, (len ≤ 257 ∧ L = len) ∨ (257 < len ∧ L = 257) := by
    by_cases h : len ≤ 257
    · exact ⟨len, .inl ⟨h, rfl⟩⟩
    · exact ⟨257, .inr ⟨by omega, rfl⟩⟩
  obtain ⟨L, hL⟩ := hL
  have hcn : len ≤ cap ∧ (a0 = none → cap = 0) := by
    rcases hs with (⟨rfl, rfl, rfl⟩ | ⟨b, off, z, rfl, h, _, hr⟩) | ⟨x, rfl, rfl, rfl⟩
    · exact ⟨Nat.le_refl _, fun _ => rfl⟩
    · exact ⟨h, by simp⟩
    · exact ⟨Nat.le_refl _, by simp⟩
  by_cases hout : L = 0 ∨ 256 < L
  · refine means_x a0 len cap L bud w hcn.1 hcn.2 hL false (fun cap2 w' _ => ?_) (fun cap2 w' _ => ?_)
    · exact (validate_out a0 L cap2 bud w' hout).mono fun e w2 ⟨h, h'⟩ => ⟨h, by rw [h']; exact Below.refl _ _⟩
    · exact (mvalidate_out a0 L cap2 bud w' hout).mono fun e w2 ⟨h, h'⟩ => ⟨h, by rw [h']; exact Below.refl _ _⟩
  · have hLe : L = len := by omega
    subst hLe
    rcases hs with (⟨rfl, rfl, rfl⟩ | ⟨b, off, z, rfl, h, _, hr⟩) | ⟨x, rfl, rfl, rfl⟩
    · omega
    · have hrow : Row w b off L z := fun k a c => hr k a (by omega)
      have hb : b < w.heap.size := World.block_lt_of_cell? w _ (hr 0 (by omega) (by omega)).1
      have hzz : ∀ i, 0 ≤ i → i < (L : Int) → U64 (z i) := fun i h h' => (hrow i h h').2
      have hva := vis_ans z L bud (by omega) (by omega) hzz
      refine means_x (some ⟨b, off, none⟩) L cap L bud w hcn.1 hcn.2 hL (ans (resOf z L) (fun i => i == 0) bud [(0, 1)]) (fun cap2 w' hb' => ?_) (fun cap2 w' hb' => ?_)
      · exact validate_x _ b off L cap2 bud (by omega) z w' (by omega) (by omega) (hrow.below hb' hb) (Nat.lt_of_lt_of_le hb hb'.size) rfl
      · exact mvalidate_in _ b off L cap2 bud (by omega) z w' (by omega) (by omega) (hrow.below hb' hb) (Nat.lt_of_lt_of_le hb hb'.size) hva.symm
    · omega

set_option maxRecDepth 100000 in
theorem lifted (os : Os) (started : os.Started) (H : Type) (enc : TypeId × Value → H) :
    ReturnsInHanded {} Fahg.checked os 12 .any (Rows.wideMeansSpec.pre6 enc Fahg.prog Fahg.f12 Rows.wideMeansRow.domain false) (Rows.wideMeansSpec.post enc Fahg.prog Fahg.f12 false true false false) := by
  refine returnsInHanded_of_change (C := Fahg.checked) own started (by kernel_rfl) Fahg.func12
    (ChangeSpec.witness6 (enc := enc) (C := Fahg.checked) false ⟨#[], #[.slice none 0 0, .int .u32 0], []⟩ 8 (by kernel_rfl) (by kernel_rfl) (by kernel_rfl) (by kernel_rfl)) ?_
  intro W base args ds gs before hval0 hW hcnd _
  have hval : ∀ (j : Nat) t v, Fahg.f12.params[j]? = some t → args[j]? = some v → Value.okWide Fahg.prog W .any base t v := hval0
  have hW' := hW
  obtain ⟨p, q, hA0, hV, rfl, hfz, hnd⟩ := hW
  have hA : DataW.TrodAll enc Fahg.prog W 0 (fun _ => true) true Fahg.f12.params.toList args.toList ds p := hA0
  rw [Fahg.params12] at hA hval
  obtain ⟨v0, vs0, d0, ds0, p0, q0, hargs, rfl, rfl, h0, r0⟩ := trodAll_cons hA
  obtain ⟨v1, vs1, d1, ds1, p1, q1, rfl, rfl, rfl, h1, r1⟩ := trodAll_cons r0
  obtain ⟨rfl, rfl, rfl⟩ := trodAll_nil r1
  obtain rfl : args = #[v0, v1] := by cases args; simp_all
  obtain ⟨rfl, rfl⟩ := trodVars_none hV
  obtain ⟨a0, len0, cap0, rfl⟩ := okWide_slice Fahg.underlying38 (hval 0 38 v0 rfl rfl)
  have k0 := h0
  have lt0 : ∀ x ∈ p0, x.block < W.heap.size := by obtain ⟨m, hm⟩ := k0; exact DataW.trod_lt m _ _ _ hm
  have s0 := open_words h0
  obtain ⟨a1, rfl, rfl, rfl, w1⟩ := open_int Fahg.underlying76 (hval 1 76 v1 rfl rfl) h1
  have b1 := bnd_u32 w1
  clear hA0 hval0
  refine (walk a0 len0 cap0 a1 W s0 b1.1 b1.2).mono fun e W' ⟨he, bel⟩ => ?_
  subst he
  exact ⟨_, rfl, _, _, _, [], _, [], hW', trodAll_mk1 (shut_bool Fahg.underlying4 _), (trodAll_cons_mk (Below.trod laidOut (by kernel_rfl) (of_decide_eq_true (by kernel_rfl)) k0 bel lt0) (trodAll_cons_mk (shut_int Fahg.underlying76 w1) trodAll_mk0)), rfl, bel.frame _, fun h => by cases h⟩

theorem over : Rows.wideMeansRow.holds Fahg.pinned (OpenSpec.ofChange Rows.wideMeansSpec) :=
  OpenClaim.holds_of_wide 12 Fahg.f12 rfl rfl rfl rfl rfl rfl rfl ⟨rfl, rfl, rfl, rfl, rfl⟩ rfl rfl rfl rfl rfl (by kernel_rfl) Fahg.func12 (by kernel_rfl)
    (of_decide_eq_true (by kernel_rfl)) (by unfold Func.isWrapper; first | (rw [if_pos (by decide +kernel)]; kernel_rfl) | (rw [if_neg (by decide +kernel)]; exact ⟨rfl, rfl⟩))
    (fun os started H enc _ => lifted os started H enc)

theorem proved : Rows.WideMeansSaid := over
#print axioms proved
end Go.Proofs.Ygcfah.wideMeans
