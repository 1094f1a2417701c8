/- law.CheckMeans: the row. -/
import Derived.Test.YgcfahTpw
import Derived.Test.YgcfahTco
import Derived.Test.YgcfahOpen
namespace Go.Proofs.Ygcfah.checkMeans
open Go.ChangeShapes Go.WideShapes Go.ChangeAt Go.RowKit
set_option linter.unusedVariables false
set_option linter.unusedSimpArgs false

/-- The two answers of one tree in memory are the same. -/
theorem both (tb n cap : Nat) (a : Option Addr) (root : Int) (nd : Nat → NodeC) (w0 : World) (ht : w0.cell? ⟨tb, 0, none⟩ = some (.slice a n cap)) (ht2 : w0.cell? ⟨tb, 1, none⟩ = some (.int .i16 root)) (hb : -32768 ≤ root ∧ root ≤ 32767) (hr : NRow w0 a n nd) :
    ∃ R : Bool, ∀ w, Below w0.heap.size w0 w → (Calls Fahg.prog 23 #[.pointer (some ⟨tb, 0, none⟩)] w fun e w' => e = .returned (.bool R) ∧ Below w.heap.size w w') ∧ (Calls Fahg.prog 24 #[.pointer (some ⟨tb, 0, none⟩)] w fun e w' => e = .returned (.bool R) ∧ Below w.heap.size w w') := by
  by_cases hlim : Lim n root
  · rcases hr with rfl | ⟨b, off, rfl, hc⟩
    · have hroot : root = -1 := by unfold Lim at hlim; omega
      subst hroot
      exact ⟨true, fun w hw => ⟨check_zero tb cap a w (Below.kept hw ht) (Below.kept hw ht2), pcheck_zero tb cap a w (Below.kept hw ht) (Below.kept hw ht2)⟩⟩
    · refine ⟨pB (CheckP n root nd), fun w hw => ⟨?_, ?_⟩⟩
      · exact check_main tb b off n cap root nd w (Below.kept hw ht) (Below.kept hw ht2) (NCells.below (show NCells w0 b off n nd from hc) hw) hlim
      · rw [pB_congr (check_plain n root nd)]
        exact pcheck_main tb b off n cap root nd w (Below.kept hw ht) (Below.kept hw ht2) (NCells.below (show NCells w0 b off n nd from hc) hw) hlim (pwalks tb b off n cap nd hlim.1)
  · exact ⟨false, fun w hw => ⟨check_out tb n cap a root w (Below.kept hw ht) (Below.kept hw ht2) hb hlim, pcheck_out tb n cap a root w (Below.kept hw ht) (Below.kept hw ht2) hb hlim⟩⟩

set_option maxRecDepth 100000 in
set_option maxHeartbeats 1000000 in
theorem walk (a : Option Addr) (n cap : Nat) (root : Int) (nd : Nat → NodeC) (w : World) (hb : -32768 ≤ root ∧ root ≤ 32767) (hr : NRow w a n nd) :
    Calls Fahg.prog 5 #[.agg #[.slice a n cap, .int .i16 root]] w fun e w' => e = .returned (.bool true) ∧ Below w.heap.size w w' := by
  obtain ⟨w1, hw1⟩ : ∃ w1, w1 = w.alloc (.cells #[.slice a n cap, .int .i16 root] 53) := ⟨_, rfl⟩
  have hb1 : Below w.heap.size w w1 := by rw [hw1]; exact below_alloc (Below.refl _ _) (Nat.le_refl _) _
  have g0 : w1.cell? ⟨w.heap.size, 0, none⟩ = some (.slice a n cap) := by rw [hw1]; simp [go_sem]
  have g1 : w1.cell? ⟨w.heap.size, 1, none⟩ = some (.int .i16 root) := by rw [hw1]; simp [go_sem]
  have hr1 : NRow w1 a n nd := by
    rcases hr with h | ⟨b, off, e, hc⟩
    · exact .inl h
    · exact .inr ⟨b, off, e, NCells.below (show NCells w b off n nd from hc) hb1⟩
  obtain ⟨R, hR⟩ := both w.heap.size n cap a root nd w1 g0 g1 hb hr1
  have HR : Hid _ := hR
  have HB1 : Hid _ := hb1
  have HW1 : Hid _ := hw1
  clear hR hr hr1 g0 g1 hb1 hw1
  go_enter Fahg.func5, Fahg.ntmps5
  go_wp2_with fail
  rw [← HW1.out]
  refine Calls.mono (HR.out w1 (Below.refl _ _)).1 ?_
  rintro e w2 ⟨rfl, hb2⟩
  have HB2 : Hid _ := hb2
  clear hb2
  go_wp2_with fail
  refine Calls.mono (HR.out w2 HB2.out).2 ?_
  rintro e w3 ⟨rfl, hb3⟩
  have HB3 : Hid (Below w.heap.size w w3) := HB1.out.trans ((HB2.out.trans (hb3.mono HB2.out.size)).mono HB1.out.size)
  clear hb3
  go_wp2_with fail
  go_ret
  exact ⟨ret_bool (by simp), HB3.out⟩

set_option maxRecDepth 100000 in
theorem lifted (os : Os) (started : os.Started) (H : Type) (enc : TypeId × Value → H) :
    ReturnsInHanded {} Fahg.checked os 5 .any (Rows.checkMeansSpec.pre6 enc Fahg.prog Fahg.f5 Rows.checkMeansRow.domain false) (Rows.checkMeansSpec.post enc Fahg.prog Fahg.f5 false true false false) := by
  refine returnsInHanded_of_change (C := Fahg.checked) own started (by kernel_rfl) Fahg.func5
    (ChangeSpec.witness6 (enc := enc) (C := Fahg.checked) false ⟨#[], #[.agg #[.slice none 0 0, .int .i16 0]], []⟩ 8 (by kernel_rfl) (by kernel_rfl) (by kernel_rfl) (by kernel_rfl)) ?_
  intro W base args ds gs before hval0 hW hcnd _
  have hval : ∀ (j : Nat) t v, Fahg.f5.params[j]? = some t → args[j]? = some v → Value.okWide Fahg.prog W .any base t v := hval0
  have hW' := hW
  obtain ⟨p, q, hA0, hV, rfl, hfz, hnd⟩ := hW
  have hA : DataW.TrodAll enc Fahg.prog W 0 (fun _ => true) true Fahg.f5.params.toList args.toList ds p := hA0
  rw [Fahg.params5] at hA hval
  obtain ⟨v0, vs0, d0, ds0, p0, q0, hargs, rfl, rfl, h0, r0⟩ := trodAll_cons hA
  obtain ⟨rfl, rfl, rfl⟩ := trodAll_nil r0
  obtain rfl : args = #[v0] := by cases args; simp_all
  obtain ⟨rfl, rfl⟩ := trodVars_none hV
  have k0 := h0
  have lt0 : ∀ x ∈ p0, x.block < W.heap.size := by obtain ⟨m, hm⟩ := k0; exact DataW.trod_lt m _ _ _ hm
  obtain ⟨a, len, cap, root, nd, rfl, hb, hle, hmax, hnil, hrow⟩ := open_tree (hval 0 53 v0 rfl rfl) h0
  clear hA0 hval0
  refine (walk a len cap root nd W hb hrow).mono fun e W' ⟨he, bel⟩ => ?_
  subst he
  exact ⟨_, rfl, _, _, _, [], _, [], hW', trodAll_mk1 (shut_bool Fahg.underlying4 _), (trodAll_cons_mk (Below.trod laidOut (by kernel_rfl) (of_decide_eq_true (by kernel_rfl)) k0 bel lt0) trodAll_mk0), rfl, bel.frame _, fun h => by cases h⟩

theorem over : Rows.checkMeansRow.holds Fahg.pinned (OpenSpec.ofChange Rows.checkMeansSpec) :=
  OpenClaim.holds_of_wide 5 Fahg.f5 rfl rfl rfl rfl rfl rfl rfl ⟨rfl, rfl, rfl, rfl, rfl⟩ rfl rfl rfl rfl rfl (by kernel_rfl) Fahg.func5 (by kernel_rfl)
    (of_decide_eq_true (by kernel_rfl)) (by unfold Func.isWrapper; first | (rw [if_pos (by decide +kernel)]; kernel_rfl) | (rw [if_neg (by decide +kernel)]; exact ⟨rfl, rfl⟩))
    (fun os started H enc _ => lifted os started H enc)

theorem proved : Rows.CheckMeansSaid := over
#print axioms proved
end Go.Proofs.Ygcfah.checkMeans
