/- law.NormMeans: the row. -/
import Derived.Test.YgcfahTnm
import Derived.Test.YgcfahTnw
import Derived.Test.YgcfahTco
import Derived.Test.YgcfahOpen
namespace Go.Proofs.Ygcfah.normMeans
open Go.ChangeShapes Go.WideShapes Go.ChangeAt Go.RowKit
set_option linter.unusedVariables false
set_option linter.unusedSimpArgs false

theorem walk (a : Option Addr) (n cap : Nat) (root : Int) (nd : Nat → NodeC) (w : World) (hb : -32768 ≤ root ∧ root ≤ 32767) (hr : NRow w a n nd) :
    Calls Fahg.prog 7 #[.agg #[.slice a n cap, .int .i16 root]] w fun e w' => e = .returned (.bool true) ∧ Below w.heap.size w w' := by
  by_cases hlim : Lim n root
  · rcases hr with rfl | ⟨b, off, rfl, hc⟩
    · have hroot : root = -1 := by unfold Lim at hlim; omega
      subst hroot
      exact nm_null a 0 cap w fun tb w' h0 h1 hb' => check_zero tb cap a w' h0 h1
    · have hc' : NCells w b off n nd := hc
      have hck := fun (tb : Nat) (w' : World) h0 h1 (hb' : Below w.heap.size w w') => check_main tb b off n cap root nd w' h0 h1 (NCells.below hc' hb') hlim
      by_cases hC : CheckP n root nd
      · rw [pB_true hC] at hck
        by_cases hroot : root = -1
        · subst hroot
          exact nm_null _ n cap w hck
        · have h0 : 0 ≤ root := by unfold Lim at hlim; omega
          obtain ⟨r, rfl⟩ : ∃ r : Nat, root = (r : Nat) := ⟨root.toNat, by omega⟩
          exact nm_main b off n cap r nd w hc' hC fun tb => norm_main tb b off n cap r nd
      · rw [pB_false hC] at hck
        exact nm_no _ n cap root w hck
  · exact nm_no a n cap root w fun tb w' h0 h1 hb' => check_out tb n cap a root w' h0 h1 hb hlim

set_option maxRecDepth 100000 in
theorem lifted (os : Os) (started : os.Started) (H : Type) (enc : TypeId × Value → H) :
    ReturnsInHanded {} Fahg.checked os 7 .any (Rows.normMeansSpec.pre6 enc Fahg.prog Fahg.f7 Rows.normMeansRow.domain false) (Rows.normMeansSpec.post enc Fahg.prog Fahg.f7 false true false false) := by
  refine returnsInHanded_of_change (C := Fahg.checked) own started (by kernel_rfl) Fahg.func7
    (ChangeSpec.witness6 (enc := enc) (C := Fahg.checked) false ⟨#[], #[.agg #[.slice none 0 0, .int .i16 0]], []⟩ 8 (by kernel_rfl) (by kernel_rfl) (by kernel_rfl) (by kernel_rfl)) ?_
  intro W base args ds gs before hval0 hW hcnd _
  have hval : ∀ (j : Nat) t v, Fahg.f7.params[j]? = some t → args[j]? = some v → Value.okWide Fahg.prog W .any base t v := hval0
  have hW' := hW
  obtain ⟨p, q, hA0, hV, rfl, hfz, hnd⟩ := hW
  have hA : DataW.TrodAll enc Fahg.prog W 0 (fun _ => true) true Fahg.f7.params.toList args.toList ds p := hA0
  rw [Fahg.params7] at hA hval
  obtain ⟨v0, vs0, d0, ds0, p0, q0, hargs, rfl, rfl, h0, r0⟩ := trodAll_cons hA
  obtain ⟨rfl, rfl, rfl⟩ := trodAll_nil r0
  obtain rfl : args = #[v0] := by cases args; simp_all
  obtain ⟨rfl, rfl⟩ := trodVars_none hV
  have k0 := h0
  have lt0 : ∀ x ∈ p0, x.block < W.heap.size := by obtain ⟨m, hm⟩ := k0; exact DataW.trod_lt m _ _ _ hm
  obtain ⟨a, len, cap, root, nd, rfl, hb, hle, hmax, hnil, hrow⟩ := open_tree (hval 0 53 v0 rfl rfl) h0
  clear hA0 hval0
  refine (walk a len cap root nd W hb hrow).mono fun e W' ⟨he, bel⟩ => ?_
  subst he
  exact ⟨_, rfl, _, _, _, [], _, [], hW', trodAll_mk1 (shut_bool Fahg.underlying4 _), (trodAll_cons_mk (Below.trod laidOut (by kernel_rfl) (of_decide_eq_true (by kernel_rfl)) k0 bel lt0) trodAll_mk0), rfl, bel.frame _, fun h => by cases h⟩

theorem over : Rows.normMeansRow.holds Fahg.pinned (OpenSpec.ofChange Rows.normMeansSpec) :=
  OpenClaim.holds_of_wide 7 Fahg.f7 rfl rfl rfl rfl rfl rfl rfl ⟨rfl, rfl, rfl, rfl, rfl⟩ rfl rfl rfl rfl rfl (by kernel_rfl) Fahg.func7 (by kernel_rfl)
    (of_decide_eq_true (by kernel_rfl)) (by unfold Func.isWrapper; first | (rw [if_pos (by decide +kernel)]; kernel_rfl) | (rw [if_neg (by decide +kernel)]; exact ⟨rfl, rfl⟩))
    (fun os started H enc _ => lifted os started H enc)

theorem proved : Rows.NormMeansSaid := over
#print axioms proved
end Go.Proofs.Ygcfah.normMeans
