/- law.NormOnce: the row. -/
import Derived.Test.YgcfahUmy
import Derived.Test.YgcfahUng
import Derived.Test.YgcfahTco
import Derived.Test.YgcfahOpen
namespace Go.Proofs.Ygcfah.normOnce
open Go.ChangeShapes Go.WideShapes Go.ChangeAt Go.RowKit
set_option linter.unusedVariables false
set_option linter.unusedSimpArgs false

theorem walk (a : Option Addr) (n cap : Nat) (root : Int) (iv : Int) (nd : Nat → NodeC) (w : World) (hb : -32768 ≤ root ∧ root ≤ 32767) (hv : 0 ≤ iv ∧ iv ≤ 65535) (hr : NRow w a n nd) :
    Calls Fahg.prog 6 #[.agg #[.slice a n cap, .int .i16 root], .int .u16 iv] w fun e w' => e = .returned (.bool true) ∧ Below w.heap.size w w' := by
  by_cases hlim : Lim n root
  · rcases hr with rfl | ⟨b, off, rfl, hc⟩
    · have hroot : root = -1 := by unfold Lim at hlim; omega
      subst hroot
      exact once_few a 0 cap (-1) iv w (by omega) fun tb w' h0 h1 hb' => ⟨check_zero tb cap a w' h0 h1, good_null tb (.slice a 0 cap) w' h1 (check_zero tb cap a w' h0 h1), equal_null tb tb w' h1 h1 (check_zero tb cap a w' h0 h1) fun w2 hw2 => check_zero tb cap a w2 (Below.kept hw2 h0) (Below.kept hw2 h1)⟩
    · have hc' : NCells w b off n nd := hc
      have hck := fun (tb : Nat) (w' : World) h0 h1 (hb' : Below w.heap.size w w') => check_main tb b off n cap root nd w' h0 h1 (NCells.below hc' hb') hlim
      by_cases hC : CheckP n root nd
      · rw [pB_true hC] at hck
        have hall : ∀ (tb : Nat) (w' : World), w'.cell? ⟨tb, 0, none⟩ = some (.slice (some ⟨b, off, none⟩) n cap) → w'.cell? ⟨tb, 1, none⟩ = some (.int .i16 root) → Below w.heap.size w w' → (Calls Fahg.prog 23 #[.pointer (some ⟨tb, 0, none⟩)] w' fun e w'' => e = .returned (.bool true) ∧ Below w'.heap.size w' w'') ∧ (Calls Fahg.prog 25 #[.pointer (some ⟨tb, 0, none⟩)] w' fun e w'' => ∃ ub, e = .returned (.pointer (some ⟨ub, 0, none⟩)) ∧ Below w'.heap.size w' w'' ∧ NormGood w'' ub) ∧ (Calls Fahg.prog 26 #[.pointer (some ⟨tb, 0, none⟩), .pointer (some ⟨tb, 0, none⟩)] w' fun e w'' => e = .returned (.bool true) ∧ Below w'.heap.size w' w'') := by
          intro tb w' h0 h1 hb'
          refine ⟨hck tb w' h0 h1 hb', ?_, self_equal tb b off n cap root nd w' h0 h1 (NCells.below hc' hb') hC⟩
          by_cases hroot : root = -1
          · have hck1 := hck tb w' h0 h1 hb'
            rw [hroot] at h1
            exact good_null tb (.slice (some ⟨b, off, none⟩) n cap) w' h1 hck1
          · have hge : 0 ≤ root := by unfold Lim at hlim; omega
            obtain ⟨r, rfl⟩ : ∃ r : Nat, root = (r : Nat) := ⟨root.toNat, by omega⟩
            exact good_main tb b off n cap r nd w' h0 h1 (NCells.below hc' hb') hC
        by_cases hn2 : n < 2
        · exact once_few _ n cap root iv w hn2 hall
        · obtain ⟨ivn, rfl⟩ : ∃ ivn : Nat, iv = (ivn : Nat) := ⟨iv.toNat, by omega⟩
          exact once_many b off n cap root ivn nd w (by omega) (by omega) hc' hC hall
      · rw [pB_false hC] at hck
        exact once_no _ n cap root iv w hck
  · exact once_no a n cap root iv w fun tb w' h0 h1 hb' => check_out tb n cap a root w' h0 h1 hb hlim

set_option maxRecDepth 100000 in
theorem lifted (os : Os) (started : os.Started) (H : Type) (enc : TypeId × Value → H) :
    ReturnsInHanded {} Fahg.checked os 6 .any (Rows.normOnceSpec.pre6 enc Fahg.prog Fahg.f6 Rows.normOnceRow.domain false) (Rows.normOnceSpec.post enc Fahg.prog Fahg.f6 false true false false) := by
  refine returnsInHanded_of_change (C := Fahg.checked) own started (by kernel_rfl) Fahg.func6
    (ChangeSpec.witness6 (enc := enc) (C := Fahg.checked) false ⟨#[], #[.agg #[.slice none 0 0, .int .i16 0], .int .u16 0], []⟩ 8 (by kernel_rfl) (by kernel_rfl) (by kernel_rfl) (by kernel_rfl)) ?_
  intro W base args ds gs before hval0 hW hcnd _
  have hval : ∀ (j : Nat) t v, Fahg.f6.params[j]? = some t → args[j]? = some v → Value.okWide Fahg.prog W .any base t v := hval0
  have hW' := hW
  obtain ⟨p, q, hA0, hV, rfl, hfz, hnd⟩ := hW
  have hA : DataW.TrodAll enc Fahg.prog W 0 (fun _ => true) true Fahg.f6.params.toList args.toList ds p := hA0
  rw [Fahg.params6] at hA hval
  obtain ⟨v0, vs0, d0, ds0, p0, q0, hargs, rfl, rfl, h0, r0⟩ := trodAll_cons hA
  obtain ⟨v1, vs1, d1, ds1, p1, q1, rfl, rfl, rfl, h1, r1⟩ := trodAll_cons r0
  obtain ⟨rfl, rfl, rfl⟩ := trodAll_nil r1
  obtain rfl : args = #[v0, v1] := by cases args; simp_all
  obtain ⟨rfl, rfl⟩ := trodVars_none hV
  have k0 := h0
  have lt0 : ∀ x ∈ p0, x.block < W.heap.size := by obtain ⟨m, hm⟩ := k0; exact DataW.trod_lt m _ _ _ hm
  obtain ⟨a, len, cap, root, nd, rfl, hb, hle, hmax, hnil, hrow⟩ := open_tree (hval 0 53 v0 rfl rfl) h0
  obtain ⟨a1, rfl, rfl, rfl, w1⟩ := open_int Fahg.underlying23 (hval 1 23 v1 rfl rfl) h1
  have b1 := bnd_u16 w1
  clear hA0 hval0
  refine (walk a len cap root a1 nd W hb b1 hrow).mono fun e W' ⟨he, bel⟩ => ?_
  subst he
  exact ⟨_, rfl, _, _, _, [], _, [], hW', trodAll_mk1 (shut_bool Fahg.underlying4 _), (trodAll_cons_mk (Below.trod laidOut (by kernel_rfl) (of_decide_eq_true (by kernel_rfl)) k0 bel lt0) (trodAll_cons_mk (shut_int Fahg.underlying23 w1) trodAll_mk0)), rfl, bel.frame _, fun h => by cases h⟩

theorem over : Rows.normOnceRow.holds Fahg.pinned (OpenSpec.ofChange Rows.normOnceSpec) :=
  OpenClaim.holds_of_wide 6 Fahg.f6 rfl rfl rfl rfl rfl rfl rfl ⟨rfl, rfl, rfl, rfl, rfl⟩ rfl rfl rfl rfl rfl (by kernel_rfl) Fahg.func6 (by kernel_rfl)
    (of_decide_eq_true (by kernel_rfl)) (by unfold Func.isWrapper; first | (rw [if_pos (by decide +kernel)]; kernel_rfl) | (rw [if_neg (by decide +kernel)]; exact ⟨rfl, rfl⟩))
    (fun os started H enc _ => lifted os started H enc)

theorem proved : Rows.NormOnceSaid := over
#print axioms proved
end Go.Proofs.Ygcfah.normOnce
