/- law.EmptyNil: the row. -/
import Derived.Test.YgcfahRows
import Derived.WalkKit
import Derived.ProofKit
import Derived.OpenShut
import Derived.ShutString
import Derived.Test.YgcfahEnOpen
namespace Go.Proofs.Ygcfah.emptyNil
open Go.ChangeShapes Go.WideShapes Go.ChangeAt Go.RowKit
set_option linter.unusedVariables false
theorem own : ownKnob Fahg.prog.godebug = none := by kernel_rfl
theorem eq22 (w : World) : Sem.run Fahg.prog (binOp .eql 22 (.slice none 0 0) (.slice none 0 0)) w = .ok (.bool true) w := by kernel_rfl
theorem eq38 (w : World) : Sem.run Fahg.prog (binOp .eql 38 (.slice none 0 0) (.slice none 0 0)) w = .ok (.bool true) w := by kernel_rfl
theorem eqL (w : World) : Sem.run Fahg.prog (binOp .eql 45 (.slice none 0 0) (.slice none 0 0)) w = .ok (.bool true) w := by kernel_rfl
theorem bstep {w a b : World} (h : Below w.heap.size w a) (k : Below a.heap.size a b) : Below w.heap.size w b := h.trans (k.mono h.size)

set_option maxRecDepth 100000 in
set_option maxHeartbeats 4000000 in
theorem walk_f (w : World) :
    Calls Fahg.prog 4 #[.bool false] w fun e w' => e = .returned (.bool true) ∧ Below w.heap.size w w' := by
  have e22 := eq22
  have e38 := eq38
  have e139 := eqL
  go_enter Fahg.func4, Fahg.ntmps4
  go_wp2_with fail
  refine (unpack_nil _ _ _).mono ?_; rintro e w1 ⟨rfl, hb1⟩
  go_wp2_with fail
  refine (seal_f _).mono ?_; rintro e w2 ⟨g, rfl, hb2, hg, hc⟩
  have hb := bstep hb1 hb2
  clear hb1 hb2
  go_wp2_with fail
  refine (open_f _ _ hg hc).mono ?_; rintro e w3 ⟨rfl, hb3⟩
  clear hc hg
  have hb' := bstep hb hb3
  clear hb hb3
  go_wp2_with fail
  refine (layout_nil _).mono ?_; rintro e w4 ⟨rfl, hb4⟩
  have hb := bstep hb' hb4
  clear hb' hb4
  go_wp2_with fail
  refine (pack_nil _).mono ?_; rintro e w5 ⟨rfl, rfl⟩
  go_wp2_with fail
  go_ret
  exact ⟨rfl, hb⟩

set_option maxRecDepth 100000 in
set_option maxHeartbeats 4000000 in
theorem walk_t (w : World) :
    Calls Fahg.prog 4 #[.bool true] w fun e w' => e = .returned (.bool true) ∧ Below w.heap.size w w' := by
  have e22 := eq22
  have e38 := eq38
  have e139 := eqL
  go_enter Fahg.func4, Fahg.ntmps4
  go_wp2_with fail
  refine (unpack_nil _ _ _).mono ?_; rintro e w1 ⟨rfl, hb1⟩
  go_wp2_with fail
  refine (seal_t _).mono ?_; rintro e w2 ⟨g, rfl, hb2, hg, hc⟩
  have hb := bstep hb1 hb2
  clear hb1 hb2
  go_wp2_with fail
  refine (open_t _ _ hg hc).mono ?_; rintro e w3 ⟨rfl, hb3⟩
  clear hc hg
  have hb' := bstep hb hb3
  clear hb hb3
  go_wp2_with fail
  refine (layout_nil _).mono ?_; rintro e w4 ⟨rfl, hb4⟩
  have hb := bstep hb' hb4
  clear hb' hb4
  go_wp2_with fail
  refine (pack_nil _).mono ?_; rintro e w5 ⟨rfl, rfl⟩
  go_wp2_with fail
  go_ret
  exact ⟨rfl, hb⟩

theorem walk (a0 : Bool) (w : World) :
    Calls Fahg.prog 4 #[.bool a0] w fun e w' => e = .returned (.bool true) ∧ Below w.heap.size w w' := by
  cases a0
  · exact walk_f w
  · exact walk_t w

set_option maxRecDepth 100000 in
theorem lifted (os : Os) (started : os.Started) (H : Type) (enc : TypeId × Value → H) :
    ReturnsInHanded {} Fahg.checked os 4 .any (Rows.emptyNilSpec.pre6 enc Fahg.prog Fahg.f4 Rows.emptyNilRow.domain false) (Rows.emptyNilSpec.post enc Fahg.prog Fahg.f4 false true false false) := by
  refine returnsInHanded_of_change (C := Fahg.checked) own started (by kernel_rfl) Fahg.func4
    (ChangeSpec.witness6 (enc := enc) (C := Fahg.checked) false ⟨#[], #[.bool false], []⟩ 8 (by kernel_rfl) (by kernel_rfl) (by kernel_rfl) (by kernel_rfl)) ?_
  intro W base args ds gs before hval0 hW hcnd _
  have hval : ∀ (j : Nat) t v, Fahg.f4.params[j]? = some t → args[j]? = some v → Value.okWide Fahg.prog W .any base t v := hval0
  have hW' := hW
  obtain ⟨p, q, hA0, hV, rfl, hfz, hnd⟩ := hW
  have hA : DataW.TrodAll enc Fahg.prog W 0 (fun _ => true) true Fahg.f4.params.toList args.toList ds p := hA0
  rw [Fahg.params4] at hA hval
  obtain ⟨v0, vs0, d0, ds0, p0, q0, hargs, rfl, rfl, h0, r0⟩ := trodAll_cons hA
  obtain ⟨rfl, rfl, rfl⟩ := trodAll_nil r0
  obtain rfl : args = #[v0] := by cases args; simp_all
  obtain ⟨rfl, rfl⟩ := trodVars_none hV
  obtain ⟨a0, rfl, rfl, rfl⟩ := open_bool Fahg.underlying4 (hval 0 4 v0 rfl rfl) h0
  clear hA0 hval0
  refine (walk a0 W).mono fun e W' ⟨he, bel⟩ => ?_
  subst he
  exact ⟨_, rfl, _, _, _, [], _, [], hW', trodAll_mk1 (shut_bool Fahg.underlying4 _), (trodAll_cons_mk (shut_bool Fahg.underlying4 _) trodAll_mk0), rfl, bel.frame _, fun h => by cases h⟩

theorem over : Rows.emptyNilRow.holds Fahg.pinned (OpenSpec.ofChange Rows.emptyNilSpec) :=
  OpenClaim.holds_of_wide 4 Fahg.f4 rfl rfl rfl rfl rfl rfl rfl ⟨rfl, rfl, rfl, rfl, rfl⟩ rfl rfl rfl rfl rfl (by kernel_rfl) Fahg.func4 (by kernel_rfl)
    (of_decide_eq_true (by kernel_rfl)) (by unfold Func.isWrapper; first | (rw [if_pos (by decide +kernel)]; kernel_rfl) | (rw [if_neg (by decide +kernel)]; exact ⟨rfl, rfl⟩))
    (fun os started H enc _ => lifted os started H enc)

theorem proved : Rows.EmptyNilSaid := over
#print axioms proved
end Go.Proofs.Ygcfah.emptyNil
