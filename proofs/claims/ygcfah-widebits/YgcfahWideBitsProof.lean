/- law.WideBits: the row. -/
import Derived.Test.YgcfahOpen
import Derived.Test.YgcfahWbIn
import Derived.Test.YgcfahWbOutA
import Derived.Test.YgcfahWbOutB
import Derived.Test.YgcfahWbOutC
namespace Go.Proofs.Ygcfah.wideBits
open Go.ChangeShapes Go.WideShapes Go.ChangeAt Go.RowKit
set_option linter.unusedVariables false

theorem walk (a0 : Option Addr) (len cap : Nat) (at_ : Int) (q1 q2 q3 q4 q5 q6 : Int) (w : World) (hs : SliceRow w a0 len cap ∨ (∃ x, a0 = some x ∧ cap = 0 ∧ len = 0)) (h0 : 0 ≤ at_) (h1 : at_ ≤ 65535)
    (hq : WP.ok ⟨q1, q2, q3, q4, q5, q6⟩) :
    Calls Fahg.prog 10 #[.slice a0 len cap, .int .u16 at_, .agg #[.int .u8 q1, .int .u16 q2, .int .u8 q3, .int .u8 q4, .int .u8 q5, .int .u32 q6]] w fun e w' => e = .returned (.bool true) ∧ Below w.heap.size w w' := by
  have hlc : len ≤ cap := by
    rcases hs with (⟨rfl, rfl, rfl⟩ | ⟨b, off, z, rfl, h, _⟩) | ⟨x, rfl, rfl, rfl⟩
    · exact Nat.le_refl _
    · exact h
    · exact Nat.le_refl _
  by_cases hin : len ≤ 256 ∧ at_ < len
  · rcases hs with (⟨rfl, rfl, rfl⟩ | ⟨b, off, z, rfl, h, _, hr⟩) | ⟨x, rfl, rfl, rfl⟩
    · omega
    · have hr' : Row w b off len z := fun i a c => hr i a (by omega)
      by_cases hk : (q1 == 0) = true
      · exact wideBits_in_zero b off len cap at_ z h0 hin.2 hin.1 h w hr' q1 q2 q3 q4 q5 q6 hq hk
      · exact wideBits_in_pos b off len cap at_ z h0 hin.2 hin.1 h w hr' q1 q2 q3 q4 q5 q6 hq (by simpa using hk)
    · omega
  · by_cases hl : len ≤ 257
    · by_cases hl2 : len ≤ 256
      · by_cases hk : (q1 == 0) = true
        · exact wideBits_outA_zero a0 len cap at_ h0 h1 hlc hl2 (by omega) w q1 q2 q3 q4 q5 q6 hq hk
        · exact wideBits_outA_pos a0 len cap at_ h0 h1 hlc hl2 (by omega) w q1 q2 q3 q4 q5 q6 hq (by simpa using hk)
      · by_cases hk : (q1 == 0) = true
        · exact wideBits_outC_zero a0 len cap at_ h0 h1 hlc hl (by omega) w q1 q2 q3 q4 q5 q6 hq hk
        · exact wideBits_outC_pos a0 len cap at_ h0 h1 hlc hl (by omega) w q1 q2 q3 q4 q5 q6 hq (by simpa using hk)
    · by_cases hk : (q1 == 0) = true
      · exact wideBits_outB_zero a0 len cap at_ h0 h1 hlc (by omega) w q1 q2 q3 q4 q5 q6 hq hk
      · exact wideBits_outB_pos a0 len cap at_ h0 h1 hlc (by omega) w q1 q2 q3 q4 q5 q6 hq (by simpa using hk)

set_option maxRecDepth 100000 in
theorem lifted (os : Os) (started : os.Started) (H : Type) (enc : TypeId × Value → H) :
    ReturnsInHanded {} Fahg.checked os 10 .any (Rows.wideBitsSpec.pre6 enc Fahg.prog Fahg.f10 Rows.wideBitsRow.domain false) (Rows.wideBitsSpec.post enc Fahg.prog Fahg.f10 false true false false) := by
  refine returnsInHanded_of_change (C := Fahg.checked) own started (by kernel_rfl) Fahg.func10
    (ChangeSpec.witness6 (enc := enc) (C := Fahg.checked) false ⟨#[], #[.slice none 0 0, .int .u16 0, .agg #[.int .u8 0, .int .u16 0, .int .u8 0, .int .u8 0, .int .u8 0, .int .u32 0]], []⟩ 8 (by kernel_rfl) (by kernel_rfl) (by kernel_rfl) (by kernel_rfl)) ?_
  intro W base args ds gs before hval0 hW hcnd _
  have hval : ∀ (j : Nat) t v, Fahg.f10.params[j]? = some t → args[j]? = some v → Value.okWide Fahg.prog W .any base t v := hval0
  have hW' := hW
  obtain ⟨p, q, hA0, hV, rfl, hfz, hnd⟩ := hW
  have hA : DataW.TrodAll enc Fahg.prog W 0 (fun _ => true) true Fahg.f10.params.toList args.toList ds p := hA0
  rw [Fahg.params10] at hA hval
  obtain ⟨v0, vs0, d0, ds0, p0, q0, hargs, rfl, rfl, h0, r0⟩ := trodAll_cons hA
  obtain ⟨v1, vs1, d1, ds1, p1, q1, rfl, rfl, rfl, h1, r1⟩ := trodAll_cons r0
  obtain ⟨v2, vs2, d2, ds2, p2, q2, rfl, rfl, rfl, h2, r2⟩ := trodAll_cons r1
  obtain ⟨rfl, rfl, rfl⟩ := trodAll_nil r2
  obtain rfl : args = #[v0, v1, v2] := by cases args; simp_all
  obtain ⟨rfl, rfl⟩ := trodVars_none hV
  obtain ⟨a0, len0, cap0, rfl⟩ := okWide_slice Fahg.underlying38 (hval 0 38 v0 rfl rfl)
  have k0 := h0
  have lt0 : ∀ x ∈ p0, x.block < W.heap.size := by obtain ⟨m, hm⟩ := k0; exact DataW.trod_lt m _ _ _ hm
  have k2 := h2
  have lt2 : ∀ x ∈ p2, x.block < W.heap.size := by obtain ⟨m, hm⟩ := k2; exact DataW.trod_lt m _ _ _ hm
  have s0 := open_words h0
  obtain ⟨a1, rfl, rfl, rfl, w1⟩ := open_int Fahg.underlying23 (hval 1 23 v1 rfl rfl) h1
  have b1 := bnd_u16 w1
  obtain ⟨z1, z2, z3, z4, z5, z6, rfl, hq⟩ := open_wptr (hval 2 78 v2 rfl rfl) h2
  clear hA0 hval0
  refine (walk a0 len0 cap0 a1 z1 z2 z3 z4 z5 z6 W s0 b1.1 b1.2 hq).mono fun e W' ⟨he, bel⟩ => ?_
  subst he
  exact ⟨_, rfl, _, _, _, [], _, [], hW', trodAll_mk1 (shut_bool Fahg.underlying4 _), (trodAll_cons_mk (Below.trod laidOut (by kernel_rfl) (of_decide_eq_true (by kernel_rfl)) k0 bel lt0) (trodAll_cons_mk (shut_int Fahg.underlying23 w1) (trodAll_cons_mk (Below.trod laidOut (by kernel_rfl) (of_decide_eq_true (by kernel_rfl)) k2 bel lt2) trodAll_mk0))), rfl, bel.frame _, fun h => by cases h⟩

theorem over : Rows.wideBitsRow.holds Fahg.pinned (OpenSpec.ofChange Rows.wideBitsSpec) :=
  OpenClaim.holds_of_wide 10 Fahg.f10 rfl rfl rfl rfl rfl rfl rfl ⟨rfl, rfl, rfl, rfl, rfl⟩ rfl rfl rfl rfl rfl (by kernel_rfl) Fahg.func10 (by kernel_rfl)
    (of_decide_eq_true (by kernel_rfl)) (by unfold Func.isWrapper; first | (rw [if_pos (by decide +kernel)]; kernel_rfl) | (rw [if_neg (by decide +kernel)]; exact ⟨rfl, rfl⟩))
    (fun os started H enc _ => lifted os started H enc)

theorem proved : Rows.WideBitsSaid := over
#print axioms proved
end Go.Proofs.Ygcfah.wideBits
