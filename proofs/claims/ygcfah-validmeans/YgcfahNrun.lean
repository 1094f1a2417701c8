/- vmodel.visitRun. -/
import Derived.Test.YgcfahNgather
import Derived.Test.YgcfahNstep
import Derived.Deep.LoopGhost
namespace Go.Proofs.Ygcfah
open Go.RowKit
set_option linter.unusedVariables false
set_option linter.unusedSimpArgs false
theorem visL_append (f : (Nat → Bool) × Nat → Nat → Option ((Nat → Bool) × Nat)) (ks ls : List Nat) : ∀ s, visL f s (ks ++ ls) = (visL f s ks).bind fun s' => visL f s' ls := by
  induction ks with
  | nil => intro s; rfl
  | cons k ks ih =>
    intro s
    rw [List.cons_append, visL, visL]
    cases f s k with
    | none => rfl
    | some s' => exact ih s'
theorem drop_map_range (f : Nat → Nat) (n k : Nat) (h : k < n) : ((List.range n).map f).drop k = f k :: ((List.range n).map f).drop (k + 1) := by
  rw [List.drop_eq_getElem_cons (by simpa using h)]
  simp
theorem drop_map_end (f : Nat → Nat) (n : Nat) : ((List.range n).map f).drop n = [] := by simp
/-- What vmodel.visit does. -/
def NVisitOk (b off len cap : Nat) (z : Int → Int) (B g left : Nat) : Prop :=
  ∀ (a : Nat) (s : (Nat → Bool) × Nat) (w : World), a < len → Row w b off len z → B ≤ w.heap.size → NMst w B g s.1 →
    Calls Fahg.prog 90 #[.slice (some ⟨b, off, none⟩) len cap, .int .i64 a, .int .i64 left, .pointer (some ⟨g, 0, none⟩)] w fun e w' => e = .returned (.bool (vis (resN z len) left s a).isSome) ∧ NMv B g w w' ∧ ∀ s', vis (resN z len) left s a = some s' → NMst w' B g s'.1
theorem nvisit_at {b off len cap : Nat} {z : Int → Int} {B g left : Nat} (h : NVisitOk b off len cap z B g left) (a : Nat) (x : Int) (hx : x = a) (s : (Nat → Bool) × Nat) (w : World) (ha : a < len) (hr : Row w b off len z) (hB : B ≤ w.heap.size) (hm : NMst w B g s.1) :
    Calls Fahg.prog 90 #[.slice (some ⟨b, off, none⟩) len cap, .int .i64 x, .int .i64 left, .pointer (some ⟨g, 0, none⟩)] w fun e w' => e = .returned (.bool (vis (resN z len) left s a).isSome) ∧ NMv B g w w' ∧ ∀ s', vis (resN z len) left s a = some s' → NMst w' B g s'.1 := by
  subst hx; exact h a s w ha hr hB hm

set_option maxRecDepth 100000 in
set_option maxHeartbeats 1000000 in
/-- visitRun: n words from A on. -/
theorem nrun (b off len cap : Nat) (z : Int → Int) (B g left : Nat) (hl2 : len ≤ 256) (hleft : left ≤ 8) (hb : b < B) (hBg : B ≤ g) (IH : Hid (NVisitOk b off len cap z B g left)) (A n : Nat) (X : Int) (hX : X = A) (hA : A + n ≤ len) (s : (Nat → Bool) × Nat) (w : World) (hRow : Row w b off len z) (hBw : B ≤ w.heap.size) (hM : NMst w B g s.1) (V : Option ((Nat → Bool) × Nat)) (hV : Hid (V = visL (vis (resN z len) left) s ((List.range n).map fun k => A + k))) :
    Calls Fahg.prog 143 #[.slice (some ⟨b, off, none⟩) len cap, .int .i64 X, .int .i64 n, .int .i64 left, .pointer (some ⟨g, 0, none⟩)] w fun e w' => e = .returned (.bool V.isSome) ∧ NMv B g w w' ∧ ∀ s', V = some s' → NMst w' B g s'.1 := by
  subst hX
  have HR : Hid _ := hRow
  have HM : Hid _ := hM
  clear hRow hM
  go_enter Fahg.func143, Fahg.ntmps143
  go_wp2_with fail
  go_loopg [11] n (fun k I wr => ∃ (i : Nat) (s' : (Nat → Bool) × Nat), i + k = n ∧ I = .int .i64 (i : Nat) ∧ NMst wr B g s'.1 ∧ NMv B g w wr ∧ V = visL (vis (resN z len) left) s' (((List.range n).map fun k => A + k).drop i))
  case atStart => exact ⟨0, s, by omega, rfl, HM.out, .refl _ _ _, by rw [List.drop_zero]; exact hV.out⟩
  case round =>
    obtain ⟨i, s2, hi, rfl, hM, hv, hVe⟩ := hrel
    have HM2 : Hid _ := hM
    have HV2 : Hid _ := hv
    have HVE2 : Hid _ := hVe
    clear hM hv hVe HM hV
    by_cases hlti : i < n
    · go_wp2_with fail
      have hwsz : B ≤ wr.heap.size := Nat.le_trans hBw HV2.out.size
      refine (nvisit_at IH.out (A + i) _ (by push_cast; try rfl) s2 wr (by omega) (Row.below HR.out (HV2.out.below hBg hBw) hb) hwsz HM2.out).mono ?_
      rintro e' w5 ⟨rfl, hv5, hm5⟩
      have hVV := HVE2.out
      rw [drop_map_range _ _ _ hlti, visL] at hVV
      cases hvs : vis (resN z len) left s2 (A + i) with
      | none =>
        rw [hvs] at hVV
        have HVn : Hid (V = none) := hVV
        have HV6 : Hid _ := HV2.out.trans hv5
        clear hVV hvs hm5 hv5 HVE2 HV2 HM2
        simp only [Option.isSome_none]
        go_wp2_with fail
        go_ret
        have e := HVn.out
        subst e
        exact ⟨rfl, HV6.out, fun s' h => by cases h⟩
      | some s3 =>
        rw [hvs] at hVV
        have HVn : Hid (V = visL (vis (resN z len) left) s3 (((List.range n).map fun k => A + k).drop (i + 1))) := hVV
        have HV6 : Hid _ := HV2.out.trans hv5
        have HM6 : Hid _ := hm5 s3 hvs
        clear hVV hvs hm5 hv5 HVE2 HV2 HM2
        simp only [Option.isSome_some]
        go_wp2_with fail
        go_roundg (n - (i + 1))
        case rel => exact ⟨i + 1, s3, by omega, by simp, HM6.out, HV6.out, HVn.out⟩
        case measure => omega
    · obtain hie : i = n := by omega
      go_wp2_with fail
      go_ret
      have e1 := HVE2.out
      rw [hie, drop_map_end, visL] at e1
      subst e1
      exact ⟨rfl, HV2.out, fun s' h => by cases h; exact HM2.out⟩
end Go.Proofs.Ygcfah
