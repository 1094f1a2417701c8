/- law.plainCheck. -/
import Derived.Test.YgcfahTck
import Derived.Test.YgcfahTpn
import Derived.Test.YgcfahTpl
import Derived.Test.YgcfahTpr
namespace Go.Proofs.Ygcfah
open Go.RowKit
set_option linter.unusedVariables false
set_option linter.unusedSimpArgs false
def PlainP (n : Nat) (root : Int) (nd : Nat → NodeC) : Prop :=
  Lim n root ∧ (∀ i, i < n → PShp n nd i) ∧ PLinks n root nd ∧ (root = -1 ∨ 1 + pwr nd root.toNat 1 false ≤ 256)
theorem check_plain (n : Nat) (root : Int) (nd : Nat → NodeC) : CheckP n root nd ↔ PlainP n root nd := by
  unfold CheckP PlainP PLinks
  constructor
  · rintro ⟨h1, h2, h3, h4⟩
    exact ⟨h1, fun i hi => (shp_pshp (h2 i hi).1).1 (h2 i hi).2, ⟨fun i hi => (h2 i hi).1, h3⟩, h4⟩
  · rintro ⟨h1, h2, ⟨h5, h3⟩, h4⟩
    exact ⟨h1, fun i hi => ⟨h5 i hi, (shp_pshp (h5 i hi)).2 (h2 i hi)⟩, h3, h4⟩
theorem PShp.kl {n : Nat} {nd : Nat → NodeC} {i : Nat} (h : PShp n nd i) : (nd i).kL ≤ 128 := by
  unfold PShp at h
  omega
set_option maxRecDepth 100000 in
set_option maxHeartbeats 2000000 in
theorem pcheck_main (tb b off n cap : Nat) (root : Int) (nd : Nat → NodeC) (w : World) (ht : w.cell? ⟨tb, 0, none⟩ = some (.slice (some ⟨b, off, none⟩) n cap)) (ht2 : w.cell? ⟨tb, 1, none⟩ = some (.int .i16 root)) (hr : NCells w b off n nd) (hlim : Lim n root) (hpw : Hid (Tok n nd → PWalks tb b off n cap nd)) :
    Calls Fahg.prog 24 #[.pointer (some ⟨tb, 0, none⟩)] w fun e w' => e = .returned (.bool (pB (PlainP n root nd))) ∧ Below w.heap.size w w' := by
  have HLIM : Hid (Lim n root) := hlim
  obtain ⟨hn, hr1, hr2⟩ := hlim
  have HR : Hid (NCells w b off n nd) := hr
  have HANS : Hid ((PlainP n root nd → pB (PlainP n root nd) = true) ∧ (¬PlainP n root nd → pB (PlainP n root nd) = false)) := ⟨pB_true, pB_false⟩
  clear hr
  have htb : tb < w.heap.size := World.block_lt_of_cell? w _ ht
  have d1 : decide ((512 : Int) < n) = false := by simp; omega
  have d2 : decide (root < -1) = false := by simp; omega
  have d3 : decide ((n : Int) ≤ root) = false := by simp; omega
  have hr3 : root ≤ 32767 := by omega
  generalize pB (PlainP n root nd) = ANS at *
  go_enter Fahg.func24, Fahg.ntmps24
  go_wp2_with fail
  go_quiet (fail)
  have HB0 : Hid (Below w.heap.size w (w.drewN nq)) := below_drewN' (Below.refl _ _) _
  have y1 : (w.drewN nq).cell? ⟨tb, 0, none⟩ = some (.slice (some ⟨b, off, none⟩) n cap) := ht
  have y2 : (w.drewN nq).cell? ⟨tb, 1, none⟩ = some (.int .i16 root) := ht2
  generalize w.drewN nq = w0 at *
  go_wp2_with fail
  go_loopg [37] n (fun k I wr => ∃ i : Nat, i + k = n ∧ I = .int .i64 (i : Nat) ∧ Hid (Below w.heap.size w wr) ∧ Hid (∀ x, x < i → PShp n nd x))
  case atStart => exact ⟨0, by omega, rfl, HB0, fun x hx => absurd hx (by omega)⟩
  clear y1 y2 HB0
  obtain ⟨i, hik, rfl, HB, HSH⟩ := hrel
  have t1 := Below.kept HB.out ht
  have t2 := Below.kept HB.out ht2
  by_cases hlt : i < n
  case pos =>
    have HPN : Hid _ := pnode_any tb b off n cap nd i wr t1 (NCells.below HR.out HB.out) hlt hn
    by_cases hS : PShp n nd i
    · rw [pB_true hS] at HPN
      have HSI : Hid _ := hS
      clear hS
      go_wp2_with fail
      refine Calls.mono HPN.out ?_
      rintro e w1 ⟨rfl, hb1⟩
      have HB1 : Hid (Below w.heap.size w w1) := HB.out.trans (hb1.mono HB.out.size)
      clear hb1 HPN
      go_wp2_with fail
      go_roundg (n - (i + 1))
      case rel =>
        refine ⟨i + 1, by omega, by simp, HB1, ?_⟩
        intro x hx
        by_cases hxi : x = i
        · subst hxi; exact HSI.out
        · exact HSH.out x (by omega)
      case measure => omega
    · rw [pB_false hS] at HPN
      have HE : Hid (ANS = false) := HANS.out.2 fun h => hS (h.2.1 i hlt)
      clear hS
      go_wp2_with fail
      refine Calls.mono HPN.out ?_
      rintro e w1 ⟨rfl, hb1⟩
      have HB1 : Hid (Below w.heap.size w w1) := HB.out.trans (hb1.mono HB.out.size)
      clear hb1 HPN
      go_wp2_with fail
      go_ret
      exact ⟨ret_bool HE.out.symm, HB1.out⟩
  have hin : i = n := by omega
  subst hin
  have HPL : Hid _ := plinks_any tb b off i cap root nd wr t1 t2 (NCells.below HR.out HB.out) hn hr1 hr2 (fun x hx => (HSH.out x hx).kl)
  by_cases hL : PLinks i root nd
  case neg =>
    rw [pB_false hL] at HPL
    have HE : Hid (ANS = false) := HANS.out.2 fun h => hL h.2.2.1
    clear hL
    go_wp2_with fail
    refine Calls.mono HPL.out ?_
    rintro e w1 ⟨rfl, hb1⟩
    have HB1 : Hid (Below w.heap.size w w1) := HB.out.trans (hb1.mono HB.out.size)
    clear hb1 HPL
    go_wp2_with fail
    go_ret
    exact ⟨ret_bool HE.out.symm, HB1.out⟩
  rw [pB_true hL] at HPL
  have HLI : Hid _ := hL
  have HTK : Hid (Tok i nd) := ⟨hL.1, fun x hx => (shp_pshp (hL.1 x hx)).2 (HSH.out x hx)⟩
  clear hL
  go_wp2_with fail
  refine Calls.mono HPL.out ?_
  rintro e w1 ⟨rfl, hb1⟩
  have HB1 : Hid (Below w.heap.size w w1) := HB.out.trans (hb1.mono HB.out.size)
  clear hb1 HPL t1 t2
  have t1 := Below.kept HB1.out ht
  have t2 := Below.kept HB1.out ht2
  by_cases hroot : root = -1
  · have HE : Hid (ANS = true) := HANS.out.1 ⟨HLIM.out, HSH.out, HLI.out, .inl hroot⟩
    have d9 : (root == -1) = true := by simp [hroot]
    clear hroot
    go_wp2_with fail
    go_ret
    exact ⟨ret_bool HE.out.symm, HB1.out⟩
  obtain ⟨r, hrr⟩ : ∃ r : Nat, root = r := ⟨root.toNat, by omega⟩
  have HAN2 : Hid (ANS = decide (1 + pwr nd r 1 false ≤ 256)) := by
    show ANS = _
    by_cases hle : 1 + pwr nd r 1 false ≤ 256
    · rw [HANS.out.1 ⟨HLIM.out, HSH.out, HLI.out, .inr (by rw [hrr, Int.toNat_natCast]; exact hle)⟩]
      simp [hle]
    · rw [HANS.out.2 fun h => by
        rcases h.2.2.2 with h | h
        · exact hroot h
        · rw [hrr, Int.toNat_natCast] at h; exact hle h]
      simp [hle]
  subst hrr
  have hub := pw_root_le HLI.out.2 HTK.out (show r < i by omega)
  have HPW : Hid _ := hpw.out HTK.out r w1 t1 (NCells.below HR.out HB1.out) (by omega)
  have d9 : ((r : Int) == -1) = false := by simp
  generalize pwr nd r 1 false = p at *
  go_wp2_with fail
  refine Calls.mono HPW.out ?_
  rintro e w2 ⟨hres, hb2⟩
  have HB2 : Hid (Below w.heap.size w w2) := HB1.out.trans (hb2.mono HB1.out.size)
  clear hb2 HPW
  cases hres with
  | yes =>
    have hwp : wrap64 ((p : Nat) : Int) = (p : Nat) := by unfold wrap64; omega
    have HE : Hid (decide ((1 : Int) + (p : Nat) ≤ 256) = ANS) := by
      rw [HAN2.out]
      show decide _ = decide _
      rw [decide_eq_decide]
      omega
    rw [hwp]
    clear hwp
    go_wp2_with fail
    go_ret
    exact ⟨ret_bool HE.out, HB2.out⟩
  | no hbig =>
    have HE : Hid (ANS = false) := by
      rw [HAN2.out]
      show decide _ = false
      rw [decide_eq_false_iff_not]
      omega
    go_wp2_with fail
    go_ret
    exact ⟨ret_bool HE.out.symm, HB2.out⟩
end Go.Proofs.Ygcfah
