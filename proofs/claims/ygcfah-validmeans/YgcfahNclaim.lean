/- bitsx.Put of ones, and valid.Walk.claim. -/
import Derived.Test.YgcfahNfol
import Derived.Laws.BitsAllLaws
namespace Go.Proofs.Ygcfah
open Go.RowKit
set_option linter.unusedVariables false
set_option linter.unusedSimpArgs false
def ones (n : Nat) : Int := 2 ^ n - 1
theorem mask_all (n : Nat) (h1 : n ≤ 64) (w : World) :
    Calls Fahg.prog 148 #[.int .u8 n] w fun e w' => e = .returned (.int .u64 (ones n)) ∧ w' = w := by
  by_cases h : n = 64
  · subst h
    go_enter Fahg.func148, Fahg.ntmps148
    go_wp2_with fail
    go_ret
    exact ⟨rfl, rfl⟩
  · have := mask_any n (by omega) (by omega) w
    simpa [ones] using this
set_option maxRecDepth 100000 in
theorem put_msk (k run : Nat) (h : k + run ≤ 64) (h1 : 1 ≤ run) (w : World) :
    Calls Fahg.prog 159 #[.int .u64 0, .int .u64 18446744073709551615, .int .u8 k, .int .u8 run] w fun e w' => e = .returned (.int .u64 (msk k run : Nat)) ∧ w' = w := by
  have hf := fun w => fits_any k run (by omega) (by omega) (by omega) (by omega) w
  rw [decide_eq_true (show (k : Int) + run ≤ 64 by omega)] at hf
  have hm := fun w => mask_all run (by omega) w
  obtain ⟨M, hM⟩ : ∃ M : Nat, M = 2 ^ run - 1 := ⟨_, rfl⟩
  have hMM : ones run = (M : Int) := by
    unfold ones; rw [hM, Int.ofNat_sub Nat.one_le_two_pow]; push_cast; rfl
  have hM64 : M < 18446744073709551616 := by
    have : 2 ^ run ≤ 2 ^ 64 := Nat.pow_le_pow_right (by omega) (by omega)
    omega
  rw [hMM] at hm
  have hsh : IntKind.u64.wrap ((M : Int) * 2 ^ k) = (msk k run : Nat) := by rw [← hMM]; exact shl_msk k run h
  have hand : bits .and .u64 18446744073709551615 (M : Int) = M := by
    have e := u64_and_nat 18446744073709551615 M (by decide) hM64
    have e2 : 18446744073709551615 &&& M = M := by
      rw [Nat.and_comm, show (18446744073709551615 : Nat) = 2 ^ 64 - 1 from rfl, Nat.and_two_pow_sub_one_eq_mod, Nat.mod_eq_of_lt hM64]
    rw [e2] at e
    exact e
  have hX64 := msk_lt k run h
  have hnot : bits .andNot .u64 0 ((msk k run : Nat) : Int) = 0 := by
    have e := u64_andNot_nat 0 (msk k run) (by decide) hX64
    rw [Nat.zero_and] at e
    exact e
  have hor : bits .or .u64 0 ((msk k run : Nat) : Int) = (msk k run : Nat) := by
    have e := bits_or_u64_nat 0 (msk k run) (by decide) hX64
    rw [Nat.zero_or] at e
    exact e
  generalize msk k run = X at *
  have HF : Hid _ := hf
  have HM : Hid _ := hm
  clear hf hm hM hMM
  go_enter Fahg.func159, Fahg.ntmps159
  go_wp2_with fail
  refine (HF.out _).mono ?_; rintro e w1 ⟨rfl, rfl⟩
  go_wp2_with fail
  refine (HM.out _).mono ?_; rintro e w2 ⟨rfl, rfl⟩
  go_wp2_with fail
  go_ret
  exact ⟨rfl, rfl⟩
set_option maxRecDepth 100000 in
set_option maxHeartbeats 1000000 in
theorem nclaim_x (g : Nat) (s : Nat → Nat) (S : Nat → Bool) (p1 p2 p3 p4 p5 p6 : Int) (lo n : Nat) (w : World) (hs : Set4 w g 0 s) (hR : Rep s S)
    (HE : Hid (∀ w, Calls Fahg.prog 53 #[WP.nval ⟨p1, p2, p3, p4, p5, p6⟩] w fun e w' => e = .returned (.tuple #[.int .u16 lo, .int .u16 n]) ∧ Below w.heap.size w w')) (han : n = 0 ∨ lo + n ≤ 256) (hlo : lo ≤ 256) :
    Calls Fahg.prog 146 #[.pointer (some ⟨g, 0, none⟩), WP.nval ⟨p1, p2, p3, p4, p5, p6⟩] w fun e w' => e = .returned (.bool (free S lo n)) ∧ Within g 0 4 w w' ∧ (free S lo n = true → ∃ s', Set4 w' g 0 s' ∧ Rep s' (join S lo n)) := by
  have hg : g < w.heap.size := World.block_lt_of_cell? w _ (hs.c 0 (by omega))
  simp only [WP.nval] at HE ⊢
  go_enter Fahg.func146, Fahg.ntmps146
  go_wp2_with fail
  refine (HE.out _).mono ?_
  rintro e w1 ⟨rfl, hb1⟩
  have hs1 : Set4 w1 g 0 s := (hs.below (below_alloc (Below.refl _ _) (Nat.le_refl _) _)).below hb1
  have HB1 : Hid (Below w.heap.size w w1) := (below_alloc (Below.refl _ _) (Nat.le_refl _) _).trans (hb1.mono (by simp))
  clear hb1 hs
  go_wp2_with fail
  go_loopg [5, 6] n (fun k A N wr => ∃ d : Nat, d + k = n ∧ A = .int .u16 (lo + d : Nat) ∧ N = .int .u16 (k : Nat) ∧ free S lo d = true ∧ Within g 0 4 w wr ∧ ∃ s', Set4 wr g 0 s' ∧ Rep s' (join S lo d))
  case atStart => exact ⟨0, by omega, rfl, rfl, by simp [free], Within.of_below HB1.out hg, s, hs1, by rw [join_zero]; exact hR⟩
  case round =>
    obtain ⟨d, hd, rfl, rfl, hF, hW, s', hs', hR'⟩ := hrel
    by_cases hk : gk = 0
    · have e : d = n := by omega
      subst hk
      clear hd
      subst e
      have HF : Hid _ := hF
      clear hF
      go_wp2_with fail
      go_ret
      exact ⟨ret_bool HF.out.symm, hW, fun _ => ⟨s', hs', hR'⟩⟩
    · have k0 : 0 < gk := by omega
      have hln : lo + n ≤ 256 := by omega
      obtain ⟨A, hA⟩ : ∃ A, A = lo + d := ⟨_, rfl⟩
      rw [← hA]
      have hA2 : A < 256 := by omega
      have hq4 : A / 64 < 4 := by omega
      have q4 : (A : Int) / 64 < 4 := by omega
      have c1 := hs'.c (A / 64) hq4
      have f1 := hs'.f (A / 64) hq4
      simp only [Nat.zero_add] at c1 f1
      have HA : Hid (A = lo + d) := hA
      have HD : Hid (d + gk = n) := hd
      have HW : Hid _ := hW
      have HS : Hid _ := hs'
      have HR : Hid _ := hR'
      have HF : Hid _ := hF
      have hgk : gk ≤ 256 := by omega
      clear hA hd hk hW hs' hR' hF hs1 hR HB1 HE
      by_cases hm : (gk : Int) < 64 - (A : Int) % 64
      · have hrp : Hid _ := rep_step s' _ HR.out A (gk) hA2 (by omega)
        have hfr := free_step s' _ HR.out A (gk) hA2 (by omega)
        have hor := bits_or_u64_nat (s' (A / 64)) (msk (A % 64) (gk)) (HR.out.lt (A / 64) hq4) (msk_lt _ _ (by omega))
        have hand := bits_and_u64_nat (s' (A / 64)) (msk (A % 64) (gk)) (HR.out.lt (A / 64) hq4) (msk_lt _ _ (by omega))
        have HPUT : Hid (∀ (k r : Int) w, k = ((A % 64 : Nat) : Int) → r = ((gk : Nat) : Int) → Calls Fahg.prog 159 #[.int .u64 0, .int .u64 18446744073709551615, .int .u8 k, .int .u8 r] w fun e w' => e = .returned (.int .u64 (msk (A % 64) (gk) : Nat)) ∧ w' = w) := fun k r w hk hr => by rw [hk, hr]; exact put_msk (A % 64) (gk) (by omega) (by omega) w
        have hst0 := HS.out.put (A / 64) hq4 (s' (A / 64) ||| msk (A % 64) (gk))
        rw [Nat.zero_add] at hst0
        have hst : Hid _ := hst0
        clear hst0
        have hfj := free_join S lo d (gk) A HA.out
        have hfa : free S lo (d + (gk)) = (free S lo d && free S (lo + d) (gk)) := free_add S lo d (gk)
        rw [← HA.out, HF.out, Bool.true_and, ← hfj, ← hfr] at hfa
        obtain ⟨M, hM⟩ : ∃ M, M = msk (A % 64) (gk) := ⟨_, rfl⟩
        rw [← hM] at hor hand hfa hrp hst HPUT
        obtain ⟨X, hX⟩ : ∃ X, X = s' (A / 64) := ⟨_, rfl⟩
        rw [← hX] at c1 hor hand hfa hrp hst
        have HFA : Hid _ := hfa
        have HX : Hid _ := hX
        clear hM hX hfr hfj hfa
        by_cases hB : X &&& M = 0
        · have hB2 : (((X &&& M : Nat) : Int) != 0) = false := by rw [hB]; rfl
          have HFT : Hid (free S lo (d + (gk)) = true) := by show _ = _; rw [HFA.out]; simpa using hB
          clear hB HFA
          go_wp2_with fail
          refine (HPUT.out _ _ _ (by first | rfl | (push_cast; first | rfl | omega)) (by first | rfl | (push_cast; first | rfl | omega) | omega)).mono ?_; rintro e w2 ⟨rfl, rfl⟩
          go_wp2_with fail
          all_goals try (go_region; go_wp2_with fail)
          all_goals try (go_region; go_wp2_with fail)
          go_roundg (0)
          case rel =>
            have eA := HA.out
            have eD := HD.out
            refine ⟨d + (gk), by omega, ?_, ?_, HFT.out, ?_, put s' (A / 64) (X ||| M), ?_, ?_⟩
            · try simp only [Value.int.injEq, true_and]
              omega
            · first | rfl | (simp only [Value.int.injEq, true_and]; omega)
            · first | exact (HW.out.set (by omega) (by omega) _).drew | exact (HW.out.set (by omega) (by omega) _).drewN _ | exact (HW.out.set (by omega) (by omega) _)
            · exact ⟨hst.out.c, hst.out.f⟩
            · have := hrp.out
              rwa [eA, join_add, ← eA] at this
          case measure => omega
        · have hB2 : (((X &&& M : Nat) : Int) != 0) = true := by simp; omega
          have HFT : Hid (free S lo n = false) := by
            show _ = _
            have eD := HD.out
            rw [show n = (d + (gk)) + (n - (d + (gk))) by omega, free_add, HFA.out, decide_eq_false hB, Bool.false_and]
          clear hB HFA
          go_wp2_with fail
          refine (HPUT.out _ _ _ (by first | rfl | (push_cast; first | rfl | omega)) (by first | rfl | (push_cast; first | rfl | omega) | omega)).mono ?_; rintro e w2 ⟨rfl, rfl⟩
          go_wp2_with fail
          go_ret
          have e := HFT.out
          exact ⟨ret_bool e.symm, HW.out, fun h => absurd (e.symm.trans h) (by decide)⟩
      · have hrp : Hid _ := rep_step s' _ HR.out A (64 - A % 64) hA2 (by omega)
        have hfr := free_step s' _ HR.out A (64 - A % 64) hA2 (by omega)
        have hor := bits_or_u64_nat (s' (A / 64)) (msk (A % 64) (64 - A % 64)) (HR.out.lt (A / 64) hq4) (msk_lt _ _ (by omega))
        have hand := bits_and_u64_nat (s' (A / 64)) (msk (A % 64) (64 - A % 64)) (HR.out.lt (A / 64) hq4) (msk_lt _ _ (by omega))
        have HPUT : Hid (∀ (k r : Int) w, k = ((A % 64 : Nat) : Int) → r = ((64 - A % 64 : Nat) : Int) → Calls Fahg.prog 159 #[.int .u64 0, .int .u64 18446744073709551615, .int .u8 k, .int .u8 r] w fun e w' => e = .returned (.int .u64 (msk (A % 64) (64 - A % 64) : Nat)) ∧ w' = w) := fun k r w hk hr => by rw [hk, hr]; exact put_msk (A % 64) (64 - A % 64) (by omega) (by omega) w
        have hst0 := HS.out.put (A / 64) hq4 (s' (A / 64) ||| msk (A % 64) (64 - A % 64))
        rw [Nat.zero_add] at hst0
        have hst : Hid _ := hst0
        clear hst0
        have hfj := free_join S lo d (64 - A % 64) A HA.out
        have hfa : free S lo (d + (64 - A % 64)) = (free S lo d && free S (lo + d) (64 - A % 64)) := free_add S lo d (64 - A % 64)
        rw [← HA.out, HF.out, Bool.true_and, ← hfj, ← hfr] at hfa
        obtain ⟨M, hM⟩ : ∃ M, M = msk (A % 64) (64 - A % 64) := ⟨_, rfl⟩
        rw [← hM] at hor hand hfa hrp hst HPUT
        obtain ⟨X, hX⟩ : ∃ X, X = s' (A / 64) := ⟨_, rfl⟩
        rw [← hX] at c1 hor hand hfa hrp hst
        have HFA : Hid _ := hfa
        have HX : Hid _ := hX
        clear hM hX hfr hfj hfa
        by_cases hB : X &&& M = 0
        · have hB2 : (((X &&& M : Nat) : Int) != 0) = false := by rw [hB]; rfl
          have HFT : Hid (free S lo (d + (64 - A % 64)) = true) := by show _ = _; rw [HFA.out]; simpa using hB
          clear hB HFA
          go_wp2_with fail
          refine (HPUT.out _ _ _ (by first | rfl | (push_cast; first | rfl | omega)) (by first | rfl | (push_cast; first | rfl | omega) | omega)).mono ?_; rintro e w2 ⟨rfl, rfl⟩
          go_wp2_with fail
          all_goals try (go_region; go_wp2_with fail)
          all_goals try (go_region; go_wp2_with fail)
          go_roundg (gk - (64 - A % 64))
          case rel =>
            have eA := HA.out
            have eD := HD.out
            refine ⟨d + (64 - A % 64), by omega, ?_, ?_, HFT.out, ?_, put s' (A / 64) (X ||| M), ?_, ?_⟩
            · try simp only [Value.int.injEq, true_and]
              omega
            · first | rfl | (simp only [Value.int.injEq, true_and]; omega)
            · first | exact (HW.out.set (by omega) (by omega) _).drew | exact (HW.out.set (by omega) (by omega) _).drewN _ | exact (HW.out.set (by omega) (by omega) _)
            · exact ⟨hst.out.c, hst.out.f⟩
            · have := hrp.out
              rwa [eA, join_add, ← eA] at this
          case measure => omega
        · have hB2 : (((X &&& M : Nat) : Int) != 0) = true := by simp; omega
          have HFT : Hid (free S lo n = false) := by
            show _ = _
            have eD := HD.out
            rw [show n = (d + (64 - A % 64)) + (n - (d + (64 - A % 64))) by omega, free_add, HFA.out, decide_eq_false hB, Bool.false_and]
          clear hB HFA
          go_wp2_with fail
          refine (HPUT.out _ _ _ (by first | rfl | (push_cast; first | rfl | omega)) (by first | rfl | (push_cast; first | rfl | omega) | omega)).mono ?_; rintro e w2 ⟨rfl, rfl⟩
          go_wp2_with fail
          go_ret
          have e := HFT.out
          exact ⟨ret_bool e.symm, HW.out, fun h => absurd (e.symm.trans h) (by decide)⟩

theorem nclaim_shape (g : Nat) (z : Int → Int) (len : Nat) (hl : len ≤ 256) (p : WP) (hp : NShape len p) (s : Nat → Nat) (S : Nat → Bool) (w : World) (hs : Set4 w g 0 s) (hR : Rep s S) :
    Calls Fahg.prog 146 #[.pointer (some ⟨g, 0, none⟩), p.nval] w fun e w' => e = .returned (.bool (free S (nodeOf z p).lo (nodeOf z p).n)) ∧ Within g 0 4 w w' ∧ (free S (nodeOf z p).lo (nodeOf z p).n = true → ∃ s', Set4 w' g 0 s' ∧ Rep s' (join S (nodeOf z p).lo (nodeOf z p).n)) := by
  obtain ⟨nl, nn, nb, nk, nm⟩ := shape_node z hl hp.s
  have hlo : (nodeOf z p).lo ≤ 256 := by
    have := hp.s
    cases this with
    | struct A D P hD hP hb h1 hw => simp at nl; omega
    | list A c C W hc6 hC hW hb h1 hw => rw [if_neg (by simp only []; omega)] at nl; simp only [] at nl; omega
    | structs A D P C hD hP hC hA hb hw => simp at nl; generalize C * (D + P) = q at *; omega
  have hE : Hid (∀ w, _) := fun w => extent_shape z len hl p hp w
  obtain ⟨p1, p2, p3, p4, p5, p6⟩ := p
  exact nclaim_x g s S p1 p2 p3 p4 p5 p6 _ _ w hs hR hE (by omega) hlo
end Go.Proofs.Ygcfah
