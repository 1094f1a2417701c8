/- bitsx.Claim: the set of words, and the walk. -/
import Derived.Test.YgcfahWbBase
import Derived.Laws.Bits64b
import Derived.Test.YgcfahOff
import Derived.Deep.LoopGhost
import Derived.Deep.RegionWith
import Derived.Deep.QuietTactic
namespace Go.Proofs.Ygcfah
open Go.RowKit
set_option linter.unusedVariables false
set_option linter.unusedSimpArgs false

/-- 'run' ones from bit 'k' on. -/
def msk (k run : Nat) : Nat := (2 ^ run - 1) * 2 ^ k
theorem msk_bit (k run i : Nat) : (msk k run).testBit i = (decide (k ≤ i) && decide (i < k + run)) := by
  unfold msk
  rw [Nat.testBit_mul_two_pow]
  by_cases h : k ≤ i
  · simp [h, Nat.testBit_two_pow_sub_one]; omega
  · simp [h]
theorem msk_lt (k run : Nat) (h : k + run ≤ 64) : msk k run < 18446744073709551616 := by
  unfold msk
  have h1 : (2 ^ run - 1) * 2 ^ k < 2 ^ run * 2 ^ k := (Nat.mul_lt_mul_right (Nat.pow_pos (by omega))).2 (Nat.sub_lt (Nat.pow_pos (by omega)) (by omega))
  rw [← Nat.pow_add] at h1
  have h2 : 2 ^ (run + k) ≤ 2 ^ 64 := Nat.pow_le_pow_right (by omega) (by omega)
  have h3 : (2 : Nat) ^ 64 = 18446744073709551616 := by decide
  omega
theorem and_msk_zero (x k run : Nat) (h : k + run ≤ 64) : (x &&& msk k run = 0) ↔ ∀ i, k ≤ i → i < k + run → x.testBit i = false := by
  constructor
  · intro e i h1 h2
    have := congrArg (fun y => Nat.testBit y i) e
    simp [msk_bit, h1, h2] at this
    exact this
  · intro e
    apply Nat.eq_of_testBit_eq
    intro i
    rw [Nat.testBit_and, msk_bit, Nat.zero_testBit]
    by_cases h1 : k ≤ i <;> by_cases h2 : i < k + run <;> simp [h1, h2]
    exact e i h1 h2
theorem or_lt (x y : Nat) (hx : x < 18446744073709551616) (hy : y < 18446744073709551616) : x ||| y < 18446744073709551616 := by
  have := Nat.or_lt_two_pow (n := 64) hx hy
  exact this

/-- The four words 's' hold the set 'S' of the words below 256. -/
structure Rep (s : Nat → Nat) (S : Nat → Bool) : Prop where
  lt : ∀ q, q < 4 → s q < 18446744073709551616
  bit : ∀ i, i < 256 → (s (i / 64)).testBit (i % 64) = S i

def put (s : Nat → Nat) (q v : Nat) : Nat → Nat := fun j => if j = q then v else s j
/-- 'S' with the words a .. a+n-1. -/
def join (S : Nat → Bool) (a n : Nat) : Nat → Bool := fun i => S i || (decide (a ≤ i) && decide (i < a + n))
def free (S : Nat → Bool) (a n : Nat) : Bool := (List.range n).all fun k => !S (a + k)
theorem free_iff (S : Nat → Bool) (a n : Nat) : free S a n = true ↔ ∀ i, a ≤ i → i < a + n → S i = false := by
  unfold free
  simp only [List.all_eq_true, List.mem_range, Bool.not_eq_true']
  constructor
  · intro h i h1 h2
    have := h (i - a) (by omega)
    rwa [show a + (i - a) = i by omega] at this
  · intro h k hk
    exact h (a + k) (by omega) (by omega)
theorem rep_step (s : Nat → Nat) (S : Nat → Bool) (h : Rep s S) (a run : Nat) (ha : a < 256) (hr : a % 64 + run ≤ 64) :
    Rep (put s (a / 64) (s (a / 64) ||| msk (a % 64) run)) (join S a run) := by
  refine ⟨fun q hq => ?_, fun i hi => ?_⟩
  · unfold put; split
    · exact or_lt _ _ (h.lt _ (by omega)) (msk_lt _ _ hr)
    · exact h.lt q hq
  · unfold put join
    by_cases e : i / 64 = a / 64
    · rw [if_pos e, Nat.testBit_or, msk_bit, ← e, h.bit i hi]
      congr 1
      have e1 : decide (a % 64 ≤ i % 64) = decide (a ≤ i) := decide_eq_decide.2 (by omega)
      have e2 : decide (i % 64 < a % 64 + run) = decide (i < a + run) := decide_eq_decide.2 (by omega)
      rw [e1, e2]
    · rw [if_neg e, h.bit i hi]
      have : (decide (a ≤ i) && decide (i < a + run)) = false := by
        simp; omega
      rw [this, Bool.or_false]
theorem free_step (s : Nat → Nat) (S : Nat → Bool) (h : Rep s S) (a run : Nat) (ha : a < 256) (hr : a % 64 + run ≤ 64) :
    decide (s (a / 64) &&& msk (a % 64) run = 0) = free S a run := by
  rw [Bool.eq_iff_iff, decide_eq_true_iff, and_msk_zero _ _ _ hr, free_iff]
  constructor
  · intro k i h1 h2
    have := k (i % 64) (by omega) (by omega)
    rwa [show a / 64 = i / 64 by omega, h.bit i (by omega)] at this
  · intro k i h1 h2
    have := k (64 * (a / 64) + i) (by omega) (by omega)
    rw [← h.bit _ (by omega)] at this
    rwa [show (64 * (a / 64) + i) / 64 = a / 64 by omega, show (64 * (a / 64) + i) % 64 = i by omega] at this
theorem join_zero (S : Nat → Bool) (a : Nat) : join S a 0 = S := by
  funext i
  have : (decide (a ≤ i) && decide (i < a + 0)) = false := by simp
  simp only [join, this, Bool.or_false]
theorem free_add (S : Nat → Bool) (a m n : Nat) : free S a (m + n) = (free S a m && free S (a + m) n) := by
  rw [Bool.eq_iff_iff, Bool.and_eq_true, free_iff, free_iff, free_iff]
  constructor
  · intro h; exact ⟨fun i h1 h2 => h i h1 (by omega), fun i h1 h2 => h i (by omega) (by omega)⟩
  · rintro ⟨h1, h2⟩ i h3 h4
    by_cases h : i < a + m
    · exact h1 i h3 h
    · exact h2 i (by omega) (by omega)
theorem free_join (S : Nat → Bool) (a m n b : Nat) (h : b = a + m) : free (join S a m) b n = free S b n := by
  subst h
  rw [Bool.eq_iff_iff, free_iff, free_iff]
  constructor
  · intro k i h1 h2; have := k i h1 h2; simp [join] at this; exact this.1
  · intro k i h1 h2; simp [join, k i h1 h2]; omega
theorem join_add (S : Nat → Bool) (a m n : Nat) : join (join S a m) (a + m) n = join S a (m + n) := by
  funext i
  rw [Bool.eq_iff_iff]
  simp [join]
  constructor
  · rintro ((h | h) | h)
    · exact .inl h
    · exact .inr ⟨by omega, by omega⟩
    · exact .inr ⟨by omega, by omega⟩
  · rintro (h | h)
    · exact .inl (.inl h)
    · by_cases k : i < a + m
      · exact .inl (.inr ⟨by omega, by omega⟩)
      · exact .inr ⟨by omega, by omega⟩

/-- Of the blocks that were there only 'g' may have turned, and of its cells only lo .. hi-1. -/
structure Within (g lo hi : Nat) (w w' : World) : Prop where
  off : Off g w w'
  cell : ∀ j, (j < lo ∨ hi ≤ j) → w'.cell? ⟨g, j, none⟩ = w.cell? ⟨g, j, none⟩
  frozen : ∀ j, w'.frozen? ⟨g, j, none⟩ = w.frozen? ⟨g, j, none⟩
theorem Within.refl (g lo hi : Nat) (w : World) : Within g lo hi w w := ⟨Off.refl _ _, fun _ _ => rfl, fun _ => rfl⟩
theorem Within.trans {g lo hi : Nat} {a b c : World} (h : Within g lo hi a b) (k : Within g lo hi b c) : Within g lo hi a c :=
  ⟨h.off.trans k.off, fun j hj => (k.cell j hj).trans (h.cell j hj), fun j => (k.frozen j).trans (h.frozen j)⟩
theorem Within.of_below {g lo hi : Nat} {w w' : World} (h : Below w.heap.size w w') (hg : g < w.heap.size) : Within g lo hi w w' :=
  ⟨Off.of_below h, fun j _ => h.cell (p := ⟨g, j, none⟩) hg, fun j => h.frozen (p := ⟨g, j, none⟩) hg⟩
theorem Within.drewN {g lo hi : Nat} {a w : World} (h : Within g lo hi a w) (n : Nat) : Within g lo hi a (w.drewN n) := ⟨h.off.drewN n, h.cell, h.frozen⟩
theorem Within.drew {g lo hi : Nat} {a w : World} (h : Within g lo hi a w) : Within g lo hi a w.drew := ⟨h.off.drew, h.cell, h.frozen⟩
theorem Within.set {g lo hi : Nat} {a w : World} (h : Within g lo hi a w) {o : Nat} (h0 : lo ≤ o) (h1 : o < hi) (v : Value) : Within g lo hi a (w.setCell ⟨g, o, none⟩ v) :=
  ⟨h.off.setCell rfl v, fun j hj => (World.cell?_setCell_other _ _ _ _ (by intro e; injection e; omega)).trans (h.cell j hj), fun j => (by simp [go_sem, h.frozen])⟩
theorem Within.mono {g lo hi lo' hi' : Nat} {a w : World} (h : Within g lo hi a w) (h0 : lo' ≤ lo) (h1 : hi ≤ hi') : Within g lo' hi' a w := ⟨h.off, fun j hj => h.cell j (by omega), h.frozen⟩

structure Set4 (w : World) (g o : Nat) (s : Nat → Nat) : Prop where
  c : ∀ q, q < 4 → w.cell? ⟨g, o + q, none⟩ = some (.int .u64 (s q))
  f : ∀ q, q < 4 → w.frozen? ⟨g, o + q, none⟩ = false
theorem Set4.put {w : World} {g o : Nat} {s : Nat → Nat} (h : Set4 w g o s) (q : Nat) (hq : q < 4) (v : Nat) : Set4 (w.setCell ⟨g, o + q, none⟩ (.int .u64 v)) g o (put s q v) := by
  refine ⟨fun j hj => ?_, fun j hj => by simp [go_sem, h.f j hj]⟩
  unfold Ygcfah.put
  split
  · rename_i e; subst e
    exact World.cell?_setCell_same' _ _ _ (by rw [h.c j hj]; rfl)
  · rename_i e
    exact (World.cell?_setCell_other _ _ _ _ (by intro k; injection k; omega)).trans (h.c j hj)

theorem shr_ones (run : Nat) (h : run ≤ 64) : (18446744073709551615 : Int) / 2 ^ (64 - run) = 2 ^ run - 1 := by
  have e : (2 : Int) ^ 64 = 2 ^ run * 2 ^ (64 - run) := by rw [← Int.pow_add]; congr 1; omega
  have e' : (2 : Int) ^ 64 = 18446744073709551616 := by decide
  have p := two_pow_pos (64 - run)
  have p' := two_pow_pos run
  have : (18446744073709551615 : Int) = (2 ^ (64 - run) - 1) + (2 ^ run - 1) * 2 ^ (64 - run) := by
    rw [Int.sub_mul, ← e, e']; omega
  rw [this, Int.add_mul_ediv_right _ _ (by omega), Int.ediv_eq_zero_of_lt (by omega) (by omega)]
  omega
theorem shl_msk (k run : Nat) (h : k + run ≤ 64) : IntKind.u64.wrap (((2 : Int) ^ run - 1) * 2 ^ k) = (msk k run : Nat) := by
  have l := msk_lt k run h
  have e : (((2 : Int) ^ run - 1) * 2 ^ k) = (msk k run : Nat) := by
    unfold msk
    have p' : 1 ≤ 2 ^ run := Nat.one_le_two_pow
    have : ((2 ^ run - 1 : Nat) : Int) = (2 : Int) ^ run - 1 := by rw [Int.ofNat_sub p']; push_cast; rfl
    push_cast [this]
    rfl
  rw [e, wrap_u64]
  omega

set_option maxRecDepth 100000 in
set_option maxHeartbeats 1000000 in
theorem claim_some (g o : Nat) (s : Nat → Nat) (S : Nat → Bool) (a n : Nat) (hn : 1 ≤ n) (han : a + n ≤ 256) (w : World) (hs : Set4 w g o s) (hR : Rep s S) :
    Calls Fahg.prog 117 #[.pointer (some ⟨g, o, none⟩), .int .u16 a, .int .u16 n] w fun e w' => e = .returned (.bool (free S a n)) ∧ Within g o (o + 4) w w' ∧ ∃ s', Set4 w' g o s' ∧ Rep s' (join S a n) := by
  have n0 : ((n : Int) == 0) = false := by simp; omega
  have t1 : decide ((a : Int) + n ≤ 256) = true := by simp; omega
  go_enter Fahg.func117, Fahg.ntmps117
  go_wp2
  go_loopg [1, 2, 7] n (fun k A N F wr => ∃ d : Nat, d + k = n ∧ A = .int .u16 (a + d : Nat) ∧ N = .int .u16 (k : Nat) ∧ F = .bool (free S a d) ∧ Within g o (o + 4) w wr ∧ ∃ s', Set4 wr g o s' ∧ Rep s' (join S a d))
  case atStart => exact ⟨0, by omega, rfl, rfl, by simp [free], Within.refl _ _ _ _, s, hs, by rw [join_zero]; exact hR⟩
  case round =>
    obtain ⟨d, hd, rfl, rfl, rfl, hW, s', hs', hR'⟩ := hrel
    by_cases hk : gk = 0
    · have e : d = n := by omega
      subst hk
      clear hd
      subst e
      go_wp2_with fail
      go_ret
      exact ⟨rfl, hW, s', hs', hR'⟩
    · have k0 : 0 < gk := by omega
      obtain ⟨A, hA⟩ : ∃ A, A = a + d := ⟨_, rfl⟩
      rw [← hA]
      have hA2 : A < 256 := by omega
      have hq4 : A / 64 < 4 := by omega
      have q4 : (A : Int) / 64 < 4 := by omega
      have c1 := hs'.c (A / 64) hq4
      have f1 := hs'.f (A / 64) hq4
      have HA : Hid (A = a + d) := hA
      have HD : Hid (d + gk = n) := hd
      have HK : Hid (¬ gk = 0) := hk
      have HW : Hid (Within g o (o + 4) w wr) := hW
      have HS : Hid _ := hs'
      have HR : Hid _ := hR'
      obtain ⟨F, hF⟩ : ∃ F, F = free S a d := ⟨_, rfl⟩
      rw [← hF]
      have HF : Hid (F = free S a d) := hF
      have hgk : gk ≤ 256 := by omega
      clear hA hd hk hW hs' hR' hF hs hR n0 t1 hn han
      by_cases hm : (gk : Int) < 64 - (A : Int) % 64
      · have hrn : gk ≤ 64 - A % 64 := by omega
        have hmv : IntKind.u64.wrap (18446744073709551615 / 2 ^ (64 - gk) * 2 ^ (A % 64)) = (msk (A % 64) (gk) : Nat) := by
          rw [shr_ones gk (by omega)]; exact shl_msk _ _ (by omega)
        have hor := bits_or_u64_nat (s' (A / 64)) (msk (A % 64) (gk)) (HR.out.lt (A / 64) hq4) (msk_lt _ _ (by omega))
        have hand := bits_and_u64_nat (s' (A / 64)) (msk (A % 64) (gk)) (HR.out.lt (A / 64) hq4) (msk_lt _ _ (by omega))
        have hfr : Hid _ := free_step s' _ HR.out A (gk) hA2 (by omega)
        have hrp : Hid _ := rep_step s' _ HR.out A (gk) hA2 (by omega)
        have hst : Hid _ := HS.out.put (A / 64) hq4 (s' (A / 64) ||| msk (A % 64) (gk))
        obtain ⟨M, hM⟩ : ∃ M, M = msk (A % 64) (gk) := ⟨_, rfl⟩
        rw [← hM] at hmv hor hand hfr hrp hst
        have HM : Hid _ := hM
        clear hM
        obtain ⟨X, hX⟩ : ∃ X, X = s' (A / 64) := ⟨_, rfl⟩
        rw [← hX] at c1 hor hand hfr hrp hst
        have HX : Hid _ := hX
        clear hX
        cases F
        · go_wp2_with fail
          go_region
          go_wp2_with fail
          go_roundg (0)
          case rel =>
            have eA := HA.out
            have eD := HD.out
            refine ⟨d + gk, by omega, ?_, ?_, ?_, ?_, put s' (A / 64) (X ||| M), ?_, ?_⟩
            · try simp only [Value.int.injEq, true_and]
              omega
            · first | rfl | (simp only [Value.int.injEq, true_and]; omega)
            · rw [free_add]
              first
                | (rw [← HF.out]; rfl)
                | (have := hfr2.out; rw [free_join S a d _ A eA] at this; rw [← HF.out, ← eA, ← this]; rfl)
            · exact (HW.out.set (by omega) (by omega) _).drew
            · exact ⟨hst.out.c, hst.out.f⟩
            · have := hrp.out
              rwa [eA, join_add, ← eA] at this
          case measure => omega
        · obtain ⟨B, hB⟩ : ∃ B : Bool, decide (X &&& M = 0) = B := ⟨_, rfl⟩
          have hfr2 : Hid (B = free (join S a d) A (gk)) := hB.symm.trans hfr.out
          have hB2 : (((X &&& M : Nat) : Int) == 0) = B := by rw [← hB]; rw [Bool.eq_iff_iff]; simp
          clear hB hfr
          go_wp2_with fail
          go_region
          go_wp2_with fail
          go_roundg (0)
          case rel =>
            have eA := HA.out
            have eD := HD.out
            refine ⟨d + gk, by omega, ?_, ?_, ?_, ?_, put s' (A / 64) (X ||| M), ?_, ?_⟩
            · try simp only [Value.int.injEq, true_and]
              omega
            · first | rfl | (simp only [Value.int.injEq, true_and]; omega)
            · rw [free_add]
              first
                | (rw [← HF.out]; rfl)
                | (have := hfr2.out; rw [free_join S a d _ A eA] at this; rw [← HF.out, ← eA, ← this]; rfl)
            · exact (HW.out.set (by omega) (by omega) _).drew
            · exact ⟨hst.out.c, hst.out.f⟩
            · have := hrp.out
              rwa [eA, join_add, ← eA] at this
          case measure => omega
      · have hrn : (64 - A % 64) ≤ 64 - A % 64 := by omega
        have hmv : IntKind.u64.wrap (18446744073709551615 / 2 ^ (64 - (64 - A % 64)) * 2 ^ (A % 64)) = (msk (A % 64) ((64 - A % 64)) : Nat) := by
          rw [shr_ones (64 - A % 64) (by omega)]; exact shl_msk _ _ (by omega)
        have hor := bits_or_u64_nat (s' (A / 64)) (msk (A % 64) ((64 - A % 64))) (HR.out.lt (A / 64) hq4) (msk_lt _ _ (by omega))
        have hand := bits_and_u64_nat (s' (A / 64)) (msk (A % 64) ((64 - A % 64))) (HR.out.lt (A / 64) hq4) (msk_lt _ _ (by omega))
        have hfr : Hid _ := free_step s' _ HR.out A ((64 - A % 64)) hA2 (by omega)
        have hrp : Hid _ := rep_step s' _ HR.out A ((64 - A % 64)) hA2 (by omega)
        have hst : Hid _ := HS.out.put (A / 64) hq4 (s' (A / 64) ||| msk (A % 64) ((64 - A % 64)))
        obtain ⟨M, hM⟩ : ∃ M, M = msk (A % 64) ((64 - A % 64)) := ⟨_, rfl⟩
        rw [← hM] at hmv hor hand hfr hrp hst
        have HM : Hid _ := hM
        clear hM
        obtain ⟨X, hX⟩ : ∃ X, X = s' (A / 64) := ⟨_, rfl⟩
        rw [← hX] at c1 hor hand hfr hrp hst
        have HX : Hid _ := hX
        clear hX
        cases F
        · go_wp2_with fail
          go_region
          go_wp2_with fail
          go_roundg (gk - (64 - A % 64))
          case rel =>
            have eA := HA.out
            have eD := HD.out
            refine ⟨d + (64 - A % 64), by omega, ?_, ?_, ?_, ?_, put s' (A / 64) (X ||| M), ?_, ?_⟩
            · try simp only [Value.int.injEq, true_and]
              omega
            · first | rfl | (simp only [Value.int.injEq, true_and]; omega)
            · rw [free_add]
              first
                | (rw [← HF.out]; rfl)
                | (have := hfr2.out; rw [free_join S a d _ A eA] at this; rw [← HF.out, ← eA, ← this]; rfl)
            · exact (HW.out.set (by omega) (by omega) _).drew
            · exact ⟨hst.out.c, hst.out.f⟩
            · have := hrp.out
              rwa [eA, join_add, ← eA] at this
          case measure => omega
        · obtain ⟨B, hB⟩ : ∃ B : Bool, decide (X &&& M = 0) = B := ⟨_, rfl⟩
          have hfr2 : Hid (B = free (join S a d) A ((64 - A % 64))) := hB.symm.trans hfr.out
          have hB2 : (((X &&& M : Nat) : Int) == 0) = B := by rw [← hB]; rw [Bool.eq_iff_iff]; simp
          clear hB hfr
          go_wp2_with fail
          go_region
          go_wp2_with fail
          go_roundg (gk - (64 - A % 64))
          case rel =>
            have eA := HA.out
            have eD := HD.out
            refine ⟨d + (64 - A % 64), by omega, ?_, ?_, ?_, ?_, put s' (A / 64) (X ||| M), ?_, ?_⟩
            · try simp only [Value.int.injEq, true_and]
              omega
            · first | rfl | (simp only [Value.int.injEq, true_and]; omega)
            · rw [free_add]
              first
                | (rw [← HF.out]; rfl)
                | (have := hfr2.out; rw [free_join S a d _ A eA] at this; rw [← HF.out, ← eA, ← this]; rfl)
            · exact (HW.out.set (by omega) (by omega) _).drew
            · exact ⟨hst.out.c, hst.out.f⟩
            · have := hrp.out
              rwa [eA, join_add, ← eA] at this
          case measure => omega

set_option maxHeartbeats 1000000 in
theorem claim_zero (g o : Nat) (a : Int) (w : World) :
    Calls Fahg.prog 117 #[.pointer (some ⟨g, o, none⟩), .int .u16 a, .int .u16 0] w fun e w' => e = .returned (.bool true) ∧ w' = w := by
  go_enter Fahg.func117, Fahg.ntmps117
  go_wp2
  go_ret
  exact ⟨rfl, rfl⟩
end Go.Proofs.Ygcfah
