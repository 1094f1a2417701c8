/- What a resolved pointer of the wider format is, in plain numbers. -/
import Derived.Test.YgcfahRsv
import Derived.Test.YgcfahWn
namespace Go.Proofs.Ygcfah
open Go.RowKit
set_option linter.unusedVariables false
set_option linter.unusedSimpArgs false

inductive Shape (size : Nat) : WP → Prop
  | struct (A D P : Nat) : D ≤ 8 → P ≤ 8 → A + (D + P) ≤ size → (D + P = 0 ∨ 1 ≤ A) → WP.words ⟨1, A, D, P, 0, 0⟩ = ((D + P : Nat) : Int) → Shape size ⟨1, A, D, P, 0, 0⟩
  | list (A c C W : Nat) : c ≤ 6 → C < 536870912 → (W : Int) = ((C : Int) * elBits c + 63) / 64 → A + W ≤ size → (W = 0 ∨ 1 ≤ A) → WP.words ⟨2, A, 0, 0, c, C⟩ = (W : Int) → Shape size ⟨2, A, 0, 0, c, C⟩
  | structs (A D P C : Nat) : D ≤ 8 → P ≤ 8 → C < 1073741824 → 2 ≤ A → A + C * (D + P) ≤ size → WP.words ⟨2, A, D, P, 7, C⟩ = ((1 + C * (D + P) : Nat) : Int) → Shape size ⟨2, A, D, P, 7, C⟩

theorem rsv_shape (z : Int → Int) (size : Nat) (at_ : Int) (h0 : 0 ≤ at_) (h1 : at_ < size) (hs : size ≤ 256) (hz : ∀ i, 0 ≤ i → i < (size : Int) → U64 (z i)) (h : (rsv z size at_).2 = true) :
    (rsv z size at_).1 = WP.nul ∨ Shape size (rsv z size at_).1 := by
  have hu := hz at_ h0 h1
  have b1 := mid16_bd (z at_)
  have b2 := secD_bd (z at_)
  have b3 := secP_bd (z at_) hu
  have b4 := cnt29_bd (z at_) hu
  have b5 := code3_bd (z at_)
  unfold rsv at h ⊢
  by_cases c0 : z at_ = 0
  · rw [if_pos c0]; exact .inl rfl
  rw [if_neg c0] at h ⊢
  by_cases c1 : low2 (z at_) = 0
  · rw [if_pos c1] at h ⊢
    split
    · rename_i k
      right
      simp only [Bool.and_eq_true] at k
      have bw := wWords_bd 1 (secD (z at_)) (secP (z at_)) 0 0 b2.1 b3.1 (by decide)
      have ht := spans_in bw.1 k.2
      have e : wWords 1 (secD (z at_)) (secP (z at_)) 0 0 = secD (z at_) + secP (z at_) := by
        unfold wWords; rw [if_neg (by decide), if_pos (by omega)]
      rw [e] at ht
      generalize rTo at_ (z at_) = A at *
      generalize secD (z at_) = D at *
      generalize secP (z at_) = P at *
      obtain ⟨A, rfl⟩ := Int.eq_ofNat_of_zero_le ht.2.2
      obtain ⟨D, rfl⟩ := Int.eq_ofNat_of_zero_le b2.1
      obtain ⟨P, rfl⟩ := Int.eq_ofNat_of_zero_le b3.1
      exact .struct A D P (by omega) (by omega) (by omega) (by omega) (by unfold WP.words; rw [e]; push_cast; rfl)
    · exact .inl rfl
  rw [if_neg c1] at h ⊢
  by_cases c2 : low2 (z at_) = 1
  · rw [if_pos c2] at h ⊢
    by_cases c3 : code3 (z at_) = 7
    · rw [if_pos c3] at h ⊢
      split
      · rename_i k
        rw [if_pos k] at h
        right
        simp only [Bool.and_eq_true, decide_eq_true_eq] at k
        have ht := spans_in (by omega) k.2
        have hut := hz (rTo at_ (z at_)) (by omega) (by omega)
        have d2 := secD_bd (z (rTo at_ (z at_)))
        have d3 := secP_bd _ hut
        have d4 := cnt30_bd (z (rTo at_ (z at_)))
        simp only at h
        simp only [stR, h, if_true]
        unfold stB at h
        simp only [Bool.and_eq_true, decide_eq_true_eq] at h
        have hw := h.2
        unfold stP at hw ⊢
        generalize rTo at_ (z at_) = T at *
        generalize cnt29 (z at_) = N at *
        generalize secD (z T) = D at *
        generalize secP (z T) = P at *
        generalize cnt30 (z T) = C at *
        obtain ⟨D, rfl⟩ := Int.eq_ofNat_of_zero_le d2.1
        obtain ⟨P, rfl⟩ := Int.eq_ofNat_of_zero_le d3.1
        obtain ⟨C, rfl⟩ := Int.eq_ofNat_of_zero_le d4.1
        obtain ⟨T, rfl⟩ := Int.eq_ofNat_of_zero_le ht.2.2
        have hw2 : wWords 2 (D : Int) P 7 C = min (1 + (C : Int) * (D + P)) 257 := by
          unfold wWords; rw [if_neg (by decide), if_neg (by omega), if_neg (by omega), if_pos (by omega)]
        have hw3 := hw
        simp only [WP.words] at hw3
        rw [hw2] at hw3
        have em : (C : Int) * (D + P) = ((C * (D + P) : Nat) : Int) := by push_cast; rfl
        rw [em] at hw3
        have : Shape size ⟨2, ((T + 1 : Nat) : Int), D, P, 7, C⟩ := .structs (T + 1) D P C (by omega) (by omega) (by omega) (by omega) (by generalize C * (D + P) = t at *; omega) (by simp only [WP.words]; rw [hw2, em]; generalize C * (D + P) = t at *; omega)
        exact this
      · rename_i k
        rw [if_neg k] at h
        exact absurd h (by decide)
    · rw [if_neg c3] at h ⊢
      split
      · rename_i k
        right
        have bw := wWords_bd 2 0 0 (code3 (z at_)) (cnt29 (z at_)) (by decide) (by decide) b4.1
        have ht := spans_in bw.1 k
        have e : wWords 2 0 0 (code3 (z at_)) (cnt29 (z at_)) = min ((cnt29 (z at_) * elBits (code3 (z at_)) + 63) / 64) 257 := by
          unfold wWords; rw [if_neg (by decide), if_neg (by decide), if_pos (by omega)]
        have be := elBits_bd (code3 (z at_))
        have m2 : 0 ≤ cnt29 (z at_) * elBits (code3 (z at_)) := Int.mul_nonneg b4.1 be.1
        generalize rTo at_ (z at_) = A at *
        generalize code3 (z at_) = c at *
        generalize cnt29 (z at_) = C at *
        obtain ⟨A, rfl⟩ := Int.eq_ofNat_of_zero_le ht.2.2
        obtain ⟨c, rfl⟩ := Int.eq_ofNat_of_zero_le b5.1
        obtain ⟨C, rfl⟩ := Int.eq_ofNat_of_zero_le b4.1
        obtain ⟨W, hW⟩ := Int.eq_ofNat_of_zero_le (show 0 ≤ ((C : Int) * elBits c + 63) / 64 by omega)
        exact .list A c C W (by omega) (by omega) hW.symm (by omega) (by omega) (by simp only [WP.words]; omega)
      · exact .inl rfl
  · rw [if_neg c2] at h
    exact absurd h (by decide)
end Go.Proofs.Ygcfah
