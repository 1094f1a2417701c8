/- Plain facts on 'rsv'. -/
import Derived.Test.YgcfahRdr
import Derived.Test.YgcfahFollow
namespace Go.Proofs.Ygcfah
open Go.RowKit
set_option linter.unusedVariables false
set_option linter.unusedSimpArgs false

def WP.isIn (p : WP) (size : Int) : Bool := wIn p.kind p.at_ p.data p.ptrs p.code p.count size
theorem nul_ok : WP.nul.ok := ⟨by decide, by decide, by decide, by decide, by decide, by decide, by decide, by decide, by decide, by decide, by decide, by decide⟩

/-- What Resolve hands back: numbers that fit; nothing where it refuses; else null, or an object that lies inside. -/
structure RsvOk (size : Int) (r : WP × Bool) : Prop where
  ok : r.1.ok
  no : r.2 = false → r.1 = WP.nul
  yes : r.2 = true → r.1 = WP.nul ∨ ((r.1.kind = 1 ∨ r.1.kind = 2) ∧ r.1.isIn size = true)
theorem RsvOk.nul (size : Int) (b : Bool) : RsvOk size (WP.nul, b) := ⟨nul_ok, fun _ => rfl, fun _ => .inl rfl⟩

theorem spans_in {to n size : Int} (n0 : 0 ≤ n) (h : spansB to n size = true) : to + n ≤ size ∧ (n = 0 ∨ 1 ≤ to) ∧ 0 ≤ to := by
  unfold spansB at h; split at h <;> simp at h <;> omega

theorem rsv_ok (z : Int → Int) (size at_ : Int) (h0 : 0 ≤ at_) (h1 : at_ < size) (hs : size ≤ 256) (hz : ∀ i, 0 ≤ i → i < size → U64 (z i)) : RsvOk size (rsv z size at_) := by
  have hu := hz at_ h0 h1
  have b1 := mid16_bd (z at_)
  have b2 := secD_bd (z at_)
  have b3 := secP_bd (z at_) hu
  have b4 := cnt29_bd (z at_) hu
  have b5 := code3_bd (z at_)
  unfold rsv
  by_cases c0 : z at_ = 0
  · rw [if_pos c0]; exact RsvOk.nul _ _
  rw [if_neg c0]
  by_cases c1 : low2 (z at_) = 0
  · rw [if_pos c1]
    split
    · rename_i h
      simp only [Bool.and_eq_true] at h
      have bw := wWords_bd 1 (secD (z at_)) (secP (z at_)) 0 0 b2.1 b3.1 (by decide)
      have ht := spans_in bw.1 h.2
      refine ⟨⟨by simp, by simp, ht.2.2, by simp only []; omega, b2.1, by simp only []; omega, b3.1, by simp only []; omega, by simp, by simp, by simp, by simp⟩, by simp, fun _ => .inr ⟨.inl rfl, ?_⟩⟩
      simp only [WP.isIn, wIn, wFirst]
      simp
      exact ⟨hs, ht.1, ht.2.1⟩
    · exact RsvOk.nul _ _
  rw [if_neg c1]
  by_cases c2 : low2 (z at_) = 1
  · rw [if_pos c2]
    by_cases c3 : code3 (z at_) = 7
    · rw [if_pos c3]
      split
      · rename_i h
        simp only [Bool.and_eq_true, decide_eq_true_eq] at h
        have ht := spans_in (by omega) h.2
        have hut := hz (rTo at_ (z at_)) (by omega) (by omega)
        have d2 := secD_bd (z (rTo at_ (z at_)))
        have d3 := secP_bd _ hut
        have d4 := cnt30_bd (z (rTo at_ (z at_)))
        cases hb : stB (rTo at_ (z at_)) (z (rTo at_ (z at_))) (cnt29 (z at_)) with
        | false => simp only [stR, hb]; exact RsvOk.nul _ _
        | true =>
          simp only [stR, hb, if_true]
          simp only [stB, Bool.and_eq_true, decide_eq_true_eq] at hb
          refine ⟨⟨by simp [stP], by simp [stP], by simp only [stP]; omega, by simp only [stP]; omega, d2.1, by simp only [stP]; omega, d3.1, by simp only [stP]; omega, by simp [stP], by simp [stP], d4.1, by simp only [stP]; omega⟩, by simp, fun _ => .inr ⟨.inr rfl, ?_⟩⟩
          have hw := hb.2
          simp only [WP.words, stP] at hw
          simp only [WP.isIn, wIn, wFirst, stP]
          simp
          rw [hw]
          refine ⟨hs, by omega, by omega⟩
      · exact RsvOk.nul _ _
    · rw [if_neg c3]
      split
      · rename_i h
        have bw := wWords_bd 2 0 0 (code3 (z at_)) (cnt29 (z at_)) (by decide) (by decide) b4.1
        have ht := spans_in bw.1 h
        refine ⟨⟨by simp, by simp, ht.2.2, by simp only []; omega, by simp, by simp, by simp, by simp, b5.1, by simp only []; omega, b4.1, by simp only []; omega⟩, by simp, fun _ => .inr ⟨.inr rfl, ?_⟩⟩
        simp only [WP.isIn, wIn, wFirst]
        simp [c3]
        exact ⟨hs, ht.1, ht.2.1⟩
      · exact RsvOk.nul _ _
  · rw [if_neg c2]; exact RsvOk.nul _ _
end Go.Proofs.Ygcfah
