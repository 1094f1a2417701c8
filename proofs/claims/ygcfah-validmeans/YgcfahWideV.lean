/- wide.Cost, and the two Resolves joined. -/
import Derived.Test.YgcfahWideU
namespace Go.Proofs.Ygcfah
open Go.RowKit
set_option linter.unusedVariables false
attribute [local go_sem] setCell_drewN alloc_drewN

/-- The cost of an object. -/
def wCost (p : WP) : Int :=
  if p.kind = 0 then 0 else
    max (p.words + if p.kind = 2 ∧ (p.code = 0 ∨ p.code = 7 ∧ p.data = 0 ∧ p.ptrs = 0) then min p.count 1073741824 else 0) 1
theorem wCost_plain (p : WP) (h : p.kind ≠ 0) (h' : ¬ (p.kind = 2 ∧ (p.code = 0 ∨ p.code = 7 ∧ p.data = 0 ∧ p.ptrs = 0))) : wCost p = max p.words 1 := by
  unfold wCost; rw [if_neg h, if_neg h']; simp
theorem wCost_many (p : WP) (h : p.kind = 2) (h' : p.code = 0 ∨ p.code = 7 ∧ p.data = 0 ∧ p.ptrs = 0) : wCost p = max (p.words + min p.count 1073741824) 1 := by
  unfold wCost; rw [if_neg (by omega), if_pos ⟨h, h'⟩]
theorem cost_zero (kind at_ data ptrs code count : Int) (hk0 : (kind == 0) = true) (w : World) :
    Calls Fahg.prog 37 #[.agg #[.int .u8 kind, .int .u16 at_, .int .u8 data, .int .u8 ptrs, .int .u8 code, .int .u32 count]] w fun e w' => e = .returned (.int .u32 0) ∧ ∃ c, w' = w.alloc (.cells c 78) := by
  go_enter Fahg.func37, Fahg.ntmps37
  go_wp2_with fail
  go_ret
  exact ⟨rfl, _, rfl⟩

set_option maxHeartbeats 800000 in
theorem cost_pos (kind at_ data ptrs code count : Int) (hk0 : (kind == 0) = false) (k0 : 0 ≤ kind) (k1 : kind ≤ 255) (d0 : 0 ≤ data) (d1 : data ≤ 255) (p0 : 0 ≤ ptrs) (p1 : ptrs ≤ 255) (c0 : 0 ≤ code) (c1 : code ≤ 255) (n0 : 0 ≤ count) (n1 : count ≤ 4294967295) (w : World) :
    Calls Fahg.prog 37 #[.agg #[.int .u8 kind, .int .u16 at_, .int .u8 data, .int .u8 ptrs, .int .u8 code, .int .u32 count]] w fun e w' => e = .returned (.int .u32 (wCost ⟨kind, at_, data, ptrs, code, count⟩)) ∧ ∃ c1 c2 nq, w' = ((w.alloc (.cells c1 78)).alloc (.cells c2 78)).drewN nq := by
  have bw := wWords_bd kind data ptrs code count d0 p0 n0
  have hP := wCost_plain ⟨kind, at_, data, ptrs, code, count⟩
  have hM := wCost_many ⟨kind, at_, data, ptrs, code, count⟩
  simp only [WP.words] at hP hM
  have hW := fun w => words_any kind at_ data ptrs code count k0 k1 d0 d1 p0 p1 c0 c1 n0 n1 w
  generalize wWords kind data ptrs code count = m at *
  have HW : Hid _ := hW
  have HP : Hid _ := hP
  have HM : Hid _ := hM
  clear hW hP hM
  have z0 : ¬ kind = 0 := by simpa using hk0
  have HZ : Hid (¬ kind = 0) := z0
  clear z0
  by_cases z2 : kind = 2 ∧ (code = 0 ∨ code = 7 ∧ data = 0 ∧ ptrs = 0)
  · have HR := HM.out z2.1 z2.2
    have HR : Hid _ := HR
    have hk2 : (kind == 2) = true := by simpa using z2.1
    clear HP HM HZ
    have hb : ((code == 0) = true) ∨ ((code == 0) = false ∧ (code == 7) = true ∧ (data == 0) = true ∧ (ptrs == 0) = true) := by
      rcases z2.2 with h | ⟨h1, h2, h3⟩
      · exact Or.inl (by simpa using h)
      · exact Or.inr ⟨by simp; omega, by simpa using h1, by simpa using h2, by simpa using h3⟩
    clear z2
    rcases hb with q0 | ⟨q0, q1, q2, q3⟩ <;> by_cases hle : count ≤ 1073741824
    all_goals go_enter Fahg.func37, Fahg.ntmps37
    all_goals go_wp2_with fail
    all_goals (refine (HW.out _).mono ?_; rintro e w1 ⟨rfl, c, nq, rfl⟩)
    all_goals go_wp2_with fail
    all_goals go_ret
    all_goals go_light
    all_goals refine ⟨ret_int ?_, ?_⟩
    all_goals first
      | (rw [HR.out]; omega)
      | omega
      | exact ⟨_, _, _, rfl⟩
  · have HR := HP.out HZ.out z2
    have HR : Hid _ := HR
    clear HP HM HZ
    have hb : (kind == 2) = false ∨ ((kind == 2) = true ∧ (code == 0) = false ∧ ((code == 7) = false ∨ ((code == 7) = true ∧ ((data == 0) = false ∨ ((data == 0) = true ∧ (ptrs == 0) = false))))) := by
      simp only [beq_eq_false_iff_ne, beq_iff_eq]; omega
    clear z2
    rcases hb with q | ⟨q, q0, q1 | ⟨q1, q2 | ⟨q2, q3⟩⟩⟩
    all_goals go_enter Fahg.func37, Fahg.ntmps37
    all_goals go_wp2_with fail
    all_goals (refine (HW.out _).mono ?_; rintro e w1 ⟨rfl, c, nq, rfl⟩)
    all_goals go_wp2_with fail
    all_goals go_ret
    all_goals go_light
    all_goals refine ⟨ret_int ?_, ?_⟩
    all_goals first
      | (rw [HR.out]; omega)
      | omega
      | exact ⟨_, _, _, rfl⟩

theorem cost_any (kind at_ data ptrs code count : Int) (k0 : 0 ≤ kind) (k1 : kind ≤ 255) (d0 : 0 ≤ data) (d1 : data ≤ 255) (p0 : 0 ≤ ptrs) (p1 : ptrs ≤ 255) (c0 : 0 ≤ code) (c1 : code ≤ 255) (n0 : 0 ≤ count) (n1 : count ≤ 4294967295) (w : World) :
    Calls Fahg.prog 37 #[.agg #[.int .u8 kind, .int .u16 at_, .int .u8 data, .int .u8 ptrs, .int .u8 code, .int .u32 count]] w fun e w' => e = .returned (.int .u32 (wCost ⟨kind, at_, data, ptrs, code, count⟩)) ∧ Below w.heap.size w w' := by
  by_cases hk : (kind == 0) = true
  · have e0 : wCost ⟨kind, at_, data, ptrs, code, count⟩ = 0 := by simp at hk; simp [wCost, hk]
    rw [e0]
    exact (cost_zero kind at_ data ptrs code count hk w).mono (by rintro e w' ⟨rfl, c, rfl⟩; exact ⟨rfl, below_alloc (Below.refl _ _) (Nat.le_refl _) _⟩)
  · exact (cost_pos kind at_ data ptrs code count (by simpa using hk) k0 k1 d0 d1 p0 p1 c0 c1 n0 n1 w).mono (by
      rintro e w' ⟨rfl, c1, c2, nq, rfl⟩
      exact ⟨rfl, below_drewN' (below_alloc (below_alloc (Below.refl _ _) (Nat.le_refl _) _) (Nat.le_refl _) _) _⟩)

theorem secD_ok {x : Int} (h : secOk x = true) : secD x = mid16 x := by simp [secD, h]
theorem secP_ok {x : Int} (h : secOk x = true) : secP x = top16 x := by simp [secP, h]
theorem secOk_iff (x : Int) : secOk x = true ↔ mid16 x ≤ 8 ∧ top16 x ≤ 8 := by simp [secOk]
theorem spansB_true {to n size : Int} (n0 : 0 ≤ n) (h : spansB to n size = true) : (n = 0 ∧ 0 ≤ to ∧ to ≤ size) ∨ (1 ≤ n ∧ 1 ≤ to ∧ to + n ≤ size) := by
  unfold spansB at h; split at h <;> simp at h <;> omega
theorem spansB_false {to n size : Int} (n0 : 0 ≤ n) (h : ¬ spansB to n size = true) : (n = 0 ∧ (to < 0 ∨ size < to)) ∨ (1 ≤ n ∧ (to < 1 ∨ size < to + n)) := by
  unfold spansB at h; split at h <;> simp at h <;> omega

theorem wideResolve_in (b off len cap : Nat) (at_ : Int) (z : Int → Int) (h0 : 0 ≤ at_) (h1 : at_ < len) (hl : len ≤ 256) (w : World) (hz : Row w b off len z) :
    Calls Fahg.prog 34 #[.slice (some ⟨b, off, none⟩) len cap, .int .i64 at_] w fun e w' => e = .returned (.tuple #[(rsv z len at_).1.val, .bool (rsv z len at_).2]) ∧ Below w.heap.size w w' := by
  obtain ⟨hc, hu⟩ := hz at_ h0 h1
  by_cases hx0 : z at_ = 0
  · have hR : rsv z len at_ = (WP.nul, true) := by simp [rsv, hx0]
    rw [hR]; rw [hx0] at hc
    exact wr_zero b off len cap at_ h0 h1 hl w hc
  have hx0' : (z at_ == 0) = false := by simpa using hx0
  have hlb := low2_bd (z at_)
  have b2 := mid16_bd (z at_)
  have b3 := top16_bd (z at_) hu
  by_cases hlo0 : low2 (z at_) = 0
  · by_cases hs : secOk (z at_) = true
    · obtain ⟨d8, p8⟩ := (secOk_iff _).1 hs
      have bw := wWords_bd 1 (mid16 (z at_)) (top16 (z at_)) 0 0 b2.1 b3.1 (by omega)
      by_cases hsp : spansB (rTo at_ (z at_)) (wWords 1 (mid16 (z at_)) (top16 (z at_)) 0 0) len = true
      · have hR : rsv z len at_ = (⟨1, rTo at_ (z at_), mid16 (z at_), top16 (z at_), 0, 0⟩, true) := by simp [rsv, hx0, hlo0, hs, hsp, secD_ok hs, secP_ok hs]
        rw [hR]
        exact wr_sec b off len cap at_ _ h0 h1 hl w hc hu hx0' hlo0 d8 p8 _ rfl (spansB_true bw.1 hsp)
      · have hR : rsv z len at_ = (WP.nul, false) := by simp [rsv, hx0, hlo0, hs, hsp, secD_ok hs, secP_ok hs]
        rw [hR]
        exact wr_sec_out b off len cap at_ _ h0 h1 hl w hc hu hx0' hlo0 d8 p8 _ rfl (spansB_false bw.1 hsp)
    · have hR : rsv z len at_ = (WP.nul, false) := by simp [rsv, hx0, hlo0, hs]
      rw [hR]
      refine wr_sec_no b off len cap at_ _ h0 h1 hl w hc hu hx0' hlo0 ?_
      rw [secOk_iff] at hs; omega
  by_cases hlo1 : low2 (z at_) = 1
  · have hb2 := cnt29_bd _ hu
    have hb3 := code3_bd (z at_)
    by_cases hc7 : code3 (z at_) = 7
    · by_cases hto : 1 ≤ rTo at_ (z at_) ∧ rTo at_ (z at_) < len
      · obtain ⟨hct, hut⟩ := hz (rTo at_ (z at_)) (by omega) (by omega)
        have f1 := low2_bd (z (rTo at_ (z at_)))
        have f2 := mid16_bd (z (rTo at_ (z at_)))
        have f3 := top16_bd _ hut
        have f4 := cnt30_bd (z (rTo at_ (z at_)))
        by_cases hq : low2 (z (rTo at_ (z at_))) = 0
        · by_cases hs : secOk (z (rTo at_ (z at_))) = true
          · obtain ⟨d8, p8⟩ := (secOk_iff _).1 hs
            by_cases hne : cnt30 (z (rTo at_ (z at_))) * (mid16 (z (rTo at_ (z at_))) + top16 (z (rTo at_ (z at_)))) = cnt29 (z at_)
            · have hW : wWords 2 (mid16 (z (rTo at_ (z at_)))) (top16 (z (rTo at_ (z at_)))) 7 (cnt30 (z (rTo at_ (z at_)))) = min (1 + cnt29 (z at_)) 257 := by
                simp [wWords, d8, p8, hne]
              by_cases hsp : rTo at_ (z at_) + min (1 + cnt29 (z at_)) 257 ≤ len
              · have hR : rsv z len at_ = (⟨2, rTo at_ (z at_) + 1, mid16 (z (rTo at_ (z at_))), top16 (z (rTo at_ (z at_))), 7, cnt30 (z (rTo at_ (z at_)))⟩, true) := by
                  have e1 : spansB (rTo at_ (z at_)) (cnt29 (z at_) + 1) len = true := by unfold spansB; rw [if_neg (by omega)]; simp; omega
                  have e2 : stB (rTo at_ (z at_)) (z (rTo at_ (z at_))) (cnt29 (z at_)) = true := by
                    simp only [stB, stP, WP.words, secD_ok hs, secP_ok hs, hs, hq, hW]
                    simp; omega
                  simp only [rsv, if_neg hx0, hlo1, hc7, e1, stR, e2]
                  rw [if_neg (by omega)]
                  simp [stP, secD_ok hs, secP_ok hs]; omega
                rw [hR]
                exact wr_tag b off len cap at_ _ h0 h1 hl w hc hu hx0' hlo1 hc7 hto.1 hto.2 _ hct hut (by simpa using hq) d8 p8 (by simpa using hne) _ rfl (by rw [hW]; omega)
              · have hR : rsv z len at_ = (WP.nul, false) := by
                  have e1 : (decide (cnt29 (z at_) ≤ 256) && spansB (rTo at_ (z at_)) (cnt29 (z at_) + 1) len) = false := by
                    unfold spansB; rw [if_neg (by omega)]; simp; omega
                  simp only [rsv, if_neg hx0, hlo1, hc7, e1]
                  rw [if_neg (by omega)]; simp
                rw [hR]
                exact wr_tag_out b off len cap at_ _ h0 h1 hl w hc hu hx0' hlo1 hc7 hto.1 hto.2 _ hct hut (by simpa using hq) d8 p8 (by simpa using hne) _ rfl (by rw [hW]; omega)
            · have hR : rsv z len at_ = (WP.nul, false) := by
                simp only [rsv, if_neg hx0, hlo1, hc7]
                rw [if_neg (by omega)]
                simp only [if_true]
                split
                · rename_i he
                  have e2 : stB (rTo at_ (z at_)) (z (rTo at_ (z at_))) (cnt29 (z at_)) = false := by
                    unfold spansB at he; rw [if_neg (by omega)] at he; simp at he
                    simp only [stB, stP, WP.words, secD_ok hs, secP_ok hs, hs, hq]
                    simp [wWords, d8, p8]
                    generalize cnt30 (z (rTo at_ (z at_))) * (mid16 (z (rTo at_ (z at_))) + top16 (z (rTo at_ (z at_)))) = pr at *
                    omega
                  simp [stR, e2]
                · rfl
              rw [hR]
              exact wr_tag_ne b off len cap at_ _ h0 h1 hl w hc hu hx0' hlo1 hc7 hto.1 hto.2 _ hct hut (by simpa using hq) d8 p8 (by simpa using hne)
          · have hR : rsv z len at_ = (WP.nul, false) := by
              have e2 : stB (rTo at_ (z at_)) (z (rTo at_ (z at_))) (cnt29 (z at_)) = false := by simp [stB, hs]
              simp [rsv, hx0, hlo1, hc7, stR, e2]
            rw [hR]
            refine wr_tag_sec b off len cap at_ _ h0 h1 hl w hc hu hx0' hlo1 hc7 hto.1 hto.2 _ hct hut (by simpa using hq) ?_
            rw [secOk_iff] at hs; omega
        · have hR : rsv z len at_ = (WP.nul, false) := by
            have e2 : stB (rTo at_ (z at_)) (z (rTo at_ (z at_))) (cnt29 (z at_)) = false := by simp [stB, hq]
            simp [rsv, hx0, hlo1, hc7, stR, e2]
          rw [hR]
          exact wr_tag_low b off len cap at_ _ h0 h1 hl w hc hu hx0' hlo1 hc7 hto.1 hto.2 _ hct hut (by simpa using hq)
      · have hR : rsv z len at_ = (WP.nul, false) := by
          have e1 : (decide (cnt29 (z at_) ≤ 256) && spansB (rTo at_ (z at_)) (cnt29 (z at_) + 1) len) = false := by
            unfold spansB; rw [if_neg (by omega)]; simp; omega
          simp only [rsv, if_neg hx0, hlo1, hc7, e1]
          rw [if_neg (by omega)]; simp
        rw [hR]
        exact wr_tag_off b off len cap at_ _ h0 h1 hl w hc hu hx0' hlo1 hc7 (by omega)
    · have bw := wWords_bd 2 0 0 (code3 (z at_)) (cnt29 (z at_)) (by omega) (by omega) hb2.1
      by_cases hsp : spansB (rTo at_ (z at_)) (wWords 2 0 0 (code3 (z at_)) (cnt29 (z at_))) len = true
      · have hR : rsv z len at_ = (⟨2, rTo at_ (z at_), 0, 0, code3 (z at_), cnt29 (z at_)⟩, true) := by simp [rsv, hx0, hlo1, hc7, hsp]
        rw [hR]
        exact wr_list b off len cap at_ _ h0 h1 hl w hc hu hx0' hlo1 (by omega) _ rfl (spansB_true bw.1 hsp)
      · have hR : rsv z len at_ = (WP.nul, false) := by simp [rsv, hx0, hlo1, hc7, hsp]
        rw [hR]
        exact wr_list_out b off len cap at_ _ h0 h1 hl w hc hu hx0' hlo1 (by omega) _ rfl (spansB_false bw.1 hsp)
  · have hR : rsv z len at_ = (WP.nul, false) := by simp [rsv, hx0, hlo0, hlo1]
    rw [hR]
    exact wr_bad b off len cap at_ _ h0 h1 hl w hc hu hx0' (by omega)
end Go.Proofs.Ygcfah
