/- What wire.Resolve answers is a Shape; wire.Words, Extent, Padded there. -/
import Derived.Test.YgcfahNr
import Derived.Test.YgcfahNodes
namespace Go.Proofs.Ygcfah
open Go.RowKit
set_option linter.unusedVariables false
set_option linter.unusedSimpArgs false

/-- A Shape within the narrower format's limits. -/
structure NShape (size : Nat) (p : WP) : Prop where
  s : Shape size p
  n : p.count ≤ 128
  c : p.kind = 2 → 2 ≤ p.code
theorem nshape (z : Int → Int) (size : Nat) (at_ : Int) (h0 : 0 ≤ at_) (h1 : at_ < size) (hs : size ≤ 256) (hz : ∀ i, 0 ≤ i → i < (size : Int) → U64 (z i)) (h : (rsn z size at_).2 = true) :
    (rsn z size at_).1 = WP.nul ∨ NShape size (rsn z size at_).1 := by
  have hu := hz at_ h0 h1
  have b2 := secD_bd (z at_)
  have b3 := secP_bd (z at_) hu
  have b4 := cnt29_bd (z at_) hu
  have b5 := code3_bd (z at_)
  unfold rsn at h ⊢
  by_cases c0 : z at_ = 0
  · rw [if_pos c0]; exact .inl rfl
  rw [if_neg c0] at h ⊢
  by_cases c1 : low2 (z at_) = 0
  · rw [if_pos c1] at h ⊢
    split
    · rename_i k
      right
      simp only [Bool.and_eq_true] at k
      have ht := spans_in (by omega) k.2
      generalize rTo at_ (z at_) = A at *
      generalize secD (z at_) = D at *
      generalize secP (z at_) = P at *
      obtain ⟨A, rfl⟩ := Int.eq_ofNat_of_zero_le ht.2.2
      obtain ⟨D, rfl⟩ := Int.eq_ofNat_of_zero_le b2.1
      obtain ⟨P, rfl⟩ := Int.eq_ofNat_of_zero_le b3.1
      refine ⟨.struct A D P (by omega) (by omega) (by omega) (by omega) ?_, by simp, by simp⟩
      unfold WP.words wWords; rw [if_neg (by simp), if_pos ⟨rfl, by simp only []; omega, by simp only []; omega⟩]; push_cast; rfl
    · exact .inl rfl
  rw [if_neg c1] at h ⊢
  by_cases c2 : low2 (z at_) = 1
  · rw [if_pos c2] at h ⊢
    by_cases c3 : code3 (z at_) = 7
    · rw [if_pos c3] at h ⊢
      split
      · rename_i k
        right
        simp only [Bool.and_eq_true] at k
        have ht := spans_in (by omega) k.1
        have hut := hz (rTo at_ (z at_)) ht.2.2 (by omega)
        generalize z (rTo at_ (z at_)) = t at *
        have d2 := secD_bd t
        have d3 := secP_bd t hut
        have d4 := cnt30_bd t
        have hk := k.2
        unfold ntB at hk
        simp only [Bool.and_eq_true, decide_eq_true_eq] at hk
        obtain ⟨⟨⟨⟨k1, k2⟩, k3⟩, k4⟩, k5⟩ := hk
        generalize rTo at_ (z at_) = A at *
        generalize secD t = D at *
        generalize secP t = P at *
        generalize cnt30 t = C at *
        generalize cnt29 (z at_) = N at *
        obtain ⟨A, rfl⟩ := Int.eq_ofNat_of_zero_le ht.2.2
        obtain ⟨D, rfl⟩ := Int.eq_ofNat_of_zero_le d2.1
        obtain ⟨P, rfl⟩ := Int.eq_ofNat_of_zero_le d3.1
        obtain ⟨C, rfl⟩ := Int.eq_ofNat_of_zero_le d4.1
        have em : ((C * (D + P) : Nat) : Int) = N := by rw [← k5]; push_cast; rfl
        have hb : A + 1 + C * (D + P) ≤ size := by generalize C * (D + P) = q at *; omega
        refine ⟨.structs (A + 1) D P C (by omega) (by omega) (by omega) (by omega) hb ?_, by simpa using k3, by simp⟩
        unfold WP.words wWords
        rw [if_neg (by simp), if_neg (by simp), if_neg (by simp), if_pos ⟨rfl, rfl, by simp only []; omega, by simp only []; omega⟩]
        simp only []
        rw [k5, ← em]
        generalize C * (D + P) = q at *
        omega
      · exact .inl rfl
    · rw [if_neg c3] at h ⊢
      split
      · rename_i k
        right
        simp only [Bool.and_eq_true, decide_eq_true_eq] at k
        have be := elBits_bd (code3 (z at_))
        have m2 : 0 ≤ cnt29 (z at_) * elBits (code3 (z at_)) := Int.mul_nonneg b4.1 be.1
        have ht := spans_in (show 0 ≤ nWds (code3 (z at_)) (cnt29 (z at_)) by unfold nWds; omega) k.2
        unfold nWds at ht
        generalize rTo at_ (z at_) = A at *
        generalize code3 (z at_) = c at *
        generalize cnt29 (z at_) = C at *
        obtain ⟨A, rfl⟩ := Int.eq_ofNat_of_zero_le ht.2.2
        obtain ⟨c, rfl⟩ := Int.eq_ofNat_of_zero_le b5.1
        obtain ⟨C, rfl⟩ := Int.eq_ofNat_of_zero_le b4.1
        obtain ⟨W, hW⟩ := Int.eq_ofNat_of_zero_le (show 0 ≤ ((C : Int) * elBits c + 63) / 64 by omega)
        refine ⟨.list A c C W (by omega) (by omega) hW.symm (by omega) (by omega) ?_, by simpa using k.1.2, fun _ => by simpa using k.1.1⟩
        unfold WP.words wWords
        rw [if_neg (by simp), if_neg (by simp), if_pos ⟨rfl, by simp only []; omega⟩]
        simp only []
        rw [hW]; omega
      · exact .inl rfl
  · rw [if_neg c2] at h
    exact absurd h (by decide)

theorem nwords_shape (size : Nat) (hl : size ≤ 256) (p : WP) (hp : NShape size p) (w : World) :
    Calls Fahg.prog 95 #[p.nval] w fun e w' => e = .returned (.int .u16 p.words) ∧ ∃ c nq, w' = (w.alloc (.cells c 34)).drewN nq := by
  obtain ⟨hs, hn, hc⟩ := hp
  cases hs with
  | struct A D P hD hP hb h1 hw =>
    rw [hw, show ((D + P : Nat) : Int) = (D : Int) + P from by push_cast; rfl]
    exact nwords_struct A D P 0 0 (by omega) (by omega) (by omega) (by omega) w
  | list A c C W hc6 hC hW hb h1 hw =>
    rw [hw, hW]
    exact nwords_l A 0 0 c C (by omega) (by omega) (by omega) (by omega) (hc rfl) (by omega) (by omega) hn w
  | structs A D P C hD hP hC hA hb hw =>
    rw [hw, show ((1 + C * (D + P) : Nat) : Int) = 1 + ((C * (D + P) : Nat) : Int) from by push_cast; rfl]
    exact nwords_structs A D P C ((C * (D + P) : Nat) : Int) (by show _ = _; push_cast; rfl) (by omega) (by omega) (by omega) (by omega) (by omega) (by omega) (by omega) hn w

theorem one0 (a b c d e f : Value) : #[a, b, c, d, e, f][0]? = some a := rfl
theorem one1 (a b c d e f : Value) : #[a, b, c, d, e, f][1]? = some b := rfl
theorem one2 (a b c d e f : Value) : #[a, b, c, d, e, f][2]? = some c := rfl
theorem one3 (a b c d e f : Value) : #[a, b, c, d, e, f][3]? = some d := rfl
theorem one4 (a b c d e f : Value) : #[a, b, c, d, e, f][4]? = some e := rfl
theorem one5 (a b c d e f : Value) : #[a, b, c, d, e, f][5]? = some f := rfl
set_option maxRecDepth 100000 in
set_option maxHeartbeats 1000000 in
theorem extent_x (p1 p2 p3 p4 p5 p6 m lo : Int) (HW : Hid (∀ w, Calls Fahg.prog 95 #[WP.nval ⟨p1, p2, p3, p4, p5, p6⟩] w fun e w' => e = .returned (.int .u16 m) ∧ ∃ c nq, w' = (w.alloc (.cells c 34)).drewN nq)) (h : (p1 = 2 ∧ p5 = 7 ∧ lo = p2 - 1 ∧ 1 ≤ p2 ∧ p2 ≤ 65535) ∨ (p1 = 1 ∧ lo = p2) ∨ (p1 = 2 ∧ (p5 == 7) = false ∧ lo = p2)) (w : World) :
    Calls Fahg.prog 53 #[WP.nval ⟨p1, p2, p3, p4, p5, p6⟩] w fun e w' => e = .returned (.tuple #[.int .u16 lo, .int .u16 m]) ∧ Below w.heap.size w w' := by
  simp only [WP.nval] at HW ⊢
  rcases h with ⟨rfl, rfl, rfl, h1, h2⟩ | ⟨rfl, rfl⟩ | ⟨rfl, h5, rfl⟩
  · have hwp : IntKind.u16.wrap (p2 - 1) = p2 - 1 := by rw [IntKind.wrap_u16]; omega
    go_enter Fahg.func53, Fahg.ntmps53
    go_wp2_with fail
    obtain ⟨w3, hw3⟩ : ∃ w3, w3 = w.alloc (.cells #[.int .u8 2, .int .u16 p2, .int .u8 p3, .int .u8 p4, .int .u8 7, .int .u16 p6] 34) := ⟨_, rfl⟩
    rw [← hw3]
    have k : ∀ o, w3.cell? ⟨w.heap.size, o, none⟩ = #[Value.int .u8 2, .int .u16 p2, .int .u8 p3, .int .u8 p4, .int .u8 7, .int .u16 p6][o]? := fun o => by rw [hw3]; exact World.cell?_alloc_at _ _ _ _ rfl
    have HB : Hid (Below w.heap.size w w3) := by rw [hw3]; exact below_alloc (Below.refl _ _) (Nat.le_refl _) _
    have hz3 : w.heap.size < w3.heap.size := by rw [hw3]; simp
    have r1 := k 0
    have r2 := k 1
    have r3 := k 2
    have r4 := k 3
    have r5 := k 4
    have r6 := k 5
    simp only [one0, one1, one2, one3, one4, one5] at r1 r2 r3 r4 r5 r6
    clear hw3 k
    go_region_held3 (fun w' => w'.cell? ⟨w.heap.size, 0, none⟩ = some (.int .u8 2) ∧ w'.cell? ⟨w.heap.size, 1, none⟩ = some (.int .u16 p2) ∧ w'.cell? ⟨w.heap.size, 2, none⟩ = some (.int .u8 p3) ∧ w'.cell? ⟨w.heap.size, 3, none⟩ = some (.int .u8 p4) ∧ w'.cell? ⟨w.heap.size, 4, none⟩ = some (.int .u8 7) ∧ w'.cell? ⟨w.heap.size, 5, none⟩ = some (.int .u16 p6)) (simp [go_sem, r1, r2, r3, r4, r5, r6, hz3])
      (first | (go_at_call 95; refine (HW.out _).mono ?_; rintro e wI ⟨rfl, cA, nA, rfl⟩))
    all_goals go_wp2_with fail
    all_goals refine bodyPost_ret (v := .tuple #[.int .u16 (p2 - 1), .int .u16 m]) (by simp [results, Fahg.results53, go_sem]) rfl ⟨rfl, ?_⟩
    all_goals repeat' (first | refine below_drewN' ?_ _ | refine below_alloc ?_ (Nat.le_refl _) _ | exact HB.out)
  · skip
    go_enter Fahg.func53, Fahg.ntmps53
    go_wp2_with fail
    obtain ⟨w3, hw3⟩ : ∃ w3, w3 = w.alloc (.cells #[.int .u8 1, .int .u16 lo, .int .u8 p3, .int .u8 p4, .int .u8 p5, .int .u16 p6] 34) := ⟨_, rfl⟩
    rw [← hw3]
    have k : ∀ o, w3.cell? ⟨w.heap.size, o, none⟩ = #[Value.int .u8 1, .int .u16 lo, .int .u8 p3, .int .u8 p4, .int .u8 p5, .int .u16 p6][o]? := fun o => by rw [hw3]; exact World.cell?_alloc_at _ _ _ _ rfl
    have HB : Hid (Below w.heap.size w w3) := by rw [hw3]; exact below_alloc (Below.refl _ _) (Nat.le_refl _) _
    have hz3 : w.heap.size < w3.heap.size := by rw [hw3]; simp
    have r1 := k 0
    have r2 := k 1
    have r3 := k 2
    have r4 := k 3
    have r5 := k 4
    have r6 := k 5
    simp only [one0, one1, one2, one3, one4, one5] at r1 r2 r3 r4 r5 r6
    clear hw3 k
    go_region_held3 (fun w' => w'.cell? ⟨w.heap.size, 0, none⟩ = some (.int .u8 1) ∧ w'.cell? ⟨w.heap.size, 1, none⟩ = some (.int .u16 lo) ∧ w'.cell? ⟨w.heap.size, 2, none⟩ = some (.int .u8 p3) ∧ w'.cell? ⟨w.heap.size, 3, none⟩ = some (.int .u8 p4) ∧ w'.cell? ⟨w.heap.size, 4, none⟩ = some (.int .u8 p5) ∧ w'.cell? ⟨w.heap.size, 5, none⟩ = some (.int .u16 p6)) (simp [go_sem, r1, r2, r3, r4, r5, r6, hz3])
      (first | (go_at_call 95; refine (HW.out _).mono ?_; rintro e wI ⟨rfl, cA, nA, rfl⟩))
    all_goals go_wp2_with fail
    all_goals refine bodyPost_ret (v := .tuple #[.int .u16 lo, .int .u16 m]) (by simp [results, Fahg.results53, go_sem]) rfl ⟨rfl, ?_⟩
    all_goals repeat' (first | refine below_drewN' ?_ _ | refine below_alloc ?_ (Nat.le_refl _) _ | exact HB.out)
  · skip
    go_enter Fahg.func53, Fahg.ntmps53
    go_wp2_with fail
    obtain ⟨w3, hw3⟩ : ∃ w3, w3 = w.alloc (.cells #[.int .u8 2, .int .u16 lo, .int .u8 p3, .int .u8 p4, .int .u8 p5, .int .u16 p6] 34) := ⟨_, rfl⟩
    rw [← hw3]
    have k : ∀ o, w3.cell? ⟨w.heap.size, o, none⟩ = #[Value.int .u8 2, .int .u16 lo, .int .u8 p3, .int .u8 p4, .int .u8 p5, .int .u16 p6][o]? := fun o => by rw [hw3]; exact World.cell?_alloc_at _ _ _ _ rfl
    have HB : Hid (Below w.heap.size w w3) := by rw [hw3]; exact below_alloc (Below.refl _ _) (Nat.le_refl _) _
    have hz3 : w.heap.size < w3.heap.size := by rw [hw3]; simp
    have r1 := k 0
    have r2 := k 1
    have r3 := k 2
    have r4 := k 3
    have r5 := k 4
    have r6 := k 5
    simp only [one0, one1, one2, one3, one4, one5] at r1 r2 r3 r4 r5 r6
    clear hw3 k
    go_region_held3 (fun w' => w'.cell? ⟨w.heap.size, 0, none⟩ = some (.int .u8 2) ∧ w'.cell? ⟨w.heap.size, 1, none⟩ = some (.int .u16 lo) ∧ w'.cell? ⟨w.heap.size, 2, none⟩ = some (.int .u8 p3) ∧ w'.cell? ⟨w.heap.size, 3, none⟩ = some (.int .u8 p4) ∧ w'.cell? ⟨w.heap.size, 4, none⟩ = some (.int .u8 p5) ∧ w'.cell? ⟨w.heap.size, 5, none⟩ = some (.int .u16 p6)) (simp [go_sem, r1, r2, r3, r4, r5, r6, hz3])
      (first | (go_at_call 95; refine (HW.out _).mono ?_; rintro e wI ⟨rfl, cA, nA, rfl⟩))
    all_goals go_wp2_with fail
    all_goals refine bodyPost_ret (v := .tuple #[.int .u16 lo, .int .u16 m]) (by simp [results, Fahg.results53, go_sem]) rfl ⟨rfl, ?_⟩
    all_goals repeat' (first | refine below_drewN' ?_ _ | refine below_alloc ?_ (Nat.le_refl _) _ | exact HB.out)

theorem extent_shape (z : Int → Int) (size : Nat) (hl : size ≤ 256) (p : WP) (hp : NShape size p) (w : World) :
    Calls Fahg.prog 53 #[p.nval] w fun e w' => e = .returned (.tuple #[.int .u16 (nodeOf z p).lo, .int .u16 (nodeOf z p).n]) ∧ Below w.heap.size w w' := by
  have hW : Hid (∀ w, _) := fun w => nwords_shape size hl p hp w
  obtain ⟨nl, nn, nb, nk, nm⟩ := shape_node z hl hp.s
  rw [← nn] at hW
  have hs := hp.s
  obtain ⟨p1, p2, p3, p4, p5, p6⟩ := p
  simp only at nl
  refine extent_x p1 p2 p3 p4 p5 p6 _ _ hW ?_ w
  generalize (nodeOf z ⟨p1, p2, p3, p4, p5, p6⟩).lo = lo at *
  cases hs with
  | struct A D P hD hP hb h1 hw => right; left; exact ⟨rfl, by simpa using nl⟩
  | list A c C W hc6 hC hW hb h1 hw => right; right; exact ⟨rfl, by simp; omega, by rw [if_neg (by omega)] at nl; exact nl⟩
  | structs A D P C hD hP hC hA hb hw => left; exact ⟨rfl, rfl, by simpa using nl, by omega, by generalize C * (D + P) = q at *; omega⟩

set_option maxRecDepth 100000 in
set_option maxHeartbeats 1000000 in
theorem npad_struct (a0 : Option Addr) (len cap : Nat) (p2 p3 p4 p5 p6 : Int) (w : World) :
    Calls Fahg.prog 55 #[.slice a0 len cap, WP.nval ⟨1, p2, p3, p4, p5, p6⟩] w fun e w' => e = .returned (.bool true) ∧ Below w.heap.size w w' := by
  simp only [WP.nval]
  go_enter Fahg.func55, Fahg.ntmps55
  go_wp2_with fail
  go_ret
  exact ⟨rfl, below_alloc (Below.refl _ _) (Nat.le_refl _) _⟩
set_option maxRecDepth 100000 in
set_option maxHeartbeats 1000000 in
theorem npad_hi (a0 : Option Addr) (len cap : Nat) (p2 p3 p4 p5 p6 : Int) (h5 : 5 < p5) (h6 : p5 ≤ 255) (n0 : 0 ≤ p6) (n1 : p6 ≤ 128) (w : World) :
    Calls Fahg.prog 55 #[.slice a0 len cap, WP.nval ⟨2, p2, p3, p4, p5, p6⟩] w fun e w' => e = .returned (.bool true) ∧ Below w.heap.size w w' := by
  have HW : Hid _ := fun w => width_no p5 (.inr h5) (by omega) h6 w
  simp only [WP.nval]
  go_enter Fahg.func55, Fahg.ntmps55
  go_wp2_with fail
  go_quiet ((go_at_call 118; exact Calls.quiet_of_same (HW.out _)))
  go_wp2_with fail
  go_ret
  exact ⟨rfl, below_drewN' (below_alloc (Below.refl _ _) (Nat.le_refl _) _) _⟩
set_option maxRecDepth 100000 in
set_option maxHeartbeats 1000000 in
theorem npad_lo (b off len cap : Nat) (p2 : Nat) (p3 p4 c : Int) (p6 : Nat) (E x : Nat) (hc0 : 2 ≤ c) (hc1 : c ≤ 5) (hE : elBits c = E) (n1 : p6 ≤ 128) (w : World) (R : Bool) (hx : x < 18446744073709551616) (h2 : p2 ≤ 256) (hl : len ≤ 256)
    (hR : Hid (if p6 * E % 64 = 0 then R = true else (R = (x / 2 ^ (p6 * E % 64) == 0) ∧ p2 + p6 * E / 64 < len ∧ w.cell? ⟨b, off + (p2 + p6 * E / 64), none⟩ = some (.int .u64 x) ∧ b < w.heap.size))) :
    Calls Fahg.prog 55 #[.slice (some ⟨b, off, none⟩) len cap, WP.nval ⟨2, p2, p3, p4, c, p6⟩] w fun e w' => e = .returned (.bool R) ∧ Below w.heap.size w w' := by
  have hw := fun w => width_any c hc0 hc1 w
  rw [hE] at hw
  have hE4 : E = 8 ∨ E = 16 ∨ E = 32 ∨ E = 64 := by
    have : c = 2 ∨ c = 3 ∨ c = 4 ∨ c = 5 := by omega
    rcases this with rfl | rfl | rfl | rfl <;> simp [elBits] at hE <;> omega
  have HW : Hid _ := hw
  clear hw hE
  simp only [WP.nval]
  rcases hE4 with rfl | rfl | rfl | rfl
  · by_cases h0 : p6 * 8 % 64 = 0
    · have hr := hR.out
      rw [if_pos h0] at hr
      have HR : Hid _ := hr
      clear hr hR
      go_enter Fahg.func55, Fahg.ntmps55
      go_wp2_with fail
      go_quiet ((go_at_call 118; exact Calls.quiet_of_same (HW.out _)))
      go_wp2_with fail
      go_ret
      exact ⟨ret_bool HR.out.symm, below_drewN' (below_alloc (Below.refl _ _) (Nat.le_refl _) _) _⟩
    · have hr := hR.out
      rw [if_neg h0] at hr
      obtain ⟨hr1, hr2, hr3, hr4⟩ := hr
      rw [show p2 + p6 * 8 / 64 = p2 + p6 / 8 by omega] at hr2 hr3
      rw [show p6 * 8 % 64 = p6 % 8 * 8 by omega] at hr1
      have HR : Hid _ := hr1
      clear hr1 hR
      go_enter Fahg.func55, Fahg.ntmps55
      go_wp2_with fail
      go_quiet ((go_at_call 118; exact Calls.quiet_of_same (HW.out _)))
      go_wp2_with fail
      go_ret
      refine ⟨ret_bool ?_, below_drewN' (below_alloc (Below.refl _ _) (Nat.le_refl _) _) _⟩
      rw [HR.out]
      have e : ((x : Int) / 2 ^ (p6 % 8 * 8)) = ((x / 2 ^ (p6 % 8 * 8) : Nat) : Int) := by push_cast; rfl
      rw [e, Bool.eq_iff_iff, beq_iff_eq, beq_iff_eq]
      generalize x / 2 ^ (p6 % 8 * 8) = y
      omega
  · by_cases h0 : p6 * 16 % 64 = 0
    · have hr := hR.out
      rw [if_pos h0] at hr
      have HR : Hid _ := hr
      clear hr hR
      go_enter Fahg.func55, Fahg.ntmps55
      go_wp2_with fail
      go_quiet ((go_at_call 118; exact Calls.quiet_of_same (HW.out _)))
      go_wp2_with fail
      go_ret
      exact ⟨ret_bool HR.out.symm, below_drewN' (below_alloc (Below.refl _ _) (Nat.le_refl _) _) _⟩
    · have hr := hR.out
      rw [if_neg h0] at hr
      obtain ⟨hr1, hr2, hr3, hr4⟩ := hr
      rw [show p2 + p6 * 16 / 64 = p2 + p6 * 2 / 8 by omega] at hr2 hr3
      rw [show p6 * 16 % 64 = p6 * 2 % 8 * 8 by omega] at hr1
      have HR : Hid _ := hr1
      clear hr1 hR
      go_enter Fahg.func55, Fahg.ntmps55
      go_wp2_with fail
      go_quiet ((go_at_call 118; exact Calls.quiet_of_same (HW.out _)))
      go_wp2_with fail
      go_ret
      refine ⟨ret_bool ?_, below_drewN' (below_alloc (Below.refl _ _) (Nat.le_refl _) _) _⟩
      rw [HR.out]
      have e : ((x : Int) / 2 ^ (p6 * 2 % 8 * 8)) = ((x / 2 ^ (p6 * 2 % 8 * 8) : Nat) : Int) := by push_cast; rfl
      rw [e, Bool.eq_iff_iff, beq_iff_eq, beq_iff_eq]
      generalize x / 2 ^ (p6 * 2 % 8 * 8) = y
      omega
  · by_cases h0 : p6 * 32 % 64 = 0
    · have hr := hR.out
      rw [if_pos h0] at hr
      have HR : Hid _ := hr
      clear hr hR
      go_enter Fahg.func55, Fahg.ntmps55
      go_wp2_with fail
      go_quiet ((go_at_call 118; exact Calls.quiet_of_same (HW.out _)))
      go_wp2_with fail
      go_ret
      exact ⟨ret_bool HR.out.symm, below_drewN' (below_alloc (Below.refl _ _) (Nat.le_refl _) _) _⟩
    · have hr := hR.out
      rw [if_neg h0] at hr
      obtain ⟨hr1, hr2, hr3, hr4⟩ := hr
      rw [show p2 + p6 * 32 / 64 = p2 + p6 * 4 / 8 by omega] at hr2 hr3
      rw [show p6 * 32 % 64 = p6 * 4 % 8 * 8 by omega] at hr1
      have HR : Hid _ := hr1
      clear hr1 hR
      go_enter Fahg.func55, Fahg.ntmps55
      go_wp2_with fail
      go_quiet ((go_at_call 118; exact Calls.quiet_of_same (HW.out _)))
      go_wp2_with fail
      go_ret
      refine ⟨ret_bool ?_, below_drewN' (below_alloc (Below.refl _ _) (Nat.le_refl _) _) _⟩
      rw [HR.out]
      have e : ((x : Int) / 2 ^ (p6 * 4 % 8 * 8)) = ((x / 2 ^ (p6 * 4 % 8 * 8) : Nat) : Int) := by push_cast; rfl
      rw [e, Bool.eq_iff_iff, beq_iff_eq, beq_iff_eq]
      generalize x / 2 ^ (p6 * 4 % 8 * 8) = y
      omega
  · by_cases h0 : p6 * 64 % 64 = 0
    · have hr := hR.out
      rw [if_pos h0] at hr
      have HR : Hid _ := hr
      clear hr hR
      go_enter Fahg.func55, Fahg.ntmps55
      go_wp2_with fail
      go_quiet ((go_at_call 118; exact Calls.quiet_of_same (HW.out _)))
      go_wp2_with fail
      go_ret
      exact ⟨ret_bool HR.out.symm, below_drewN' (below_alloc (Below.refl _ _) (Nat.le_refl _) _) _⟩
    · exact absurd h0 (by omega)

theorem npadded_shape (b off len cap : Nat) (z : Int → Int) (p : WP) (hp : NShape len p) (hl : len ≤ 256) (w : World) (hz : Row w b off len z) :
    Calls Fahg.prog 55 #[.slice (some ⟨b, off, none⟩) len cap, p.nval] w fun e w' => e = .returned (.bool (padB z p)) ∧ Below w.heap.size w w' := by
  obtain ⟨hs, hn, hc⟩ := hp
  cases hs with
  | struct A D P hD hP hb h1 hw =>
    rw [show padB z ⟨1, A, D, P, 0, 0⟩ = true from by simp [padB]]
    exact npad_struct _ len cap A D P 0 0 w
  | structs A D P C hD hP hC hA hb hw =>
    rw [show padB z ⟨2, A, D, P, 7, C⟩ = true from by simp [padB]]
    exact npad_hi _ len cap A D P 7 C (by decide) (by decide) (by omega) hn w
  | list A c C W hc6 hC hW hb h1 hw =>
    by_cases k5 : 5 < c
    · rw [show padB z ⟨2, A, 0, 0, c, C⟩ = true from by unfold padB; rw [if_neg (by simp only []; omega)]]
      exact npad_hi _ len cap A 0 0 c C (by omega) (by omega) (by omega) hn w
    have hc2 : 2 ≤ (c : Int) := hc rfl
    have hn' : C ≤ 128 := by have : (C : Int) ≤ 128 := hn; omega
    obtain ⟨E, hE⟩ := Int.eq_ofNat_of_zero_le (elBits_bd (c : Int)).1
    rw [hE] at hW
    have hW' : W = (C * E + 63) / 64 := by
      have : ((C * E : Nat) : Int) = (C : Int) * E := by push_cast; rfl
      generalize C * E = t at *
      rw [← this] at hW
      omega
    by_cases h0 : C * E % 64 = 0
    · refine npad_lo b off len cap A 0 0 c C E 0 hc2 (by omega) hE hn' w _ (by decide) (by omega) hl ?_
      show ite _ _ _
      rw [if_pos h0]
      unfold padB
      rw [padN_val c C E hE, if_neg (by simp only []; omega)]
    · have hcell := hz ((A + C * E / 64 : Nat) : Int) (by omega) (by omega)
      obtain ⟨x, hx⟩ := Int.eq_ofNat_of_zero_le hcell.2.1
      have hx2 := hcell.2.2
      rw [hx] at hx2 hcell
      rw [Int.toNat_natCast] at hcell
      refine npad_lo b off len cap A 0 0 c C E x hc2 (by omega) hE hn' w _ (by omega) (by omega) hl ?_
      show ite _ _ _
      rw [if_neg h0]
      refine ⟨?_, by omega, hcell.1, World.block_lt_of_cell? w _ hcell.1⟩
      unfold padB
      rw [padN_val c C E hE, if_pos ⟨rfl, by simp only []; omega, by omega⟩, hw]
      simp only []
      rw [show (A : Int) + W - 1 = ((A + C * E / 64 : Nat) : Int) by omega, hx, Int.toNat_natCast, Int.toNat_natCast]
end Go.Proofs.Ygcfah
