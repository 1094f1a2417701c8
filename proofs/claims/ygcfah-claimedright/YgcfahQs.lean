/- law.firstWord, law.slotsOf, law.slots.at. -/
import Derived.Test.YgcfahNs
namespace Go.Proofs.Ygcfah
open Go.RowKit
set_option linter.unusedVariables false
set_option linter.unusedSimpArgs false

set_option maxRecDepth 100000 in
theorem first_x (p1 p2 p3 p4 p5 p6 lo : Int) (h : (p1 = 2 ∧ p5 = 7 ∧ lo = p2 - 1 ∧ 1 ≤ p2 ∧ p2 ≤ 65535) ∨ (p1 = 1 ∧ lo = p2 ∧ 0 ≤ p2 ∧ p2 ≤ 65535) ∨ (p1 = 2 ∧ (p5 == 7) = false ∧ lo = p2 ∧ 0 ≤ p2 ∧ p2 ≤ 65535)) (w : World) :
    Calls Fahg.prog 94 #[WP.nval ⟨p1, p2, p3, p4, p5, p6⟩] w fun e w' => e = .returned (.int .i64 lo) ∧ ∃ c nq, w' = (w.alloc (.cells c 34)).drewN nq := by
  simp only [WP.nval]
  rcases h with ⟨rfl, rfl, rfl, h1, h2⟩ | ⟨rfl, rfl, h1, h2⟩ | ⟨rfl, h5, rfl, h1, h2⟩
  all_goals
    go_enter Fahg.func94, Fahg.ntmps94
    go_wp2_with fail
    go_ret
    exact ⟨rfl, _, 0, rfl⟩
theorem first_shape (z : Int → Int) (size : Nat) (hl : size ≤ 256) (p : WP) (hp : NShape size p) (w : World) :
    Calls Fahg.prog 94 #[p.nval] w fun e w' => e = .returned (.int .i64 (nodeOf z p).lo) ∧ ∃ c nq, w' = (w.alloc (.cells c 34)).drewN nq := by
  obtain ⟨nl, nn, nb, nk, nm⟩ := shape_node z hl hp.s
  have hs := hp.s
  obtain ⟨p1, p2, p3, p4, p5, p6⟩ := p
  simp only at nl
  refine first_x p1 p2 p3 p4 p5 p6 _ ?_ w
  generalize (nodeOf z ⟨p1, p2, p3, p4, p5, p6⟩).lo = lo at *
  cases hs with
  | struct A D P hD hP hb h1 hw => right; left; exact ⟨rfl, by simpa using nl, by omega, by omega⟩
  | list A c C W hc6 hC hW hb h1 hw => right; right; exact ⟨rfl, by simp; omega, by rw [if_neg (by omega)] at nl; exact nl, by omega, by omega⟩
  | structs A D P C hD hP hC hA hb hw => left; exact ⟨rfl, rfl, by simpa using nl, by omega, by generalize C * (D + P) = q at *; omega⟩
/-- slots as a value. -/
def slotsV (f c r s : Nat) : Value := .agg #[.int .i64 f, .int .i64 c, .int .i64 r, .int .i64 s]
set_option maxRecDepth 100000 in
set_option maxHeartbeats 400000 in
theorem slots_struct (A D P : Nat) (hD : D ≤ 8) (hP : P ≤ 8) (hA : A ≤ 256) (w : World) :
    Calls Fahg.prog 96 #[WP.nval ⟨1, A, D, P, 0, 0⟩] w fun e w' => e = .returned (slotsV (A + D) (P) (P) (D + P)) ∧ Below w.heap.size w w' := by
  have hv : slotsV (A + D) (P) (P) (D + P) = .agg #[.int .i64 ((A : Int) + D), .int .i64 P, .int .i64 P, .int .i64 ((D : Int) + P)] := by
    simp only [slotsV]; push_cast; rfl
  rw [hv]
  simp only [WP.nval]
  go_enter Fahg.func96, Fahg.ntmps96
  go_wp2_with fail
  go_quiet (fail)
  go_wp2_with fail
  refine bodyPost_ret (v := .agg #[.int .i64 ((A : Int) + D), .int .i64 P, .int .i64 P, .int .i64 ((D : Int) + P)]) (by simp [results, Fahg.results96, go_sem]) rfl ⟨rfl, ?_⟩
  repeat' (first | refine Below.setCell ?_ (by simp) _ | refine below_drewN' ?_ _ | refine below_alloc ?_ (Nat.le_refl _) _ | exact Below.refl _ _)
set_option maxRecDepth 100000 in
set_option maxHeartbeats 400000 in
theorem slots_ptrs (A C : Nat) (hC : C ≤ 128) (hA : A ≤ 256) (w : World) :
    Calls Fahg.prog 96 #[WP.nval ⟨2, A, 0, 0, 6, C⟩] w fun e w' => e = .returned (slotsV (A) (C) (1) (1)) ∧ Below w.heap.size w w' := by
  have hv : slotsV (A) (C) (1) (1) = .agg #[.int .i64 A, .int .i64 C, .int .i64 1, .int .i64 1] := by
    simp only [slotsV]; push_cast; rfl
  rw [hv]
  simp only [WP.nval]
  go_enter Fahg.func96, Fahg.ntmps96
  go_wp2_with fail
  go_quiet (fail)
  go_wp2_with fail
  refine bodyPost_ret (v := .agg #[.int .i64 A, .int .i64 C, .int .i64 1, .int .i64 1]) (by simp [results, Fahg.results96, go_sem]) rfl ⟨rfl, ?_⟩
  repeat' (first | refine Below.setCell ?_ (by simp) _ | refine below_drewN' ?_ _ | refine below_alloc ?_ (Nat.le_refl _) _ | exact Below.refl _ _)
set_option maxRecDepth 100000 in
set_option maxHeartbeats 400000 in
theorem slots_structs (A D P C : Nat) (hD : D ≤ 8) (hP : P ≤ 8) (hC : C ≤ 128) (hA : A ≤ 256) (hm1 : (C : Int) * P ≤ 65536) (hm0 : 0 ≤ (C : Int) * P) (w : World) :
    Calls Fahg.prog 96 #[WP.nval ⟨2, A, D, P, 7, C⟩] w fun e w' => e = .returned (slotsV (A + D) (C * P) (P) (D + P)) ∧ Below w.heap.size w w' := by
  have hv : slotsV (A + D) (C * P) (P) (D + P) = .agg #[.int .i64 ((A : Int) + D), .int .i64 ((C : Int) * P), .int .i64 P, .int .i64 ((D : Int) + P)] := by
    simp only [slotsV]; push_cast; rfl
  rw [hv]
  simp only [WP.nval]
  go_enter Fahg.func96, Fahg.ntmps96
  go_wp2_with fail
  go_quiet (fail)
  go_wp2_with fail
  refine bodyPost_ret (v := .agg #[.int .i64 ((A : Int) + D), .int .i64 ((C : Int) * P), .int .i64 P, .int .i64 ((D : Int) + P)]) (by simp [results, Fahg.results96, go_sem]) rfl ⟨rfl, ?_⟩
  repeat' (first | refine Below.setCell ?_ (by simp) _ | refine below_drewN' ?_ _ | refine below_alloc ?_ (Nat.le_refl _) _ | exact Below.refl _ _)
set_option maxRecDepth 100000 in
set_option maxHeartbeats 400000 in
theorem slots_none (A c C : Nat) (h6 : ((c : Int) == 6) = false) (h7 : ((c : Int) == 7) = false) (hc : c ≤ 255) (w : World) :
    Calls Fahg.prog 96 #[WP.nval ⟨2, A, 0, 0, c, C⟩] w fun e w' => e = .returned (slotsV (0) (0) (0) (0)) ∧ Below w.heap.size w w' := by
  have hv : slotsV (0) (0) (0) (0) = .agg #[.int .i64 0, .int .i64 0, .int .i64 0, .int .i64 0] := by
    simp only [slotsV]; push_cast; rfl
  rw [hv]
  simp only [WP.nval]
  go_enter Fahg.func96, Fahg.ntmps96
  go_wp2_with fail
  go_quiet (fail)
  go_wp2_with fail
  refine bodyPost_ret (v := .agg #[.int .i64 0, .int .i64 0, .int .i64 0, .int .i64 0]) (by simp [results, Fahg.results96, go_sem]) rfl ⟨rfl, ?_⟩
  repeat' (first | refine Below.setCell ?_ (by simp) _ | refine below_drewN' ?_ _ | refine below_alloc ?_ (Nat.le_refl _) _ | exact Below.refl _ _)
set_option maxRecDepth 100000 in
theorem at_x (f c r st k : Nat) (hf : f ≤ 65536) (hr : 0 < r) (hr2 : r ≤ 65536) (hk : k ≤ 65536) (hm : k / r * st ≤ 65536) (hst : st ≤ 65536) (w : World) :
    Calls Fahg.prog 97 #[slotsV f c r st, .int .i64 k] w fun e w' => e = .returned (.int .i64 ((f + k / r * st + k % r : Nat) : Int)) ∧ ∃ cc nq, w' = (w.alloc (.cells cc 185)).drewN nq := by
  have hr0 : ((r : Int) == 0) = false := by simp; omega
  have hr1 : ¬ ((r : Int) = 0) := by omega
  have e1 : ((k / r * st : Nat) : Int) = (k : Int) / r * st := by push_cast; rfl
  have hm1 : (k : Int) / r * st ≤ 65536 := by rw [← e1]; omega
  have hm0 : 0 ≤ (k : Int) / r * st := by rw [← e1]; omega
  have e2 : ((k % r : Nat) : Int) = (k : Int) % r := by push_cast; rfl
  have hq0 : 0 ≤ (k : Int) % r := by rw [← e2]; omega
  have hq1 : (k : Int) % r ≤ 65536 := by have := Nat.mod_lt k hr; rw [← e2]; omega
  have hd0 : 0 ≤ (k : Int) / r := Int.ediv_nonneg (by omega) (by omega)
  have hd1 : (k : Int) / r ≤ 65536 := by
    have : ((k / r : Nat) : Int) ≤ 65536 := by have := Nat.div_le_self k r; omega
    simpa using this
  have hres : ((f + k / r * st + k % r : Nat) : Int) = (f : Int) + (k : Int) / r * st + (k : Int) % r := by push_cast; rfl
  rw [hres]
  simp only [slotsV]
  go_enter Fahg.func97, Fahg.ntmps97
  go_wp2_with fail
  go_quiet (fail)
  go_wp2_with fail
  go_ret
  exact ⟨rfl, _, _, rfl⟩
end Go.Proofs.Ygcfah
