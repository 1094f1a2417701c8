/- law.ClaimedRight on a sound arena. -/
import Derived.Test.YgcfahQcl
import Derived.Test.YgcfahQma
import Derived.Test.YgcfahVsb
import Derived.Deep.LoopGhost
import Derived.Deep.WholeRow
namespace Go.Proofs.Ygcfah
open Go.RowKit
set_option linter.unusedVariables false
set_option linter.unusedSimpArgs false
theorem z73_size : Fahg.zeroCells73.size = 257 := by kernel_rfl
theorem z73_one : Fahg.zeroCells73.all (·.oneCell') = true := by kernel_rfl
theorem z73_info : (Fahg.prog.info? 73).map (·.size) = some 257 := by kernel_rfl
noncomputable def mkCells : Array Value := Fahg.zeroCells73.setIfInBounds 256 (.int .i64 1)
theorem mkCells_size : mkCells.size = 257 := by simp [mkCells, z73_size]
theorem mkCells_one : mkCells.all (·.oneCell') = true := by
  rw [Array.all_eq_true_iff_forall_mem]
  intro x hx
  unfold mkCells at hx
  rcases Array.mem_or_eq_of_mem_setIfInBounds hx with hx | rfl
  · exact (Array.all_eq_true_iff_forall_mem.1 z73_one) x hx
  · rfl
theorem mk_store (w : World) : Sem.run Fahg.prog (storeCells ⟨w.heap.size, 0, none⟩ (Fahg.zeroCells73.toList.set 256 (.int .i64 1))) (w.alloc (.cells Fahg.zeroCells73 73)) = .ok () (w.alloc (.cells mkCells 73)) := by
  rw [show (Fahg.zeroCells73.toList.set 256 (.int .i64 1)) = mkCells.toList from by simp [mkCells]]
  exact run_storeCells_new w 73 Fahg.zeroCells73 mkCells (z73_info.trans (congrArg some mkCells_size.symm)) (z73_size.trans mkCells_size.symm) mkCells_one
def isBool : Option Value → Bool
  | some (.bool x) => !x
  | _ => false
theorem isBool_eq {o : Option Value} (h : isBool o = true) : o = some (.bool false) := by
  unfold isBool at h; split at h
  · rename_i x; rw [show x = false by simpa using h]
  · cases h
theorem z73_w : (List.range 256).all (fun i => isBool Fahg.zeroCells73[i]?) = true := by kernel_rfl
theorem mk_fresh (w : World) : Mk (w.alloc (.cells (mkCells.setIfInBounds 0 (.bool true)) 73)) w.heap.size (fun i => i == 0) 1 := by
  have hc : ∀ o, (w.alloc (.cells (mkCells.setIfInBounds 0 (.bool true)) 73)).cell? ⟨w.heap.size, o, none⟩ = (mkCells.setIfInBounds 0 (.bool true))[o]? := fun o => World.cell?_alloc_at _ _ _ _ rfl
  have hz := List.all_eq_true.1 z73_w
  refine ⟨fun i hi => ?_, fun j _ => by simp [go_sem], ?_⟩
  · rw [hc]
    by_cases h0 : i = 0
    · subst h0; rw [Array.getElem?_setIfInBounds_self_of_lt (by rw [mkCells_size]; omega)]; rfl
    · rw [Array.getElem?_setIfInBounds_ne (by omega)]
      unfold mkCells
      rw [Array.getElem?_setIfInBounds_ne (by omega), isBool_eq (hz i (List.mem_range.2 hi))]
      simp [h0]
  · rw [hc, Array.getElem?_setIfInBounds_ne (by omega)]
    unfold mkCells
    rw [Array.getElem?_setIfInBounds_self_of_lt (by rw [z73_size]; omega)]
    rfl
set_option maxRecDepth 100000 in
set_option maxHeartbeats 3000000 in
theorem cr_yes (b off len0 len cap : Nat) (hL0 : (len0 ≤ 256 ∧ len = len0) ∨ (256 < len0 ∧ len = 256)) (hl : 1 ≤ len) (hl2 : len ≤ 256) (hcap : len0 ≤ cap) (z : Int → Int) (w : World) (hz : Row w b off len z) (hb : b < w.heap.size) (FS : Nat → Bool) (L : List Node) (hL : Hid (collect (resN z len) 8 0 = some L)) (hFS : Hid (FS = joinL (fun i => i == 0) L)) (hws : wordsL L ≤ 256) (hcnt : Hid (256 - cnt FS 256 = 1 + wordsL L))
    (HC : Hid (Calls Fahg.prog 31 #[.slice (some ⟨b, off, none⟩) len cap] w fun e w' => QClPost (some FS) w e w'))
    (HVa : Hid (∀ w', Below w.heap.size w w' → Calls Fahg.prog 29 #[.slice (some ⟨b, off, none⟩) len cap] w' fun e w2 => e = .returned (.bool true) ∧ Below w'.heap.size w' w2)) :
    Calls Fahg.prog 9 #[.slice (some ⟨b, off, none⟩) len0 cap] w fun e w' => e = .returned (.bool true) ∧ Below w.heap.size w w' := by
  rcases hL0 with ⟨h0, h1⟩ | ⟨h0, h1⟩
  all_goals subst h1
  · go_enter Fahg.func9, Fahg.ntmps9
    go_wp2_with fail
    refine Calls.mono HC.out ?_
    rintro e w1 ⟨s, rfl, hb1, hrep, _⟩
    have HB1 : Hid _ := hb1
    clear hb1
    go_wp2_with fail
    refine (HVa.out _ (below_alloc HB1.out (Nat.le_refl _) _)).mono ?_
    rintro e w2 ⟨rfl, hb2⟩
    have hst := mk_store w2
    have HR : Hid _ := hz
    have hx1 : w1.heap.size < w2.heap.size := by have := hb2.size; simp at this; omega
    have kx : ∀ o, w2.cell? ⟨w1.heap.size, o, none⟩ = #[Value.int .u64 (s 0), .int .u64 (s 1), .int .u64 (s 2), .int .u64 (s 3)][o]? := fun o => (hb2.cell (p := ⟨w1.heap.size, o, none⟩) (by simp)).trans (World.cell?_alloc_at _ _ _ _ rfl)
    have hB2 : Below w.heap.size w w2 := (below_alloc HB1.out (Nat.le_refl _) _).trans (hb2.mono (by have := HB1.out.size; simp; omega))
    have HB2 : Hid _ := hB2
    have HKX : Hid _ := kx
    have HRP : Hid _ := hrep FS rfl
    have hws2 : w.heap.size ≤ w2.heap.size := hB2.size
    clear hz hb2 kx hB2 hrep HB1 HC HVa
    go_wp2_with fail
    have hrow3 : Row (w2.alloc (.cells (mkCells.setIfInBounds 0 (.bool true)) 73)) b off len z := Row.below HR.out (below_alloc HB2.out (Nat.le_refl _) _) hb
    have hcall := mark_all b off len cap z hl2 w2.heap.size (by omega) 8 (by omega) 0 L (fun i => i == 0) 1 (w2.alloc (.cells (mkCells.setIfInBounds 0 (.bool true)) 73)) (by omega) hL.out (by omega) hrow3 (by simp; omega) (mk_fresh w2)
    refine hcall.mono ?_
    rintro e w4 ⟨rfl, hO4, hM4⟩
    clear hcall hrow3 hst
    have k4 := fun o => (hO4.cell (o := o) (show w1.heap.size < (w2.alloc (.cells (mkCells.setIfInBounds 0 (.bool true)) 73)).heap.size by simp; omega) (show w1.heap.size ≠ w2.heap.size by omega)).trans ((World.cell?_alloc_past _ _ _ hx1).trans (HKX.out o))
    have hB4 : Below w.heap.size w w4 := (below_alloc HB2.out (Nat.le_refl _) _).trans (hO4.below (by omega) (by simp; omega))
    rw [← hFS.out] at hM4
    have HM4 : Hid _ := hM4
    have HB4 : Hid _ := hB4
    have HK4 : Hid _ := k4
    have c256 := hM4.n
    clear hO4 hM4 k4 hB4 HB2 HKX hFS
    generalize w2.heap.size = G at *
    generalize w1.heap.size = X at *
    go_wp2_with fail
    go_loopg [6, 39] 256 (fun k C I wr => ∃ i : Nat, i + k = 256 ∧ C = .int .i64 ((i - cnt FS i : Nat) : Int) ∧ I = .int .i64 (i : Nat) ∧ wr = w4)
    case atStart => exact ⟨0, by omega, by simp [cnt], rfl, rfl⟩
    case round =>
      obtain ⟨i, hi, rfl, rfl, rfl⟩ := hrel
      by_cases hlt : i < 256
      · have hq : i / 64 < 4 := by omega
        have c1 : wr.cell? ⟨X, i / 64, none⟩ = some (.int .u64 (s (i / 64))) := by
          rw [HK4.out]
          have : i / 64 = 0 ∨ i / 64 = 1 ∨ i / 64 = 2 ∨ i / 64 = 3 := by omega
          rcases this with h | h | h | h <;> rw [h] <;> rfl
        have c2 := HM4.out.c i hlt
        have hbit := HRP.out.bit i hlt
        have hlt64 := HRP.out.lt (i / 64) hq
        have hcl := cnt_le FS i
        have hnx : cnt FS (i + 1) = cnt FS i + if FS i then 0 else 1 := rfl
        rw [Nat.testBit_eq_decide_div_mod_eq] at hbit
        have hab := and_bit (s (i / 64)) (i % 64) hlt64
        generalize s (i / 64) = x at *
        obtain ⟨m, hm⟩ : ∃ m, m = i - cnt FS i := ⟨_, rfl⟩
        rw [← hm]
        have hmb : m ≤ 256 := by omega
        cases hF : FS i with
        | true =>
          rw [hF] at hbit c2 hnx
          have h1 : x / 2 ^ (i % 64) % 2 = 1 := by simpa using hbit
          rw [h1] at hab
          have hcond : (bits BinOp.and IntKind.u64 (↑x / 2 ^ (i % 64)) 1 == 1) = true := by rw [hab]; decide
          have HNX : Hid _ := hnx
          have HMM : Hid _ := hm
          have HCL : Hid _ := hcl
          clear hbit h1 hab hnx hm hF hcl
          go_wp2_with fail
          go_roundg (256 - (i + 1))
          case rel => exact ⟨i + 1, by omega, by have a1 := HNX.out; have a2 := HMM.out; have a3 := HCL.out; simp only [if_true] at a1; simp only [Value.int.injEq, true_and]; omega, by simp, rfl⟩
          case measure => omega
        | false =>
          rw [hF] at hbit c2 hnx
          have h1 : x / 2 ^ (i % 64) % 2 = 0 := by
            have : ¬ (x / 2 ^ (i % 64) % 2 = 1) := by simpa using hbit
            generalize x / 2 ^ (i % 64) = y at *
            omega
          rw [h1] at hab
          have hcond : (bits BinOp.and IntKind.u64 (↑x / 2 ^ (i % 64)) 1 == 1) = false := by rw [hab]; decide
          have HNX : Hid _ := hnx
          have HMM : Hid _ := hm
          have HCL : Hid _ := hcl
          clear hbit h1 hab hnx hm hF hcl
          go_wp2_with fail
          go_roundg (256 - (i + 1))
          case rel => exact ⟨i + 1, by omega, by have a1 := HNX.out; have a2 := HMM.out; have a3 := HCL.out; simp at a1; simp only [Value.int.injEq, true_and]; omega, by simp, rfl⟩
          case measure => omega
      · have hie : i = 256 := by omega
        subst hie
        have hc := hcnt.out
        obtain ⟨m, hm⟩ : ∃ m, m = 256 - cnt FS 256 := ⟨_, rfl⟩
        rw [← hm] at hc ⊢
        have HC : Hid _ := hc
        clear hm hc
        go_wp2_with fail
        go_ret
        refine ⟨ret_bool ?_, HB4.out⟩
        have := HC.out
        simp; omega
  · go_enter Fahg.func9, Fahg.ntmps9
    go_wp2_with fail
    refine Calls.mono HC.out ?_
    rintro e w1 ⟨s, rfl, hb1, hrep, _⟩
    have HB1 : Hid _ := hb1
    clear hb1
    go_wp2_with fail
    refine (HVa.out _ (below_alloc HB1.out (Nat.le_refl _) _)).mono ?_
    rintro e w2 ⟨rfl, hb2⟩
    have hst := mk_store w2
    have HR : Hid _ := hz
    have hx1 : w1.heap.size < w2.heap.size := by have := hb2.size; simp at this; omega
    have kx : ∀ o, w2.cell? ⟨w1.heap.size, o, none⟩ = #[Value.int .u64 (s 0), .int .u64 (s 1), .int .u64 (s 2), .int .u64 (s 3)][o]? := fun o => (hb2.cell (p := ⟨w1.heap.size, o, none⟩) (by simp)).trans (World.cell?_alloc_at _ _ _ _ rfl)
    have hB2 : Below w.heap.size w w2 := (below_alloc HB1.out (Nat.le_refl _) _).trans (hb2.mono (by have := HB1.out.size; simp; omega))
    have HB2 : Hid _ := hB2
    have HKX : Hid _ := kx
    have HRP : Hid _ := hrep FS rfl
    have hws2 : w.heap.size ≤ w2.heap.size := hB2.size
    clear hz hb2 kx hB2 hrep HB1 HC HVa
    go_wp2_with fail
    have hrow3 : Row (w2.alloc (.cells (mkCells.setIfInBounds 0 (.bool true)) 73)) b off 256 z := Row.below HR.out (below_alloc HB2.out (Nat.le_refl _) _) hb
    have hcall := mark_all b off 256 cap z hl2 w2.heap.size (by omega) 8 (by omega) 0 L (fun i => i == 0) 1 (w2.alloc (.cells (mkCells.setIfInBounds 0 (.bool true)) 73)) (by omega) hL.out (by omega) hrow3 (by simp; omega) (mk_fresh w2)
    refine hcall.mono ?_
    rintro e w4 ⟨rfl, hO4, hM4⟩
    clear hcall hrow3 hst
    have k4 := fun o => (hO4.cell (o := o) (show w1.heap.size < (w2.alloc (.cells (mkCells.setIfInBounds 0 (.bool true)) 73)).heap.size by simp; omega) (show w1.heap.size ≠ w2.heap.size by omega)).trans ((World.cell?_alloc_past _ _ _ hx1).trans (HKX.out o))
    have hB4 : Below w.heap.size w w4 := (below_alloc HB2.out (Nat.le_refl _) _).trans (hO4.below (by omega) (by simp; omega))
    rw [← hFS.out] at hM4
    have HM4 : Hid _ := hM4
    have HB4 : Hid _ := hB4
    have HK4 : Hid _ := k4
    have c256 := hM4.n
    clear hO4 hM4 k4 hB4 HB2 HKX hFS
    generalize w2.heap.size = G at *
    generalize w1.heap.size = X at *
    go_wp2_with fail
    go_loopg [6, 39] 256 (fun k C I wr => ∃ i : Nat, i + k = 256 ∧ C = .int .i64 ((i - cnt FS i : Nat) : Int) ∧ I = .int .i64 (i : Nat) ∧ wr = w4)
    case atStart => exact ⟨0, by omega, by simp [cnt], rfl, rfl⟩
    case round =>
      obtain ⟨i, hi, rfl, rfl, rfl⟩ := hrel
      by_cases hlt : i < 256
      · have hq : i / 64 < 4 := by omega
        have c1 : wr.cell? ⟨X, i / 64, none⟩ = some (.int .u64 (s (i / 64))) := by
          rw [HK4.out]
          have : i / 64 = 0 ∨ i / 64 = 1 ∨ i / 64 = 2 ∨ i / 64 = 3 := by omega
          rcases this with h | h | h | h <;> rw [h] <;> rfl
        have c2 := HM4.out.c i hlt
        have hbit := HRP.out.bit i hlt
        have hlt64 := HRP.out.lt (i / 64) hq
        have hcl := cnt_le FS i
        have hnx : cnt FS (i + 1) = cnt FS i + if FS i then 0 else 1 := rfl
        rw [Nat.testBit_eq_decide_div_mod_eq] at hbit
        have hab := and_bit (s (i / 64)) (i % 64) hlt64
        generalize s (i / 64) = x at *
        obtain ⟨m, hm⟩ : ∃ m, m = i - cnt FS i := ⟨_, rfl⟩
        rw [← hm]
        have hmb : m ≤ 256 := by omega
        cases hF : FS i with
        | true =>
          rw [hF] at hbit c2 hnx
          have h1 : x / 2 ^ (i % 64) % 2 = 1 := by simpa using hbit
          rw [h1] at hab
          have hcond : (bits BinOp.and IntKind.u64 (↑x / 2 ^ (i % 64)) 1 == 1) = true := by rw [hab]; decide
          have HNX : Hid _ := hnx
          have HMM : Hid _ := hm
          have HCL : Hid _ := hcl
          clear hbit h1 hab hnx hm hF hcl
          go_wp2_with fail
          go_roundg (256 - (i + 1))
          case rel => exact ⟨i + 1, by omega, by have a1 := HNX.out; have a2 := HMM.out; have a3 := HCL.out; simp only [if_true] at a1; simp only [Value.int.injEq, true_and]; omega, by simp, rfl⟩
          case measure => omega
        | false =>
          rw [hF] at hbit c2 hnx
          have h1 : x / 2 ^ (i % 64) % 2 = 0 := by
            have : ¬ (x / 2 ^ (i % 64) % 2 = 1) := by simpa using hbit
            generalize x / 2 ^ (i % 64) = y at *
            omega
          rw [h1] at hab
          have hcond : (bits BinOp.and IntKind.u64 (↑x / 2 ^ (i % 64)) 1 == 1) = false := by rw [hab]; decide
          have HNX : Hid _ := hnx
          have HMM : Hid _ := hm
          have HCL : Hid _ := hcl
          clear hbit h1 hab hnx hm hF hcl
          go_wp2_with fail
          go_roundg (256 - (i + 1))
          case rel => exact ⟨i + 1, by omega, by have a1 := HNX.out; have a2 := HMM.out; have a3 := HCL.out; simp at a1; simp only [Value.int.injEq, true_and]; omega, by simp, rfl⟩
          case measure => omega
      · have hie : i = 256 := by omega
        subst hie
        have hc := hcnt.out
        obtain ⟨m, hm⟩ : ∃ m, m = 256 - cnt FS 256 := ⟨_, rfl⟩
        rw [← hm] at hc ⊢
        have HC : Hid _ := hc
        clear hm hc
        go_wp2_with fail
        go_ret
        refine ⟨ret_bool ?_, HB4.out⟩
        have := HC.out
        simp; omega
end Go.Proofs.Ygcfah
