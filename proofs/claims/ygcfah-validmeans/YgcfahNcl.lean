/- valid.Claimed and valid.Validate. -/
import Derived.Test.YgcfahNstep
import Derived.Test.YgcfahNstart
import Derived.Deep.LoopGhost
namespace Go.Proofs.Ygcfah
open Go.RowKit
set_option linter.unusedVariables false
set_option linter.unusedSimpArgs false

theorem startC_get (i : Nat) : startC[i]? = if i = 516 then some (.int .u16 1) else if i = 5 then some (.int .u8 0) else if i = 4 then some (.int .u16 0) else if i = 0 then some (.int .u64 1) else Fahg.zeroCells177[i]? := by
  have h0 := z177_size
  unfold startC
  by_cases h1 : i = 516
  · subst h1; rw [if_pos rfl, Array.getElem?_setIfInBounds_self_of_lt (by simp [h0])]
  rw [if_neg h1, Array.getElem?_setIfInBounds_ne (by omega)]
  by_cases h2 : i = 5
  · subst h2; rw [if_pos rfl, Array.getElem?_setIfInBounds_self_of_lt (by simp [h0])]
  rw [if_neg h2, Array.getElem?_setIfInBounds_ne (by omega)]
  by_cases h3 : i = 4
  · subst h3; rw [if_pos rfl, Array.getElem?_setIfInBounds_self_of_lt (by simp [h0])]
  rw [if_neg h3, Array.getElem?_setIfInBounds_ne (by omega)]
  by_cases h4 : i = 0
  · subst h4; rw [if_pos rfl, Array.getElem?_setIfInBounds_self_of_lt (by simp [h0])]
  rw [if_neg h4, Array.getElem?_setIfInBounds_ne (by omega)]
theorem nwlk_fresh {w : World} {g : Nat} (h : w.heap[g]? = some (.cells startC 177 (0, 0))) : NWlk w g (fun i => i == 0) (fun _ => (0, 0)) 1 := by
  have hc : ∀ o, w.cell? ⟨g, o, none⟩ = startC[o]? := fun o => cell_heap h
  have hf : ∀ o, w.frozen? ⟨g, o, none⟩ = false := fun o => frozen_heap h
  have za := z177_at
  have zd := z177_dp
  have zs := z177_set
  rw [List.all_eq_true] at za zd zs
  refine ⟨⟨put (fun _ => 0) 0 1, ⟨fun q hq => ?_, fun q _ => hf _⟩, ⟨fun q hq => ?_, fun i hi => ?_⟩⟩, ⟨fun i hi => ?_, fun i hi => ?_, fun j _ _ => hf _, ?_⟩⟩
  · rw [hc, Nat.zero_add, startC_get, if_neg (by omega), if_neg (by omega), if_neg (by omega)]
    unfold put
    by_cases h0 : q = 0
    · rw [if_pos h0, if_pos h0]; rfl
    · rw [if_neg h0, if_neg h0]
      exact isU64_eq (zs q (List.mem_range.2 hq))
  · unfold put; split
    · decide
    · show (0 : Nat) < 18446744073709551616; decide
  · unfold put
    by_cases k : i / 64 = 0
    · rw [if_pos k]
      have : i % 64 = i := by omega
      rw [this]
      by_cases e : i = 0
      · subst e; rfl
      · have h1 : (2 ^ 1 - 1 : Nat).testBit i = decide (i < 1) := Nat.testBit_two_pow_sub_one 1 i
        rw [show (1 : Nat) = 2 ^ 1 - 1 from rfl, h1]
        simp [e]
    · rw [if_neg k]
      simp; omega
  · rw [hc, startC_get, if_neg (by omega), if_neg (by omega)]
    by_cases h0 : i = 0
    · subst h0; rfl
    · rw [if_neg (by omega), if_neg (by omega)]
      exact isU16_eq (za i (List.mem_range.2 hi))
  · rw [hc, startC_get, if_neg (by omega)]
    by_cases h0 : i = 0
    · subst h0; rfl
    · rw [if_neg (by omega), if_neg (by omega), if_neg (by omega)]
      exact isU8_eq (zd i (List.mem_range.2 hi))
  · rw [hc, startC_get]; rfl

/-- What Claimed leaves. -/
inductive ClPost (ANS : Bool) (w : World) (e : Ending) (w' : World) : Prop
  | mk (s : Nat → Nat) : e = .returned (.tuple #[.agg #[.int .u64 (s 0), .int .u64 (s 1), .int .u64 (s 2), .int .u64 (s 3)], .bool ANS]) → Below w.heap.size w w' → ClPost ANS w e w'
/-- Claimed's loop. -/
inductive ClRel (ANS : Bool) (z : Int → Int) (len G : Nat) (w2 : World) (k : Nat) (I : Value) (wr : World) : Prop
  | on (n : Nat) (S : Nat → Bool) (st : Nat → Nat × Nat) : I = .bool true → n + cnt S 256 = k → k ≤ 256 → NWlk wr G S st n → Off G w2 wr → ans (resN z len) S 0 (stkL (up st) n) = ANS → (∀ i, i < n → (st i).1 < len ∧ (st i).2 ≤ 8) → ClRel ANS z len G w2 k I wr
  | off : I = .bool false → Off G w2 wr → ANS = false → ClRel ANS z len G w2 k I wr

set_option maxRecDepth 100000 in
set_option maxHeartbeats 1000000 in
theorem claimed_in (ANS : Bool) (b off len cap : Nat) (z : Int → Int) (hl : 1 ≤ len) (hl2 : len ≤ 256) (w : World) (hz : Row w b off len z) (hb : b < w.heap.size) (hANS : Hid (ANS = ans (resN z len) (fun i => i == 0) 0 [(0, 1)])) :
    Calls Fahg.prog 31 #[.slice (some ⟨b, off, none⟩) len cap] w fun e w' => ClPost ANS w e w' := by
  have HST : Hid _ := fun w => start_in (some ⟨b, off, none⟩) len cap w hl hl2
  have hi1 : (Fahg.prog.info? 177).map (·.size) = some startC.size := by rw [startC_size]; exact z177_info
  have HI : Hid _ := hi1
  have HO : Hid _ := startC_one
  have HZ : Hid (Fahg.zeroCells177.size = startC.size) := by show _ = _; rw [startC_size, z177_size]
  have HR : Hid _ := hz
  clear hi1 hz
  go_enter Fahg.func31, Fahg.ntmps31
  go_wp2_with fail
  refine (HST.out _).mono ?_
  rintro e w1 ⟨rfl, hb1⟩
  have hs1 : w.heap.size < w1.heap.size := by have := hb1.size; simp at this; omega
  have k1 : ∀ o, w1.cell? ⟨w.heap.size, o, none⟩ = #[Value.int .u64 0, .int .u64 0, .int .u64 0, .int .u64 0][o]? := fun o => (hb1.cell (p := ⟨w.heap.size, o, none⟩) (by simp)).trans (World.cell?_alloc_at _ _ _ _ rfl)
  have f1 : ∀ o, w1.frozen? ⟨w.heap.size, o, none⟩ = false := fun o => (hb1.frozen (p := ⟨w.heap.size, o, none⟩) (by simp)).trans (by simp [go_sem])
  have HB1 : Hid (Below w.heap.size w w1) := (below_alloc (Below.refl _ _) (Nat.le_refl _) _).trans (hb1.mono (by simp))
  have HK1 : Hid _ := k1
  have HF1 : Hid _ := f1
  clear hb1 k1 f1 HST
  go_wp2_with (refine wpList_store_row rfl 177 _ _ rfl _ startC rfl rfl 177 Fahg.zeroCells177 (heap_alloc_last _ _) HI.out HZ.out HO.out ?_)
  rw [World.setRow_alloc_new]
  have W2 : NWlk (w1.alloc (.cells startC 177)) w1.heap.size (fun i => i == 0) (fun _ => (0, 0)) 1 := nwlk_fresh (heap_alloc_last _ _)
  have HB2 : Hid (Below w.heap.size w (w1.alloc (.cells startC 177))) := below_alloc HB1.out (Nat.le_refl _) _
  have k2 : ∀ o, (w1.alloc (.cells startC 177)).cell? ⟨w.heap.size, o, none⟩ = #[Value.int .u64 0, .int .u64 0, .int .u64 0, .int .u64 0][o]? := fun o => (World.cell?_alloc_past _ _ _ hs1).trans (HK1.out o)
  have f2 : ∀ o, (w1.alloc (.cells startC 177)).frozen? ⟨w.heap.size, o, none⟩ = false := fun o => (World.frozen?_alloc_past _ _ _ hs1).trans (HF1.out o)
  have hs2 : w1.heap.size < (w1.alloc (.cells startC 177)).heap.size := by simp
  generalize w1.alloc (.cells startC 177) = w2 at *
  generalize w1.heap.size = G at *
  have HW2 : Hid _ := W2
  have HK2 : Hid _ := k2
  have HF2 : Hid _ := f2
  clear W2 k2 f2 HK1 HF1 HB1 HI HO HZ
  go_loopg [3] (256 : Nat) (fun k I wr => ClRel ANS z len G w2 k I wr)
  case atStart => exact .on 1 _ _ rfl (by decide) (by omega) HW2.out (Off.refl _ _) hANS.out.symm (fun i hi => ⟨by simp; omega, by simp⟩)
  case round =>
    rcases hrel with ⟨n, S, st, rfl, hk, hk2, hW, hO, hA, hI⟩ | ⟨rfl, hO, hA⟩
    · have r := fun o => (hO.cell (o := o) (show w.heap.size < w2.heap.size by omega) (by omega)).trans (HK2.out o)
      have rf := fun o => (hO.frozen (o := o) (show w.heap.size < w2.heap.size by omega) (by omega)).trans (HF2.out o)
      cases n with
      | zero =>
        have c1 := hW.k.n
        obtain ⟨s, hs, hr⟩ := hW.s
        have s0 := hs.c 0 (by omega)
        have s1 := hs.c 1 (by omega)
        have s2 := hs.c 2 (by omega)
        have s3 := hs.c 3 (by omega)
        simp only [Nat.zero_add] at s0 s1 s2 s3
        have r0 := r 0
        have r1 := r 1
        have r2 := r 2
        have r3 := r 3
        simp only [show ∀ a b c d : Value, #[a, b, c, d][0]? = some a from fun _ _ _ _ => rfl, show ∀ a b c d : Value, #[a, b, c, d][1]? = some b from fun _ _ _ _ => rfl, show ∀ a b c d : Value, #[a, b, c, d][2]? = some c from fun _ _ _ _ => rfl, show ∀ a b c d : Value, #[a, b, c, d][3]? = some d from fun _ _ _ _ => rfl] at r0 r1 r2 r3
        have HA : Hid (ANS = true) := by show _ = _; rw [← hA, stkL, ans_nil]
        have HO : Hid (Below w.heap.size w wr) := HB2.out.trans (hO.below (by omega) (by omega))
        clear hW hs hr r hO hA hI
        go_wp2_with fail
        have e := HA.out
        refine bodyPost_ret (v := .tuple #[.agg #[.int .u64 (s 0), .int .u64 (s 1), .int .u64 (s 2), .int .u64 (s 3)], .bool true]) (by simp [results, Fahg.results31, go_sem, r0, r1, r2, r3]) rfl (.mk s (by rw [e]) ?_)
        repeat' (first | refine Below.setCell ?_ (by simp) _ | exact HO.out)
      | succ n =>
        have c1 := hW.k.n
        have HW : Hid _ := hW
        have HA : Hid _ := hA
        have HOO : Hid _ := hO
        have HK : Hid _ := hk
        clear hW hA hO hk r rf
        go_wp2_with fail
        have hstp := step_x ANS b off len cap z hl2 G wr ((Row.below HR.out HB2.out hb).off HOO.out (by omega) (by omega)) (by have := HOO.out.size; omega) (by omega) S st n HW.out (by have := HK.out; omega) HA.out hI
        refine hstp.mono ?_
        clear hstp
        rintro e w5 hp
        rcases hp with ⟨rfl, hO5, hA5⟩ | ⟨n', S', st', rfl, hO5, hW5, hk5, ha5, hI5⟩
        · go_wp2_with fail
          go_roundg 0
          case rel => exact .off rfl (HOO.out.trans hO5) hA5
          case measure => have := HK.out; omega
        · go_wp2_with fail
          go_roundg (n' + cnt S' 256)
          case rel => exact .on n' S' st' rfl rfl (by have := HK.out; omega) hW5 (HOO.out.trans hO5) ha5 hI5
          case measure => have := HK.out; omega
    · have r := fun o => (hO.cell (o := o) (show w.heap.size < w2.heap.size by omega) (by omega)).trans (HK2.out o)
      have rf := fun o => (hO.frozen (o := o) (show w.heap.size < w2.heap.size by omega) (by omega)).trans (HF2.out o)
      have r0 := r 0
      have r1 := r 1
      have r2 := r 2
      have r3 := r 3
      simp only [show ∀ a b c d : Value, #[a, b, c, d][0]? = some a from fun _ _ _ _ => rfl, show ∀ a b c d : Value, #[a, b, c, d][1]? = some b from fun _ _ _ _ => rfl, show ∀ a b c d : Value, #[a, b, c, d][2]? = some c from fun _ _ _ _ => rfl, show ∀ a b c d : Value, #[a, b, c, d][3]? = some d from fun _ _ _ _ => rfl] at r0 r1 r2 r3
      have HA : Hid _ := hA
      have HO : Hid (Below w.heap.size w wr) := HB2.out.trans (hO.below (by omega) (by omega))
      clear r hO hA
      go_wp2_with fail
      have e := HA.out
      refine bodyPost_ret (v := .tuple #[.agg #[.int .u64 0, .int .u64 0, .int .u64 0, .int .u64 0], .bool false]) (by simp [results, Fahg.results31, go_sem, r0, r1, r2, r3]) rfl (.mk (fun _ => 0) (by rw [e]; rfl) ?_)
      repeat' (first | refine Below.setCell ?_ (by simp) _ | exact HO.out)

set_option maxRecDepth 100000 in
theorem nvalidate_in (ANS : Bool) (b off len cap : Nat) (z : Int → Int) (hl : 1 ≤ len) (hl2 : len ≤ 256) (w : World) (hz : Row w b off len z) (hb : b < w.heap.size) (hANS : Hid (ANS = ans (resN z len) (fun i => i == 0) 0 [(0, 1)])) :
    Calls Fahg.prog 29 #[.slice (some ⟨b, off, none⟩) len cap] w fun e w' => e = .returned (.bool ANS) ∧ Below w.heap.size w w' := by
  have HC : Hid _ := claimed_in ANS b off len cap z hl hl2 w hz hb hANS
  clear hz hANS
  go_enter Fahg.func29, Fahg.ntmps29
  go_wp2_with fail
  refine Calls.mono HC.out ?_
  rintro e w1 ⟨s, rfl, hb1⟩
  go_wp2_with fail
  go_ret
  exact ⟨rfl, below_alloc hb1 (Nat.le_refl _) _⟩

set_option maxRecDepth 100000 in
set_option maxHeartbeats 400000 in
theorem start_out (a0 : Option Addr) (len cap : Nat) (w : World) (h : len = 0 ∨ 256 < len) :
    Calls Fahg.prog 91 #[.slice a0 len cap] w fun e w' => e = .returned (.tuple #[.agg Fahg.zeroCells177, .bool false]) ∧ Below w.heap.size w w' := by
  have HI : Hid ((Fahg.prog.info? 177).map (·.size) = some Fahg.zeroCells177.size) := by show _ = _; rw [z177_size]; exact z177_info
  have HO : Hid _ := z177_one
  have q0 : ((w.alloc (Obj.cells Fahg.zeroCells177 177)).alloc (Obj.cells Fahg.zeroCells177 177)).heap[w.heap.size]? = some (.cells Fahg.zeroCells177 177 (0, 0)) := (heap_alloc_old _ _ (by simp)).trans (heap_alloc_last _ _)
  have q1 : ((w.alloc (Obj.cells Fahg.zeroCells177 177)).alloc (Obj.cells Fahg.zeroCells177 177)).heap[w.heap.size + 1]? = some (.cells Fahg.zeroCells177 177 (0, 0)) := by
    have := heap_alloc_last (w.alloc (Obj.cells Fahg.zeroCells177 177)) (Obj.cells Fahg.zeroCells177 177)
    rw [show (w.alloc (Obj.cells Fahg.zeroCells177 177)).heap.size = w.heap.size + 1 by simp] at this
    exact this
  have Q0 : Hid _ := q0
  have Q1 : Hid _ := q1
  have HB : Hid (Below w.heap.size w ((w.alloc (Obj.cells Fahg.zeroCells177 177)).alloc (Obj.cells Fahg.zeroCells177 177))) := below_alloc (below_alloc (Below.refl _ _) (Nat.le_refl _) _) (Nat.le_refl _) _
  clear q0 q1
  have h' : (decide ((len : Int) < 1) = true) ∨ (decide ((len : Int) < 1) = false ∧ decide ((256 : Int) < len) = true) := by
    rcases h with rfl | h
    · left; decide
    · right; simp; omega
  clear h
  rcases h' with h1 | ⟨h1, h2⟩
  all_goals
    go_enter Fahg.func91, Fahg.ntmps91
    go_wp2_with (first | refine wpList_load_row rfl 177 _ rfl _ rfl 177 Fahg.zeroCells177 (0, 0) _ Q1.out Fahg.underlying177 rfl HI.out ?_ | refine wpList_store_row rfl 177 _ _ rfl _ Fahg.zeroCells177 rfl rfl 177 Fahg.zeroCells177 Q0.out HI.out rfl HO.out ?_)
    have q2 : (((w.alloc (Obj.cells Fahg.zeroCells177 177)).alloc (Obj.cells Fahg.zeroCells177 177)).setRow w.heap.size Fahg.zeroCells177).heap[w.heap.size]? = some (.cells Fahg.zeroCells177 177 (0, 0)) := by
      have := Q0.out
      simp only [World.setRow, Array.getElem?_modify, this]
      simp
    have hload := run_loadVar_row (P := Fahg.prog) (((w.alloc (Obj.cells Fahg.zeroCells177 177)).alloc (Obj.cells Fahg.zeroCells177 177)).setRow w.heap.size Fahg.zeroCells177) w.heap.size 177 177 Fahg.zeroCells177 (0, 0) _ q2 Fahg.underlying177 rfl HI.out
    refine bodyPost_ret (v := .tuple #[.agg Fahg.zeroCells177, .bool false]) (by simp [results, Fahg.results91, asAddr, hload]) rfl ⟨rfl, ?_⟩
    refine ⟨HB.out.os, HB.out.tape, HB.out.output, by simpa [World.setRow] using HB.out.size, fun k hk => ?_⟩
    have : (((w.alloc (Obj.cells Fahg.zeroCells177 177)).alloc (Obj.cells Fahg.zeroCells177 177)).setRow w.heap.size Fahg.zeroCells177).heap[k]? = ((w.alloc (Obj.cells Fahg.zeroCells177 177)).alloc (Obj.cells Fahg.zeroCells177 177)).heap[k]? := by
      simp only [World.setRow, Array.getElem?_modify, if_neg (show ¬ w.heap.size = k by omega)]
    rw [this]
    exact HB.out.block k hk
set_option maxRecDepth 100000 in
set_option maxHeartbeats 1000000 in
theorem claimed_out (a0 : Option Addr) (len cap : Nat) (w : World) (h : len = 0 ∨ 256 < len) :
    Calls Fahg.prog 31 #[.slice a0 len cap] w fun e w' => ClPost false w e w' := by
  have HST : Hid _ := fun w => start_out a0 len cap w h
  have HI : Hid ((Fahg.prog.info? 177).map (·.size) = some Fahg.zeroCells177.size) := by show _ = _; rw [z177_size]; exact z177_info
  have HO : Hid _ := z177_one
  clear h
  go_enter Fahg.func31, Fahg.ntmps31
  go_wp2_with fail
  refine (HST.out _).mono ?_
  rintro e w1 ⟨rfl, hb1⟩
  have hs1 : w.heap.size < w1.heap.size := by have := hb1.size; simp at this; omega
  have k1 : ∀ o, w1.cell? ⟨w.heap.size, o, none⟩ = #[Value.int .u64 0, .int .u64 0, .int .u64 0, .int .u64 0][o]? := fun o => (hb1.cell (p := ⟨w.heap.size, o, none⟩) (by simp)).trans (World.cell?_alloc_at _ _ _ _ rfl)
  have f1 : ∀ o, w1.frozen? ⟨w.heap.size, o, none⟩ = false := fun o => (hb1.frozen (p := ⟨w.heap.size, o, none⟩) (by simp)).trans (by simp [go_sem])
  have HB1 : Hid (Below w.heap.size w w1) := (below_alloc (Below.refl _ _) (Nat.le_refl _) _).trans (hb1.mono (by simp))
  have HK1 : Hid _ := k1
  have HF1 : Hid _ := f1
  clear hb1 k1 f1 HST
  go_wp2_with (refine wpList_store_row rfl 177 _ _ rfl _ Fahg.zeroCells177 rfl rfl 177 Fahg.zeroCells177 (heap_alloc_last _ _) HI.out rfl HO.out ?_)
  rw [World.setRow_alloc_new]
  have HB2 : Hid (Below w.heap.size w (w1.alloc (.cells Fahg.zeroCells177 177))) := below_alloc HB1.out (Nat.le_refl _) _
  have k2 : ∀ o, (w1.alloc (.cells Fahg.zeroCells177 177)).cell? ⟨w.heap.size, o, none⟩ = #[Value.int .u64 0, .int .u64 0, .int .u64 0, .int .u64 0][o]? := fun o => (World.cell?_alloc_past _ _ _ hs1).trans (HK1.out o)
  have f2 : ∀ o, (w1.alloc (.cells Fahg.zeroCells177 177)).frozen? ⟨w.heap.size, o, none⟩ = false := fun o => (World.frozen?_alloc_past _ _ _ hs1).trans (HF1.out o)
  generalize w1.alloc (.cells Fahg.zeroCells177 177) = w2 at *
  have r0 := k2 0
  have r1 := k2 1
  have r2 := k2 2
  have r3 := k2 3
  simp only [show ∀ a b c d : Value, #[a, b, c, d][0]? = some a from fun _ _ _ _ => rfl, show ∀ a b c d : Value, #[a, b, c, d][1]? = some b from fun _ _ _ _ => rfl, show ∀ a b c d : Value, #[a, b, c, d][2]? = some c from fun _ _ _ _ => rfl, show ∀ a b c d : Value, #[a, b, c, d][3]? = some d from fun _ _ _ _ => rfl] at r0 r1 r2 r3
  clear k2 HK1 HF1 HB1 HI HO
  go_loopg [3] (0 : Nat) (fun k I wr => I = .bool false ∧ wr = w2)
  case atStart => exact ⟨rfl, rfl⟩
  case round =>
    obtain ⟨rfl, rfl⟩ := hrel
    go_wp2_with fail
    refine bodyPost_ret (v := .tuple #[.agg #[.int .u64 0, .int .u64 0, .int .u64 0, .int .u64 0], .bool false]) (by simp [results, Fahg.results31, go_sem, r0, r1, r2, r3]) rfl (.mk (fun _ => 0) rfl ?_)
    repeat' (first | refine Below.setCell ?_ (by simp) _ | exact HB2.out)
set_option maxRecDepth 100000 in
theorem nvalidate_out (a0 : Option Addr) (len cap : Nat) (w : World) (h : len = 0 ∨ 256 < len) :
    Calls Fahg.prog 29 #[.slice a0 len cap] w fun e w' => e = .returned (.bool false) ∧ Below w.heap.size w w' := by
  have HC : Hid _ := claimed_out a0 len cap w h
  clear h
  go_enter Fahg.func29, Fahg.ntmps29
  go_wp2_with fail
  refine Calls.mono HC.out ?_
  rintro e w1 ⟨s, rfl, hb1⟩
  go_wp2_with fail
  go_ret
  exact ⟨rfl, below_alloc hb1 (Nat.le_refl _) _⟩
end Go.Proofs.Ygcfah
