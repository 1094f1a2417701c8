/- law.WideReads where p is a list of bits or numbers that lies inside: the loop. -/
import Derived.Test.YgcfahApp
namespace Go.Proofs.Ygcfah
open Go.ChangeShapes Go.WideShapes Go.ChangeAt Go.RowKit
set_option linter.unusedVariables false
set_option linter.unusedSimpArgs false
attribute [local go_sem] setCell_drewN alloc_drewN

theorem or_bit (X s : Int) (k : Nat) (hX : U64 X) (hs : 0 ≤ s) (hk : s + k + 1 ≤ 64) :
    bits .or .u64 (bitsAt X s k) (IntKind.u64.wrap (bits .and .u64 (X / 2 ^ (s + k).toNat) 1 * 2 ^ k)) = bitsAt X s ((k + 1 : Nat) : Int) := by
  have hX' := hX
  obtain ⟨h0, h1⟩ := hX
  have e1 : bits .and .u64 (X / 2 ^ (s + k).toNat) 1 = X / 2 ^ (s + k).toNat % 2 := by
    have := and_mask _ (div_pow_u64 X hX' (s + k).toNat) 1 (by decide)
    simpa using this
  rw [e1]
  obtain ⟨x, rfl⟩ := Int.eq_ofNat_of_zero_le h0
  obtain ⟨t, rfl⟩ := Int.eq_ofNat_of_zero_le hs
  have hk64 : k ≤ 63 := by omega
  have p64 : (2 : Nat) ^ k ≤ 2 ^ 63 := Nat.pow_le_pow_right (by omega) hk64
  have ppos : 0 < (2 : Nat) ^ k := Nat.pow_pos (by omega)
  have c1 : bitsAt (x : Int) (t : Int) (k : Int) = ((x / 2 ^ t % 2 ^ k : Nat) : Int) := by unfold bitsAt; simp
  have c2 : bitsAt (x : Int) (t : Int) ((k + 1 : Nat) : Int) = ((x / 2 ^ t % 2 ^ (k + 1) : Nat) : Int) := by unfold bitsAt; simp
  have c3 : ((x : Int) / 2 ^ ((t : Int) + k).toNat % 2 * 2 ^ k) = ((x / 2 ^ (t + k) % 2 * 2 ^ k : Nat) : Int) := by
    have : ((t : Int) + k).toNat = t + k := by omega
    rw [this]; push_cast; rfl
  rw [c1, c2, c3]
  have hb : x / 2 ^ (t + k) % 2 ≤ 1 := by omega
  have hle : x / 2 ^ (t + k) % 2 * 2 ^ k ≤ 2 ^ k := by
    calc x / 2 ^ (t + k) % 2 * 2 ^ k ≤ 1 * 2 ^ k := Nat.mul_le_mul_right _ hb
      _ = 2 ^ k := by omega
  have ha : x / 2 ^ t % 2 ^ k < 2 ^ k := Nat.mod_lt _ ppos
  have e63 : (2 : Nat) ^ 63 = 9223372036854775808 := by decide
  rw [wrap_u64, Int.emod_eq_of_lt (by omega) (by omega)]
  rw [u64_or_nat _ _ (by omega) (by omega)]
  have e2 : x / 2 ^ (t + k) = x / 2 ^ t / 2 ^ k := by rw [Nat.pow_add, Nat.div_div_eq_div_mul]
  rw [Nat.or_comm, nat_join k _ _ (by simp) ha, e2, Nat.mod_pow_succ]
  congr 1
  rw [Nat.mul_comm (2 ^ k)]
  omega
theorem idx6 (c : Int) (h0 : 0 ≤ c) (h1 : c ≤ 5) (w : World) : Sem.run Fahg.prog (Instr.index 89 (Value.agg #[Value.int IntKind.i64 0, Value.int IntKind.i64 1, Value.int IntKind.i64 8, Value.int IntKind.i64 16, Value.int IntKind.i64 32, Value.int IntKind.i64 64]) (Value.int IntKind.u8 c)) w = .ok (.int .i64 (elBits c)) w := by
  have : c = 0 ∨ c = 1 ∨ c = 2 ∨ c = 3 ∨ c = 4 ∨ c = 5 := by omega
  rcases this with rfl | rfl | rfl | rfl | rfl | rfl <;> (show _ = _; kernel_rfl)

set_option maxRecDepth 100000 in
set_option maxHeartbeats 12800000 in
theorem reads_l_bits (a0 : Option Addr) (len cap L : Nat) (z : Int → Int) (q1 q2 q3 q4 q5 q6 i j : Int) (hq : WP.ok ⟨q1, q2, q3, q4, q5, q6⟩) (i0 : 0 ≤ i) (i1 : i ≤ 255) (j0 : 0 ≤ j) (j1 : j ≤ 4294967295) (w : World)
    (hcap : len ≤ cap) (hnil : a0 = none → cap = 0) (hs : Lies w a0 L z) (hl : L ≤ 256) (hL : L = len) (hin : wIn q1 q2 q3 q4 q5 q6 L = true) (h1 : (q1 == 1) = false) (h1n : (q1 != 1) = true) (h2 : (q1 == 2) = true) (h2n : (q1 != 2) = false) (hc5 : q5 ≤ 5) (hjc : j < q6) (hc0 : (q5 == 0) = false)   :
    Calls Fahg.prog 11 #[.slice a0 len cap, .agg #[.int .u8 q1, .int .u16 q2, .int .u8 q3, .int .u8 q4, .int .u8 q5, .int .u32 q6], .int .u8 i, .int .u32 j] w fun e w' => e = .returned (.bool true) ∧ Below w.heap.size w w' := by
  subst hL
  have q2a : 0 ≤ q2 := hq.a0
  have q2b : q2 ≤ 65535 := hq.a1
  have q3a : 0 ≤ q3 := hq.d0
  have q4a : 0 ≤ q4 := hq.p0
  have q5a : 0 ≤ q5 := hq.c0
  have q6a : 0 ≤ q6 := hq.n0
  have hix := fun w => idx6 q5 q5a hc5 w
  have hn : 0 ≤ elBits q5 ∧ elBits q5 ≤ 64 := elBits_bd q5
  have hbase : 0 ≤ j * elBits q5 ∧ j * elBits q5 ≤ 20000 ∧ (1 ≤ elBits q5 → q2 + j * elBits q5 / 64 < L ∧ j * elBits q5 % 64 + elBits q5 ≤ 64) := by
    have hsx := hin
    have hk2' : q1 = 2 := by simpa using h2
    rw [hk2'] at hsx
    have hsx := wIn_list (by omega) hsx
    have e3 : 0 ≤ j * elBits q5 := Int.mul_nonneg j0 hn.1
    by_cases e1 : 1 ≤ elBits q5
    · have e2 := elem_word (n := elBits q5) j0 hjc e1
      have e4 : j * elBits q5 % 64 + elBits q5 ≤ 64 := by
        have : q5 = 0 ∨ q5 = 1 ∨ q5 = 2 ∨ q5 = 3 ∨ q5 = 4 ∨ q5 = 5 := by omega
        rcases this with rfl | rfl | rfl | rfl | rfl | rfl <;> simp [elBits] <;> omega
      exact ⟨e3, by omega, fun _ => ⟨by omega, e4⟩⟩
    · have : elBits q5 = 0 := by omega
      rw [this]; simp
  have hn1 : 1 ≤ elBits q5 := by
    have : q5 = 1 ∨ q5 = 2 ∨ q5 = 3 ∨ q5 = 4 ∨ q5 = 5 := by simp at hc0; omega
    rcases this with rfl | rfl | rfl | rfl | rfl <;> decide
  have hbb := hbase.2.2 hn1
  obtain ⟨a1, cap1, w1, hrun, hb1, hrow⟩ := app_any (w.alloc (.cells #[Value.int .u8 q1, .int .u16 q2, .int .u8 q3, .int .u8 q4, .int .u8 q5, .int .u32 q6] 78)) a0 L cap z (hs.below (below_alloc (Below.refl _ _) (Nat.le_refl _) _)) hnil (by omega)
  have hz1 : w.heap.size < w1.heap.size := by have := hb1.size; simp at this; omega
  have c1 : ∀ o, w1.cell? ⟨w.heap.size, o, none⟩ = #[Value.int .u8 q1, .int .u16 q2, .int .u8 q3, .int .u8 q4, .int .u8 q5, .int .u32 q6][o]? := fun o => (hb1.cell (p := ⟨w.heap.size, o, none⟩) (by simp)).trans (World.cell?_alloc_at _ _ _ _ rfl)
  have S1 : RS w w1.heap.size a1 L cap1 z q1 q2 q3 q4 q5 q6 4294967295 (w1.alloc (.cells #[.slice a1 L cap1, .int .u32 4294967295] 87)) := by
    refine ⟨(below_alloc (Below.refl _ _) (Nat.le_refl _) _).trans ((hb1.mono (by simp)).trans ((Below.refl _ _).alloc (by omega) _)), fun o => ?_, ⟨?_, ?_, ?_⟩, hz1, ?_⟩
    · rw [World.cell?_alloc_past _ _ _ (by omega), c1 o]
    · rw [World.cell?_alloc_at _ _ _ _ rfl]; rfl
    · rw [World.cell?_alloc_at _ _ _ _ rfl]; rfl
    · simp [go_sem]
    · rcases hrow with h | ⟨g, e, h1, h2, hr⟩
      · exact .inl h
      · exact .inr ⟨g, e, by omega, by simp; omega, hr.below ((Below.refl w1.heap.size w1).alloc (Nat.le_refl _) _) h2⟩
  have HRUN : Hid _ := hrun
  have HS1 : Hid _ := S1
  clear hrow hs hrun hb1 S1
  have hWI := fun w => wideInside_any L q1 q2 q3 q4 q5 q6 hq.k0 hq.k1 hq.a0 hq.a1 hq.d0 hq.d1 hq.p0 hq.p1 hq.c0 hq.c1 hq.n0 hq.n1 w (by omega) (by omega)
  have hIN := fun cap1 a1 w => inside_any a1 L cap1 q1 q2 q3 q4 q5 q6 hq.k0 hq.k1 hq.a0 hq.a1 hq.d0 hq.d1 hq.p0 hq.p1 hq.c0 hq.c1 hq.n0 hq.n1 w
  rw [hin] at hWI
  simp only [hin] at hIN
  have HWI : Hid _ := hWI
  have HIN : Hid _ := hIN
  clear hWI hIN
  obtain ⟨g, rfl, hgR, hgl, hgr⟩ : ∃ g, a1 = some ⟨g, 0, none⟩ ∧ g ≠ w1.heap.size ∧ g < (w1.alloc (.cells #[.slice a1 L cap1, .int .u32 4294967295] 87)).heap.size ∧ Row (w1.alloc (.cells #[.slice a1 L cap1, .int .u32 4294967295] 87)) g 0 L z := by
    rcases HS1.out.row with ⟨h, _⟩ | h
    · omega
    · exact h
  clear hgr
  have hrow : ∀ W Lf, RS w w1.heap.size (some ⟨g, 0, none⟩) L cap1 z q1 q2 q3 q4 q5 q6 Lf W → Row W g 0 L z := by
    intro W Lf S
    rcases S.row with ⟨_, h⟩ | ⟨g', e, _, _, hr⟩
    · simp at h
    · simp at e; subst e; exact hr
  have HROW : Hid _ := hrow
  clear hrow
  have HU0 := fun (RB cap1 : Nat) w (hr : IsRdr w RB (.slice (some ⟨g, 0, none⟩) L cap1) 4294967295) (hz : Row w g 0 L z) => u64_no RB (some ⟨g, 0, none⟩) L cap1 q1 q2 q3 q4 q5 q6 hq.k0 hq.k1 hq.a0 hq.a1 hq.d0 hq.d1 hq.p0 hq.p1 hq.c0 hq.c1 hq.n0 hq.n1 i i0 i1 w hr.a (.inl h1n)
  have HU : Hid _ := HU0
  clear HU0
  have HE0 := fun (RB cap1 : Nat) w (hr : IsRdr w RB (.slice (some ⟨g, 0, none⟩) L cap1) 4294967295) (hz : Row w g 0 L z) => elem_yes RB g 0 L cap1 q1 q2 q3 q4 q5 q6 hq.k0 hq.k1 hq.a0 hq.a1 hq.d0 hq.d1 hq.p0 hq.p1 hq.c0 hq.c1 hq.n0 hq.n1 j j0 j1 z w hr.a hz h2n hc5 hc0 hjc hin
  have HE : Hid _ := HE0
  clear HE0
  have HC0 := fun (RB cap1 : Nat) w (hr : IsRdr w RB (.slice (some ⟨g, 0, none⟩) L cap1) 4294967295) (hz : Row w g 0 L z) => child_no RB (some ⟨g, 0, none⟩) L cap1 q1 q2 q3 q4 q5 q6 hq.k0 hq.k1 hq.a0 hq.a1 hq.d0 hq.d1 hq.p0 hq.p1 hq.c0 hq.c1 hq.n0 hq.n1 i i0 i1 w hr.a (.inl h1n)
  have HC : Hid _ := HC0
  clear HC0
  have HP0 := fun (RB cap1 : Nat) w {Lf : Int} (hr : IsRdr w RB (.slice (some ⟨g, 0, none⟩) L cap1) Lf) (hz : Row w g 0 L z) => eptr_no RB (some ⟨g, 0, none⟩) L cap1 q1 q2 q3 q4 q5 q6 hq.k0 hq.k1 hq.a0 hq.a1 hq.d0 hq.d1 hq.p0 hq.p1 hq.c0 hq.c1 hq.n0 hq.n1 j j0 j1 w hr.a (.inr (.inr (.inr ⟨h2n, hjc, hin, by simp; omega, by simp; omega⟩)))
  have HP : Hid _ := HP0
  clear HP0
  clear hin hq
  go_enter Fahg.func11, Fahg.ntmps11
  go_wp2_with (at_builtin; refine wpList_append_run rfl _ _ _ rfl _ _ _ _ rfl rfl HRUN.out ?_)
  refine (HWI.out _).mono ?_; rintro e w2 ⟨rfl, hb2⟩
  have HS2 : Hid _ := HS1.out.stay hb2
  have c2 := HS2.out.p
  clear c1 hb2 HS1 HRUN
  generalize hnn : elBits q5 = n at *
  generalize hpp : j * n = p at *
  have hp0 := hbase.1
  have hp1 := hbase.2.1
  have HBS : Hid _ := hbase
  clear hbase hnn
  have hXd := (HROW.out _ _ HS2.out (q2 + p / 64) (by omega) hbb.1)
  generalize hX : z (q2 + p / 64) = X at *
  have HUX : Hid (U64 X) := hXd.2
  have HCX : Hid (w2.cell? ⟨g, 0 + (q2 + p / 64).toNat, none⟩ = some (.int .u64 X)) := hXd.1
  clear hXd hX
  go_wp2_with fail
  go_loop [12, 14] (fun e b => ∃ k : Nat, (k : Int) ≤ n ∧ b = .int .i64 k ∧ e = .int .u64 (bitsAt X (p % 64) k)) (fun _ b => (n - intOf b).toNat)
  case atStart => exact ⟨0, by omega, rfl, by simp [bitsAt]⟩
  case round =>
    obtain ⟨k, hk, rfl, rfl⟩ := hrel
    by_cases hlt : (k : Int) < n
    · have ex : (p + (k : Int)) / 64 = p / 64 := by omega
      have em : (p + (k : Int)) % 64 = p % 64 + k := by omega
      have hcx := HCX.out
      simp only [Nat.zero_add] at hcx
      go_wp2_with fail
      exact ⟨⟨k + 1, by omega, by simp, by rw [or_bit X (p % 64) k HUX.out (by omega) (by omega)]⟩, by simp [intOf]; omega⟩
    · have hkn : (k : Int) = n := by omega
      clear HCX
      go_wp2_with fail
      refine (HIN.out _ _ _).mono ?_; rintro e w3 ⟨rfl, hb3⟩
      have HS3 : Hid _ := HS2.out.stay hb3
      have c3 := HS3.out.p
      clear c2 hb3 HS2
      go_wp2_with fail
      refine (HU.out _ _ _ HS3.out.rdr (HROW.out _ _ HS3.out)).mono ?_; rintro e w4 ⟨rfl, hb4⟩
      have HS4 : Hid _ := HS3.out.stay hb4
      have c4 := HS4.out.p
      clear c3 hb4 HS3
      go_wp2_with fail
      refine (HE.out _ _ _ HS4.out.rdr (HROW.out _ _ HS4.out)).mono ?_; rintro e w5 ⟨rfl, hb5⟩
      have HS5 : Hid _ := HS4.out.stay hb5
      have c5 := HS5.out.p
      clear c4 hb5 HS4
      have hz5 : w.heap.size < w5.heap.size := Nat.lt_trans HS5.out.lt HS5.out.rdr.lt
      have hR5 : w1.heap.size < w5.heap.size := HS5.out.rdr.lt
      go_wp2_with fail
      have HSn : Hid _ := HS5.out.stay (below_alloc (Below.refl _ _) (Nat.le_refl _) (.cells #[.int .u8 0, .int .u16 0, .int .u8 0, .int .u8 0, .int .u8 0, .int .u32 0] 78))
      refine (HC.out _ _ _ HSn.out.rdr (HROW.out _ _ HSn.out)).mono ?_
      rintro e w6 ⟨rfl, hb⟩
      have HS6 : Hid _ := HSn.out.stay hb
      have hsz := hb.size
      simp only [World.size_alloc] at hsz
      have c6 := HS6.out.p
      have n6 : ∀ o, w6.cell? ⟨w5.heap.size, o, none⟩ = _ := fun o => (hb.cell (p := ⟨w5.heap.size, o, none⟩) (by simp)).trans (World.cell?_alloc_at _ _ _ _ rfl)
      have hz6 : w5.heap.size < w6.heap.size := by omega
      have hy6 : w.heap.size < w6.heap.size := by omega
      have hR6 : w1.heap.size < w6.heap.size := by omega
      clear c5 hb HSn HS5 hsz
      simp only [WP.nul, WP.val]
      go_wp2_with fail
      have HSm : Hid _ := HS6.out.stay (below_alloc (Below.refl _ _) (Nat.le_refl _) (.cells #[.int .u8 0, .int .u16 0, .int .u8 0, .int .u8 0, .int .u8 0, .int .u32 0] 78))
      refine (HP.out _ _ _ HSm.out.rdr (HROW.out _ _ HSm.out)).mono ?_
      rintro e w7 ⟨rfl, hb⟩
      have HS7 : Hid _ := HSm.out.stay hb
      have hsz := hb.size
      simp only [World.size_alloc] at hsz
      have n7 : ∀ o, w7.cell? ⟨w5.heap.size, o, none⟩ = _ := fun o => (hb.cell (p := ⟨w5.heap.size, o, none⟩) (by simp; omega)).trans ((World.cell?_alloc_past _ _ _ (by omega)).trans (n6 o))
      have d7 : ∀ o, w7.cell? ⟨w6.heap.size, o, none⟩ = _ := fun o => (hb.cell (p := ⟨w6.heap.size, o, none⟩) (by simp)).trans (World.cell?_alloc_at _ _ _ _ rfl)
      have hz7 : w6.heap.size < w7.heap.size := by omega
      have hy7 : w5.heap.size < w7.heap.size := by omega
      clear c6 hb HSm HS6 n6 hsz
      simp only [WP.nul, WP.val]
      go_wp2_with fail
      go_ret
      exact ⟨rfl, HS7.out.below.alloc (by omega) _⟩

set_option maxRecDepth 100000 in
set_option maxHeartbeats 12800000 in
theorem reads_l_void (a0 : Option Addr) (len cap L : Nat) (z : Int → Int) (q1 q2 q3 q4 q5 q6 i j : Int) (hq : WP.ok ⟨q1, q2, q3, q4, q5, q6⟩) (i0 : 0 ≤ i) (i1 : i ≤ 255) (j0 : 0 ≤ j) (j1 : j ≤ 4294967295) (w : World)
    (hcap : len ≤ cap) (hnil : a0 = none → cap = 0) (hs : Lies w a0 L z) (hl : L ≤ 256) (hL : L = len) (hin : wIn q1 q2 q3 q4 q5 q6 L = true) (h1 : (q1 == 1) = false) (h1n : (q1 != 1) = true) (h2 : (q1 == 2) = true) (h2n : (q1 != 2) = false) (hc5 : q5 ≤ 5) (hjc : j < q6) (hc0 : (q5 == 0) = true)   :
    Calls Fahg.prog 11 #[.slice a0 len cap, .agg #[.int .u8 q1, .int .u16 q2, .int .u8 q3, .int .u8 q4, .int .u8 q5, .int .u32 q6], .int .u8 i, .int .u32 j] w fun e w' => e = .returned (.bool true) ∧ Below w.heap.size w w' := by
  subst hL
  have q2a : 0 ≤ q2 := hq.a0
  have q2b : q2 ≤ 65535 := hq.a1
  have q3a : 0 ≤ q3 := hq.d0
  have q4a : 0 ≤ q4 := hq.p0
  have q5a : 0 ≤ q5 := hq.c0
  have q6a : 0 ≤ q6 := hq.n0
  have hix := fun w => idx6 q5 q5a hc5 w
  have hn0 : elBits q5 = 0 := by have : q5 = 0 := by simpa using hc0
                                 rw [this]; rfl
  rw [hn0] at hix
  obtain ⟨a1, cap1, w1, hrun, hb1, hrow⟩ := app_any (w.alloc (.cells #[Value.int .u8 q1, .int .u16 q2, .int .u8 q3, .int .u8 q4, .int .u8 q5, .int .u32 q6] 78)) a0 L cap z (hs.below (below_alloc (Below.refl _ _) (Nat.le_refl _) _)) hnil (by omega)
  have hz1 : w.heap.size < w1.heap.size := by have := hb1.size; simp at this; omega
  have c1 : ∀ o, w1.cell? ⟨w.heap.size, o, none⟩ = #[Value.int .u8 q1, .int .u16 q2, .int .u8 q3, .int .u8 q4, .int .u8 q5, .int .u32 q6][o]? := fun o => (hb1.cell (p := ⟨w.heap.size, o, none⟩) (by simp)).trans (World.cell?_alloc_at _ _ _ _ rfl)
  have S1 : RS w w1.heap.size a1 L cap1 z q1 q2 q3 q4 q5 q6 4294967295 (w1.alloc (.cells #[.slice a1 L cap1, .int .u32 4294967295] 87)) := by
    refine ⟨(below_alloc (Below.refl _ _) (Nat.le_refl _) _).trans ((hb1.mono (by simp)).trans ((Below.refl _ _).alloc (by omega) _)), fun o => ?_, ⟨?_, ?_, ?_⟩, hz1, ?_⟩
    · rw [World.cell?_alloc_past _ _ _ (by omega), c1 o]
    · rw [World.cell?_alloc_at _ _ _ _ rfl]; rfl
    · rw [World.cell?_alloc_at _ _ _ _ rfl]; rfl
    · simp [go_sem]
    · rcases hrow with h | ⟨g, e, h1, h2, hr⟩
      · exact .inl h
      · exact .inr ⟨g, e, by omega, by simp; omega, hr.below ((Below.refl w1.heap.size w1).alloc (Nat.le_refl _) _) h2⟩
  have HRUN : Hid _ := hrun
  have HS1 : Hid _ := S1
  clear hrow hs hrun hb1 S1
  have hWI := fun w => wideInside_any L q1 q2 q3 q4 q5 q6 hq.k0 hq.k1 hq.a0 hq.a1 hq.d0 hq.d1 hq.p0 hq.p1 hq.c0 hq.c1 hq.n0 hq.n1 w (by omega) (by omega)
  have hIN := fun cap1 a1 w => inside_any a1 L cap1 q1 q2 q3 q4 q5 q6 hq.k0 hq.k1 hq.a0 hq.a1 hq.d0 hq.d1 hq.p0 hq.p1 hq.c0 hq.c1 hq.n0 hq.n1 w
  rw [hin] at hWI
  simp only [hin] at hIN
  have HWI : Hid _ := hWI
  have HIN : Hid _ := hIN
  clear hWI hIN
  have HU0 := fun (RB cap1 : Nat) w (hr : IsRdr w RB (.slice a1 L cap1) 4294967295) => u64_no RB a1 L cap1 q1 q2 q3 q4 q5 q6 hq.k0 hq.k1 hq.a0 hq.a1 hq.d0 hq.d1 hq.p0 hq.p1 hq.c0 hq.c1 hq.n0 hq.n1 i i0 i1 w hr.a (.inl h1n)
  have HU : Hid _ := HU0
  clear HU0
  have HE0 := fun (RB cap1 : Nat) w (hr : IsRdr w RB (.slice a1 L cap1) 4294967295) => elem_no RB a1 L cap1 q1 q2 q3 q4 q5 q6 hq.k0 hq.k1 hq.a0 hq.a1 hq.d0 hq.d1 hq.p0 hq.p1 hq.c0 hq.c1 hq.n0 hq.n1 j j0 j1 w hr.a (.inr (.inr (.inl ⟨h2n, hc5, hc0⟩)))
  have HE : Hid _ := HE0
  clear HE0
  have HC0 := fun (RB cap1 : Nat) w (hr : IsRdr w RB (.slice a1 L cap1) 4294967295) => child_no RB a1 L cap1 q1 q2 q3 q4 q5 q6 hq.k0 hq.k1 hq.a0 hq.a1 hq.d0 hq.d1 hq.p0 hq.p1 hq.c0 hq.c1 hq.n0 hq.n1 i i0 i1 w hr.a (.inl h1n)
  have HC : Hid _ := HC0
  clear HC0
  have HP0 := fun (RB cap1 : Nat) w {Lf : Int} (hr : IsRdr w RB (.slice a1 L cap1) Lf) => eptr_no RB a1 L cap1 q1 q2 q3 q4 q5 q6 hq.k0 hq.k1 hq.a0 hq.a1 hq.d0 hq.d1 hq.p0 hq.p1 hq.c0 hq.c1 hq.n0 hq.n1 j j0 j1 w hr.a (.inr (.inr (.inr ⟨h2n, hjc, hin, by simp at hc0 ⊢; omega, by simp at hc0 ⊢; omega⟩)))
  have HP : Hid _ := HP0
  clear HP0
  clear hin hq
  go_enter Fahg.func11, Fahg.ntmps11
  go_wp2_with (at_builtin; refine wpList_append_run rfl _ _ _ rfl _ _ _ _ rfl rfl HRUN.out ?_)
  refine (HWI.out _).mono ?_; rintro e w2 ⟨rfl, hb2⟩
  have HS2 : Hid _ := HS1.out.stay hb2
  have c2 := HS2.out.p
  clear c1 hb2 HS1 HRUN
  go_wp2_with fail
  go_loop [12, 14] (fun e b => e = .int .u64 0 ∧ b = .int .i64 0) (fun _ b => (1 - intOf b).toNat)
  case atStart => exact ⟨rfl, rfl⟩
  case round =>
    obtain ⟨rfl, rfl⟩ := hrel
    go_wp2_with fail
    refine (HIN.out _ _ _).mono ?_; rintro e w3 ⟨rfl, hb3⟩
    have HS3 : Hid _ := HS2.out.stay hb3
    have c3 := HS3.out.p
    clear c2 hb3 HS2
    go_wp2_with fail
    refine (HU.out _ _ _ HS3.out.rdr ).mono ?_; rintro e w4 ⟨rfl, hb4⟩
    have HS4 : Hid _ := HS3.out.stay hb4
    have c4 := HS4.out.p
    clear c3 hb4 HS3
    go_wp2_with fail
    refine (HE.out _ _ _ HS4.out.rdr ).mono ?_; rintro e w5 ⟨rfl, hb5⟩
    have HS5 : Hid _ := HS4.out.stay hb5
    have c5 := HS5.out.p
    clear c4 hb5 HS4
    have hz5 : w.heap.size < w5.heap.size := Nat.lt_trans HS5.out.lt HS5.out.rdr.lt
    have hR5 : w1.heap.size < w5.heap.size := HS5.out.rdr.lt
    go_wp2_with fail
    have HSn : Hid _ := HS5.out.stay (below_alloc (Below.refl _ _) (Nat.le_refl _) (.cells #[.int .u8 0, .int .u16 0, .int .u8 0, .int .u8 0, .int .u8 0, .int .u32 0] 78))
    refine (HC.out _ _ _ HSn.out.rdr ).mono ?_
    rintro e w6 ⟨rfl, hb⟩
    have HS6 : Hid _ := HSn.out.stay hb
    have hsz := hb.size
    simp only [World.size_alloc] at hsz
    have c6 := HS6.out.p
    have n6 : ∀ o, w6.cell? ⟨w5.heap.size, o, none⟩ = _ := fun o => (hb.cell (p := ⟨w5.heap.size, o, none⟩) (by simp)).trans (World.cell?_alloc_at _ _ _ _ rfl)
    have hz6 : w5.heap.size < w6.heap.size := by omega
    have hy6 : w.heap.size < w6.heap.size := by omega
    have hR6 : w1.heap.size < w6.heap.size := by omega
    clear c5 hb HSn HS5 hsz
    simp only [WP.nul, WP.val]
    go_wp2_with fail
    have HSm : Hid _ := HS6.out.stay (below_alloc (Below.refl _ _) (Nat.le_refl _) (.cells #[.int .u8 0, .int .u16 0, .int .u8 0, .int .u8 0, .int .u8 0, .int .u32 0] 78))
    refine (HP.out _ _ _ HSm.out.rdr ).mono ?_
    rintro e w7 ⟨rfl, hb⟩
    have HS7 : Hid _ := HSm.out.stay hb
    have hsz := hb.size
    simp only [World.size_alloc] at hsz
    have n7 : ∀ o, w7.cell? ⟨w5.heap.size, o, none⟩ = _ := fun o => (hb.cell (p := ⟨w5.heap.size, o, none⟩) (by simp; omega)).trans ((World.cell?_alloc_past _ _ _ (by omega)).trans (n6 o))
    have d7 : ∀ o, w7.cell? ⟨w6.heap.size, o, none⟩ = _ := fun o => (hb.cell (p := ⟨w6.heap.size, o, none⟩) (by simp)).trans (World.cell?_alloc_at _ _ _ _ rfl)
    have hz7 : w6.heap.size < w7.heap.size := by omega
    have hy7 : w5.heap.size < w7.heap.size := by omega
    clear c6 hb HSm HS6 n6 hsz
    simp only [WP.nul, WP.val]
    go_wp2_with fail
    go_ret
    exact ⟨rfl, HS7.out.below.alloc (by omega) _⟩
end Go.Proofs.Ygcfah
