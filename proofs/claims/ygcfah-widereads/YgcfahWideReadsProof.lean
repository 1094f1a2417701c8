/- law.WideReads: the row. -/
import Derived.Test.YgcfahWrNo
import Derived.Test.YgcfahWrS
import Derived.Test.YgcfahWrL
import Derived.Test.YgcfahWrB
namespace Go.Proofs.Ygcfah.wideReads
open Go.ChangeShapes Go.WideShapes Go.ChangeAt Go.RowKit
set_option linter.unusedVariables false

/-- The three ways in which Resolve answers. -/
theorem rsv_ways (z : Int → Int) (L : Nat) (at_ : Int) (h0 : 0 ≤ at_) (h1 : at_ < L) (hl : L ≤ 256) (hz : ∀ i, 0 ≤ i → i < (L : Int) → U64 (z i)) :
    rsv z L at_ = (WP.nul, false) ∨ rsv z L at_ = (WP.nul, true) ∨
      ∃ r1 r2 r3 r4 r5 r6, rsv z L at_ = (⟨r1, r2, r3, r4, r5, r6⟩, true) ∧ WP.ok ⟨r1, r2, r3, r4, r5, r6⟩ ∧ (r1 == 0) = false ∧ wIn r1 r2 r3 r4 r5 r6 L = true := by
  have h := rsv_ok z L at_ h0 h1 (by omega) hz
  generalize rsv z L at_ = r at *
  obtain ⟨⟨r1, r2, r3, r4, r5, r6⟩, b⟩ := r
  cases b with
  | false => exact .inl (by have := h.no rfl; simp only at this; rw [this])
  | true =>
    rcases h.yes rfl with e | ⟨hk, hi⟩
    · exact .inr (.inl (by simp only at e; rw [e]))
    · refine .inr (.inr ⟨r1, r2, r3, r4, r5, r6, rfl, h.ok, ?_, hi⟩)
      simp only at hk
      simp; omega

theorem walk (a0 : Option Addr) (len cap : Nat) (q1 q2 q3 q4 q5 q6 i j : Int) (w : World) (hs : SliceRow w a0 len cap ∨ (∃ x, a0 = some x ∧ cap = 0 ∧ len = 0)) (hq : WP.ok ⟨q1, q2, q3, q4, q5, q6⟩)
    (i0 : 0 ≤ i) (i1 : i ≤ 255) (j0 : 0 ≤ j) (j1 : j ≤ 4294967295) :
    Calls Fahg.prog 11 #[.slice a0 len cap, .agg #[.int .u8 q1, .int .u16 q2, .int .u8 q3, .int .u8 q4, .int .u8 q5, .int .u32 q6], .int .u8 i, .int .u32 j] w fun e w' => e = .returned (.bool true) ∧ Below w.heap.size w w' := by
  obtain ⟨z, hcap, hnil, hlies, hz⟩ : ∃ z : Int → Int, len ≤ cap ∧ (a0 = none → cap = 0) ∧ (∀ n, n ≤ len → Lies w a0 n z) ∧ (∀ k, 0 ≤ k → k < (len : Int) → U64 (z k)) := by
    rcases hs with (⟨rfl, rfl, rfl⟩ | ⟨b, off, z, rfl, h, _, hr⟩) | ⟨x, rfl, rfl, rfl⟩
    · exact ⟨fun _ => 0, Nat.le_refl _, fun _ => rfl, fun n hn => .inl ⟨rfl, by omega⟩, fun k a c => by simp at c; omega⟩
    · refine ⟨z, h, by simp, fun n hn => ?_, fun k a c => (hr k a (by omega)).2⟩
      by_cases hc : cap = 0
      · exact .inr (.inl ⟨_, rfl, by omega⟩)
      · exact .inr (.inr ⟨b, off, rfl, World.block_lt_of_cell? w _ (hr 0 (by omega) (by omega)).1, fun k a c => hr k a (by omega)⟩)
    · exact ⟨fun _ => 0, Nat.le_refl _, by simp, fun n hn => .inr (.inl ⟨x, rfl, by omega⟩), fun k a c => by simp at c; omega⟩
  have hL : ∃ L, (len ≤ 257 ∧ L = len) ∨ (257 < len ∧ L = 257) := by
    by_cases h : len ≤ 257
    · exact ⟨len, .inl ⟨h, rfl⟩⟩
    · exact ⟨257, .inr ⟨by omega, rfl⟩⟩
  obtain ⟨L, hL⟩ := hL
  cases hin : wIn q1 q2 q3 q4 q5 q6 L with
  | false => exact reads_no a0 len cap L z q1 q2 q3 q4 q5 q6 i j hq i0 i1 j0 j1 w hcap hnil (hlies L (by omega)) hL hin
  | true =>
    obtain ⟨hl, hk, _, _⟩ := wIn_kind hin
    have hl : L ≤ 256 := by omega
    have hLe : L = len := by omega
    have hLi := hlies L (by omega)
    have hz : ∀ k, 0 ≤ k → k < (L : Int) → U64 (z k) := fun k a c => hz k a (by omega)
    rcases hk with hk | hk
    · have h1 : (q1 == 1) = true := by simpa using hk
      have h1n : (q1 != 1) = false := by simpa using hk
      have h2 : (q1 == 2) = false := by simp; omega
      have h2n : (q1 != 2) = true := by simp; omega
      have hst := hin
      rw [hk] at hst
      have q2a : 0 ≤ q2 := hq.a0
      have q3a : 0 ≤ q3 := hq.d0
      have q4a : 0 ≤ q4 := hq.p0
      have hst := wIn_struct q3a q4a q2a hst
      rcases Int.lt_or_le i q3 with hid | hid <;> rcases Int.lt_or_le i q4 with hpi | hpi
      · rcases rsv_ways z L (q2 + q3 + i) (by omega) (by omega) hl hz with e | e | ⟨r1, r2, r3, r4, r5, r6, e, ho, hz1, hi1⟩
        · exact reads_s_f_rdr_nulF a0 len cap L z q1 q2 q3 q4 q5 q6 i j hq i0 i1 j0 j1 w hcap hnil hLi hl hLe hin h1 h1n h2 h2n hid hpi e
        · exact reads_s_f_rdr_nulT a0 len cap L z q1 q2 q3 q4 q5 q6 i j hq i0 i1 j0 j1 w hcap hnil hLi hl hLe hin h1 h1n h2 h2n hid hpi e
        · exact reads_s_f_rdr_obj a0 len cap L z q1 q2 q3 q4 q5 q6 i j hq i0 i1 j0 j1 w hcap hnil hLi hl hLe hin h1 h1n h2 h2n hid hpi r1 r2 r3 r4 r5 r6 e ho hz1 hi1
      · exact reads_s_f_null a0 len cap L z q1 q2 q3 q4 q5 q6 i j hq i0 i1 j0 j1 w hcap hnil hLi hl hLe hin h1 h1n h2 h2n hid hpi
      · rcases rsv_ways z L (q2 + q3 + i) (by omega) (by omega) hl hz with e | e | ⟨r1, r2, r3, r4, r5, r6, e, ho, hz1, hi1⟩
        · exact reads_s_n_rdr_nulF a0 len cap L z q1 q2 q3 q4 q5 q6 i j hq i0 i1 j0 j1 w hcap hnil hLi hl hLe hin h1 h1n h2 h2n hid hpi e
        · exact reads_s_n_rdr_nulT a0 len cap L z q1 q2 q3 q4 q5 q6 i j hq i0 i1 j0 j1 w hcap hnil hLi hl hLe hin h1 h1n h2 h2n hid hpi e
        · exact reads_s_n_rdr_obj a0 len cap L z q1 q2 q3 q4 q5 q6 i j hq i0 i1 j0 j1 w hcap hnil hLi hl hLe hin h1 h1n h2 h2n hid hpi r1 r2 r3 r4 r5 r6 e ho hz1 hi1
      · exact reads_s_n_null a0 len cap L z q1 q2 q3 q4 q5 q6 i j hq i0 i1 j0 j1 w hcap hnil hLi hl hLe hin h1 h1n h2 h2n hid hpi
    · have h1 : (q1 == 1) = false := by simp; omega
      have h1n : (q1 != 1) = true := by simp; omega
      have h2 : (q1 == 2) = true := by simpa using hk
      have h2n : (q1 != 2) = false := by simpa using hk
      have q2a : 0 ≤ q2 := hq.a0
      have q6a : 0 ≤ q6 := hq.n0
      rcases Int.lt_or_le j q6 with hjc | hjc
      · rcases Int.lt_or_le 5 q5 with hc5 | hc5
        · cases hc6 : (q5 == 6)
          · cases hc7 : (q5 == 7)
            · exact reads_l_other a0 len cap L z q1 q2 q3 q4 q5 q6 i j hq i0 i1 j0 j1 w hcap hnil hLi hl hLe hin h1 h1n h2 h2n (by omega) hjc hc6 hc7
            · exact reads_l_struct a0 len cap L z q1 q2 q3 q4 q5 q6 i j hq i0 i1 j0 j1 w hcap hnil hLi hl hLe hin h1 h1n h2 h2n (by omega) hjc hc7
          · have hp := hin
            have h6 : q5 = 6 := by simpa using hc6
            rw [hk, h6] at hp
            have hp := wIn_ptrs q6a hp
            rcases rsv_ways z L (q2 + j) (by omega) (by omega) hl hz with e | e | ⟨r1, r2, r3, r4, r5, r6, e, ho, hz1, hi1⟩
            · exact reads_l_ptr_rdr_nulF a0 len cap L z q1 q2 q3 q4 q5 q6 i j hq i0 i1 j0 j1 w hcap hnil hLi hl hLe hin h1 h1n h2 h2n (by omega) hjc hc6 e
            · exact reads_l_ptr_rdr_nulT a0 len cap L z q1 q2 q3 q4 q5 q6 i j hq i0 i1 j0 j1 w hcap hnil hLi hl hLe hin h1 h1n h2 h2n (by omega) hjc hc6 e
            · exact reads_l_ptr_rdr_obj a0 len cap L z q1 q2 q3 q4 q5 q6 i j hq i0 i1 j0 j1 w hcap hnil hLi hl hLe hin h1 h1n h2 h2n (by omega) hjc hc6 r1 r2 r3 r4 r5 r6 e ho hz1 hi1
        · cases hc0 : (q5 == 0)
          · exact reads_l_bits a0 len cap L z q1 q2 q3 q4 q5 q6 i j hq i0 i1 j0 j1 w hcap hnil hLi hl hLe hin h1 h1n h2 h2n hc5 hjc hc0
          · exact reads_l_void a0 len cap L z q1 q2 q3 q4 q5 q6 i j hq i0 i1 j0 j1 w hcap hnil hLi hl hLe hin h1 h1n h2 h2n hc5 hjc hc0
      · rcases Int.lt_or_le 5 q5 with hc5 | hc5
        · exact reads_l_out_hi a0 len cap L z q1 q2 q3 q4 q5 q6 i j hq i0 i1 j0 j1 w hcap hnil hLi hl hLe hin h1 h1n h2 h2n (by omega) hjc
        · exact reads_l_out_lo a0 len cap L z q1 q2 q3 q4 q5 q6 i j hq i0 i1 j0 j1 w hcap hnil hLi hl hLe hin h1 h1n h2 h2n hc5 hjc

set_option maxRecDepth 100000 in
theorem lifted (os : Os) (started : os.Started) (H : Type) (enc : TypeId × Value → H) :
    ReturnsInHanded {} Fahg.checked os 11 .any (Rows.wideReadsSpec.pre6 enc Fahg.prog Fahg.f11 Rows.wideReadsRow.domain false) (Rows.wideReadsSpec.post enc Fahg.prog Fahg.f11 false true false false) := by
  refine returnsInHanded_of_change (C := Fahg.checked) own started (by kernel_rfl) Fahg.func11
    (ChangeSpec.witness6 (enc := enc) (C := Fahg.checked) false ⟨#[], #[.slice none 0 0, .agg #[.int .u8 0, .int .u16 0, .int .u8 0, .int .u8 0, .int .u8 0, .int .u32 0], .int .u8 0, .int .u32 0], []⟩ 8 (by kernel_rfl) (by kernel_rfl) (by kernel_rfl) (by kernel_rfl)) ?_
  intro W base args ds gs before hval0 hW hcnd _
  have hval : ∀ (j : Nat) t v, Fahg.f11.params[j]? = some t → args[j]? = some v → Value.okWide Fahg.prog W .any base t v := hval0
  have hW' := hW
  obtain ⟨p, q, hA0, hV, rfl, hfz, hnd⟩ := hW
  have hA : DataW.TrodAll enc Fahg.prog W 0 (fun _ => true) true Fahg.f11.params.toList args.toList ds p := hA0
  rw [Fahg.params11] at hA hval
  obtain ⟨v0, vs0, d0, ds0, p0, q0, hargs, rfl, rfl, h0, r0⟩ := trodAll_cons hA
  obtain ⟨v1, vs1, d1, ds1, p1, q1, rfl, rfl, rfl, h1, r1⟩ := trodAll_cons r0
  obtain ⟨v2, vs2, d2, ds2, p2, q2, rfl, rfl, rfl, h2, r2⟩ := trodAll_cons r1
  obtain ⟨v3, vs3, d3, ds3, p3, q3, rfl, rfl, rfl, h3, r3⟩ := trodAll_cons r2
  obtain ⟨rfl, rfl, rfl⟩ := trodAll_nil r3
  obtain rfl : args = #[v0, v1, v2, v3] := by cases args; simp_all
  obtain ⟨rfl, rfl⟩ := trodVars_none hV
  obtain ⟨a0, len0, cap0, rfl⟩ := okWide_slice Fahg.underlying38 (hval 0 38 v0 rfl rfl)
  have k0 := h0
  have lt0 : ∀ x ∈ p0, x.block < W.heap.size := by obtain ⟨m, hm⟩ := k0; exact DataW.trod_lt m _ _ _ hm
  have k1 := h1
  have lt1 : ∀ x ∈ p1, x.block < W.heap.size := by obtain ⟨m, hm⟩ := k1; exact DataW.trod_lt m _ _ _ hm
  have s0 := open_words h0
  obtain ⟨z1, z2, z3, z4, z5, z6, rfl, hq⟩ := open_wptr (hval 1 78 v1 rfl rfl) h1
  obtain ⟨a2, rfl, rfl, rfl, w2⟩ := open_int Fahg.underlying5 (hval 2 5 v2 rfl rfl) h2
  obtain ⟨a3, rfl, rfl, rfl, w3⟩ := open_int Fahg.underlying76 (hval 3 76 v3 rfl rfl) h3
  have b2 := bnd_u8 w2
  have b3 := bnd_u32 w3
  clear hA0 hval0
  refine (walk a0 len0 cap0 z1 z2 z3 z4 z5 z6 a2 a3 W s0 hq b2.1 b2.2 b3.1 b3.2).mono fun e W' ⟨he, bel⟩ => ?_
  subst he
  exact ⟨_, rfl, _, _, _, [], _, [], hW', trodAll_mk1 (shut_bool Fahg.underlying4 _), (trodAll_cons_mk (Below.trod laidOut (by kernel_rfl) (of_decide_eq_true (by kernel_rfl)) k0 bel lt0) (trodAll_cons_mk (Below.trod laidOut (by kernel_rfl) (of_decide_eq_true (by kernel_rfl)) k1 bel lt1) (trodAll_cons_mk (shut_int Fahg.underlying5 w2) (trodAll_cons_mk (shut_int Fahg.underlying76 w3) trodAll_mk0)))), rfl, bel.frame _, fun h => by cases h⟩

theorem over : Rows.wideReadsRow.holds Fahg.pinned (OpenSpec.ofChange Rows.wideReadsSpec) :=
  OpenClaim.holds_of_wide 11 Fahg.f11 rfl rfl rfl rfl rfl rfl rfl ⟨rfl, rfl, rfl, rfl, rfl⟩ rfl rfl rfl rfl rfl (by kernel_rfl) Fahg.func11 (by kernel_rfl)
    (of_decide_eq_true (by kernel_rfl)) (by unfold Func.isWrapper; first | (rw [if_pos (by decide +kernel)]; kernel_rfl) | (rw [if_neg (by decide +kernel)]; exact ⟨rfl, rfl⟩))
    (fun os started H enc _ => lifted os started H enc)

theorem proved : Rows.WideReadsSaid := over
#print axioms proved
end Go.Proofs.Ygcfah.wideReads
