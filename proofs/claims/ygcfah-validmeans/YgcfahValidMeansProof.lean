/- law.ValidMeans: the row. -/
import Derived.Test.YgcfahNvis
import Derived.Test.YgcfahNcl
import Derived.Test.YgcfahOpen
namespace Go.Proofs.Ygcfah.validMeans
open Go.ChangeShapes Go.WideShapes Go.ChangeAt Go.RowKit
set_option linter.unusedVariables false
set_option linter.unusedSimpArgs false

theorem nmst_fresh (w : World) : NMst ((w.alloc (.cells #[.int .i64 0, .int .i64 1] 169)).alloc (.cells #[.slice (some ⟨w.heap.size, 0, none⟩) 1 1] 170)) w.heap.size (w.heap.size + 1) (fun i => i == 0) := by
  refine ⟨w.heap.size, 1, #[.int .i64 0, .int .i64 1], [(0, 1)], ?_, Nat.le_refl _, ?_, by simp, by decide, by simp, by simp [spanCells], ⟨by simp, ?_, ?_⟩⟩
  · have := heap_alloc_new (w.alloc (.cells #[.int .i64 0, .int .i64 1] 169)) (.cells #[.slice (some ⟨w.heap.size, 0, none⟩) 1 1] 170)
    simpa using this
  · exact (heap_alloc_old _ _ (by simp)).trans (heap_alloc_new _ _)
  · intro i
    rw [Bool.eq_iff_iff]
    simp [In]
  · set_option maxRecDepth 100000 in decide

set_option maxRecDepth 100000 in
set_option maxHeartbeats 1000000 in
theorem mval_in (ANS : Bool) (b off len cap : Nat) (z : Int → Int) (w : World) (hl : 1 ≤ len) (hl2 : len ≤ 256) (hz : Row w b off len z) (hb : b < w.heap.size) (hANS : Hid (ANS = (vis (resN z len) 8 (fun i => i == 0, 0) 0).isSome)) :
    Calls Fahg.prog 30 #[.slice (some ⟨b, off, none⟩) len cap] w fun e w' => e = .returned (.bool ANS) ∧ Below w.heap.size w w' := by
  have h1 : ((len : Int) == 0) = false := by simp; omega
  have h2 : decide ((256 : Int) < len) = false := by simp; omega
  have HZ : Hid _ := hz
  clear hz
  go_enter Fahg.func30, Fahg.ntmps30
  go_wp2_with fail
  have hbel : Below w.heap.size w ((w.alloc (.cells #[.int .i64 0, .int .i64 1] 169)).alloc (.cells #[.slice (some ⟨w.heap.size, 0, none⟩) 1 1] 170)) := below_alloc (below_alloc (Below.refl _ _) (Nat.le_refl _) _) (by simp) _
  refine (nvisit_all b off len cap z w.heap.size (w.heap.size + 1) hl2 hb (by omega) 8 (by omega) 0 (fun i => i == 0, 0) _ (by omega) (Row.below HZ.out hbel hb) (by simp; omega) (nmst_fresh w)).mono ?_
  rintro e w1 ⟨rfl, hv, hm⟩
  have HB : Hid (Below w.heap.size w w1) := hbel.trans (hv.below (by omega) (by simp; omega))
  have ha := hANS.out
  generalize (vis (resN z len) 8 (fun i => i == 0, 0) 0).isSome = R at *
  subst ha
  clear hm hv hbel
  go_wp2_with fail
  go_ret
  exact ⟨rfl, HB.out⟩
theorem mval_out (a0 : Option Addr) (len cap : Nat) (w : World) (h : len = 0 ∨ 256 < len) :
    Calls Fahg.prog 30 #[.slice a0 len cap] w fun e w' => e = .returned (.bool false) ∧ w' = w := by
  rcases h with rfl | h
  · go_enter Fahg.func30, Fahg.ntmps30
    go_wp2_with fail
    go_ret
    exact ⟨rfl, rfl⟩
  · have h1 : ((len : Int) == 0) = false := by simp; omega
    have h2 : decide ((256 : Int) < len) = true := by simp; omega
    go_enter Fahg.func30, Fahg.ntmps30
    go_wp2_with fail
    go_ret
    exact ⟨rfl, rfl⟩

theorem costs0 (L : List Node) (h : ∀ nd ∈ L, nd.cost = 0) : costs L = 0 := by
  have := costs_le L 0 fun nd hn => by have := h nd hn; omega
  simpa using this
/-- The model's answer is the stack machine's. -/
theorem vis_ansN (z : Int → Int) (len : Nat) : (vis (resN z len) 8 (fun i => i == 0, 0) 0).isSome = ans (resN z len) (fun i => i == 0) 0 [(0, 1)] := by
  have hnode : ∀ a nd, resN z len a = some (some nd) → nd.cost = 0 := by
    intro a nd h
    unfold resN at h
    split at h
    · cases h
    · split at h
      · cases h
      · simp only [Option.some.injEq] at h
        subst h; rfl
  rw [vis_take]
  have e1 : ans (resN z len) (fun i => i == 0) 0 [(0, 1)] = match collect (resN z len) 8 0 with | none => false | some L => seqOk (fun i => i == 0) L && decide (costs L ≤ 0) := by
    unfold ans
    simp only [collectS]
    cases collect (resN z len) (9 - 1) 0 <;> simp
  rw [e1]
  cases hc : collect (resN z len) 8 0 with
  | none => rfl
  | some L =>
    have h0 := costs0 L (collect_all (fun nd => nd.cost = 0) _ hnode 8 0 L hc)
    simp only [take]
    cases hq : seqOk (fun i => i == 0) L with
    | false => simp
    | true => rw [if_pos rfl, h0]; simp

set_option maxRecDepth 100000 in
set_option maxHeartbeats 1000000 in
theorem means_x (a0 : Option Addr) (len cap L : Nat) (w : World) (hcap : len ≤ cap) (hnil : a0 = none → cap = 0) (hL : (len ≤ 257 ∧ L = len) ∨ (257 < len ∧ L = 257)) (ANS : Bool)
    (h1 : Hid (∀ cap2 w', Below w.heap.size w w' → Calls Fahg.prog 29 #[.slice a0 L cap2] w' fun e w2 => e = .returned (.bool ANS) ∧ Below w'.heap.size w' w2))
    (h2 : Hid (∀ cap2 w', Below w.heap.size w w' → Calls Fahg.prog 30 #[.slice a0 L cap2] w' fun e w2 => e = .returned (.bool ANS) ∧ Below w'.heap.size w' w2)) :
    Calls Fahg.prog 8 #[.slice a0 len cap] w fun e w' => e = .returned (.bool true) ∧ Below w.heap.size w w' := by
  rcases hL with ⟨hl, rfl⟩ | ⟨hl, rfl⟩
  all_goals
    go_enter Fahg.func8, Fahg.ntmps8
    go_wp2_with fail
    refine (h1.out _ _ (Below.refl _ _)).mono ?_
    rintro e w1 ⟨rfl, hb1⟩
    have HB1 : Hid _ := hb1
    clear hb1
    go_wp2_with fail
    refine (h2.out _ _ HB1.out).mono ?_
    rintro e w2 ⟨rfl, hb2⟩
    have HB2 : Hid (Below w.heap.size w w2) := HB1.out.trans (hb2.mono HB1.out.size)
    clear hb2 HB1
    go_wp2_with fail
    go_ret
    exact ⟨ret_bool (by simp), HB2.out⟩

theorem walk (a0 : Option Addr) (len cap : Nat) (w : World) (hs : SliceRow w a0 len cap ∨ (∃ x, a0 = some x ∧ cap = 0 ∧ len = 0)) :
    Calls Fahg.prog 8 #[.slice a0 len cap] w fun e w' => e = .returned (.bool true) ∧ Below w.heap.size w w' := by
  have hL : ∃ L, (len ≤ 257 ∧ L = len) ∨ (257 < len ∧ L = 257) := by
    by_cases h : len ≤ 257
    · exact ⟨len, .inl ⟨h, rfl⟩⟩
    · exact ⟨257, .inr ⟨by omega, rfl⟩⟩
  obtain ⟨L, hL⟩ := hL
  have hcn : len ≤ cap ∧ (a0 = none → cap = 0) := by
    rcases hs with (⟨rfl, rfl, rfl⟩ | ⟨b, off, z, rfl, h, _, hr⟩) | ⟨x, rfl, rfl, rfl⟩
    · exact ⟨Nat.le_refl _, fun _ => rfl⟩
    · exact ⟨h, by simp⟩
    · exact ⟨Nat.le_refl _, by simp⟩
  by_cases hout : L = 0 ∨ 256 < L
  · refine means_x a0 len cap L w hcn.1 hcn.2 hL false (fun cap2 w' _ => ?_) (fun cap2 w' _ => ?_)
    · exact nvalidate_out a0 L cap2 w' hout
    · exact (mval_out a0 L cap2 w' hout).mono fun e w2 ⟨h, h'⟩ => ⟨h, by rw [h']; exact Below.refl _ _⟩
  · have hLe : L = len := by omega
    subst hLe
    rcases hs with (⟨rfl, rfl, rfl⟩ | ⟨b, off, z, rfl, h, _, hr⟩) | ⟨x, rfl, rfl, rfl⟩
    · omega
    · have hrow : Row w b off L z := fun k a c => hr k a (by omega)
      have hb : b < w.heap.size := World.block_lt_of_cell? w _ (hr 0 (by omega) (by omega)).1
      refine means_x (some ⟨b, off, none⟩) L cap L w hcn.1 hcn.2 hL (ans (resN z L) (fun i => i == 0) 0 [(0, 1)]) (fun cap2 w' hb' => ?_) (fun cap2 w' hb' => ?_)
      · exact nvalidate_in _ b off L cap2 z (by omega) (by omega) w' (hrow.below hb' hb) (Nat.lt_of_lt_of_le hb hb'.size) rfl
      · exact mval_in _ b off L cap2 z w' (by omega) (by omega) (hrow.below hb' hb) (Nat.lt_of_lt_of_le hb hb'.size) (vis_ansN z L).symm
    · omega

set_option maxRecDepth 100000 in
theorem lifted (os : Os) (started : os.Started) (H : Type) (enc : TypeId × Value → H) :
    ReturnsInHanded {} Fahg.checked os 8 .any (Rows.validMeansSpec.pre6 enc Fahg.prog Fahg.f8 Rows.validMeansRow.domain false) (Rows.validMeansSpec.post enc Fahg.prog Fahg.f8 false true false false) := by
  refine returnsInHanded_of_change (C := Fahg.checked) own started (by kernel_rfl) Fahg.func8
    (ChangeSpec.witness6 (enc := enc) (C := Fahg.checked) false ⟨#[], #[.slice none 0 0], []⟩ 8 (by kernel_rfl) (by kernel_rfl) (by kernel_rfl) (by kernel_rfl)) ?_
  intro W base args ds gs before hval0 hW hcnd _
  have hval : ∀ (j : Nat) t v, Fahg.f8.params[j]? = some t → args[j]? = some v → Value.okWide Fahg.prog W .any base t v := hval0
  have hW' := hW
  obtain ⟨p, q, hA0, hV, rfl, hfz, hnd⟩ := hW
  have hA : DataW.TrodAll enc Fahg.prog W 0 (fun _ => true) true Fahg.f8.params.toList args.toList ds p := hA0
  rw [Fahg.params8] at hA hval
  obtain ⟨v0, vs0, d0, ds0, p0, q0, hargs, rfl, rfl, h0, r0⟩ := trodAll_cons hA
  obtain ⟨rfl, rfl, rfl⟩ := trodAll_nil r0
  obtain rfl : args = #[v0] := by cases args; simp_all
  obtain ⟨rfl, rfl⟩ := trodVars_none hV
  obtain ⟨a0, len0, cap0, rfl⟩ := okWide_slice Fahg.underlying38 (hval 0 38 v0 rfl rfl)
  have k0 := h0
  have lt0 : ∀ x ∈ p0, x.block < W.heap.size := by obtain ⟨m, hm⟩ := k0; exact DataW.trod_lt m _ _ _ hm
  have s0 := open_words h0
  clear hA0 hval0
  refine (walk a0 len0 cap0 W s0).mono fun e W' ⟨he, bel⟩ => ?_
  subst he
  exact ⟨_, rfl, _, _, _, [], _, [], hW', trodAll_mk1 (shut_bool Fahg.underlying4 _), (trodAll_cons_mk (Below.trod laidOut (by kernel_rfl) (of_decide_eq_true (by kernel_rfl)) k0 bel lt0) trodAll_mk0), rfl, bel.frame _, fun h => by cases h⟩

theorem over : Rows.validMeansRow.holds Fahg.pinned (OpenSpec.ofChange Rows.validMeansSpec) :=
  OpenClaim.holds_of_wide 8 Fahg.f8 rfl rfl rfl rfl rfl rfl rfl ⟨rfl, rfl, rfl, rfl, rfl⟩ rfl rfl rfl rfl rfl (by kernel_rfl) Fahg.func8 (by kernel_rfl)
    (of_decide_eq_true (by kernel_rfl)) (by unfold Func.isWrapper; first | (rw [if_pos (by decide +kernel)]; kernel_rfl) | (rw [if_neg (by decide +kernel)]; exact ⟨rfl, rfl⟩))
    (fun os started H enc _ => lifted os started H enc)

theorem proved : Rows.ValidMeansSaid := over
#print axioms proved
end Go.Proofs.Ygcfah.validMeans
