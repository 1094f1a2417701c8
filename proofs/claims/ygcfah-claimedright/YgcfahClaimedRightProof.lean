/- law.ClaimedRight: the row. -/
import Derived.Test.YgcfahQcr
import Derived.Test.YgcfahOpen
namespace Go.Proofs.Ygcfah.claimedRight
open Go.ChangeShapes Go.WideShapes Go.ChangeAt Go.RowKit
set_option linter.unusedVariables false
set_option linter.unusedSimpArgs false
theorem eq68 (w : World) : Sem.run Fahg.prog (Op.equalIn 10000 68 (.agg #[.int .u64 0, .int .u64 0, .int .u64 0, .int .u64 0]) (.agg #[.int .u64 0, .int .u64 0, .int .u64 0, .int .u64 0])) w = .ok true w := by kernel_rfl

set_option maxRecDepth 100000 in
set_option maxHeartbeats 1000000 in
theorem cr_no (a0 : Option Addr) (len0 len cap : Nat) (hL0 : (len0 ≤ 256 ∧ len = len0) ∨ (256 < len0 ∧ len = 256)) (hcap : len0 ≤ cap) (hnil : a0 = none → cap = 0) (w : World)
    (HC : Hid (Calls Fahg.prog 31 #[.slice a0 len cap] w fun e w' => QClPost none w e w'))
    (HVa : Hid (∀ w', Below w.heap.size w w' → Calls Fahg.prog 29 #[.slice a0 len cap] w' fun e w2 => e = .returned (.bool false) ∧ Below w'.heap.size w' w2)) :
    Calls Fahg.prog 9 #[.slice a0 len0 cap] w fun e w' => e = .returned (.bool true) ∧ Below w.heap.size w w' := by
  rcases hL0 with ⟨h0, rfl⟩ | ⟨h0, rfl⟩
  all_goals
    go_enter Fahg.func9, Fahg.ntmps9
    go_wp2_with fail
    refine Calls.mono HC.out ?_
    rintro e w1 ⟨s, rfl, hb1, _, hs⟩
    have s0 := hs rfl 0
    have s1 := hs rfl 1
    have s2 := hs rfl 2
    have s3 := hs rfl 3
    rw [s0, s1, s2, s3]
    have HB1 : Hid _ := hb1
    clear hb1 s0 s1 s2 s3 hs
    go_wp2_with fail
    refine (HVa.out _ (below_alloc HB1.out (Nat.le_refl _) _)).mono ?_
    rintro e w2 ⟨rfl, hb2⟩
    have kx : ∀ o, w2.cell? ⟨w1.heap.size, o, none⟩ = #[Value.int .u64 0, .int .u64 0, .int .u64 0, .int .u64 0][o]? := fun o => (hb2.cell (p := ⟨w1.heap.size, o, none⟩) (by simp)).trans (World.cell?_alloc_at _ _ _ _ rfl)
    have hB2 : Below w.heap.size w w2 := (below_alloc HB1.out (Nat.le_refl _) _).trans (hb2.mono (by have := HB1.out.size; simp; omega))
    have HB2 : Hid _ := hB2
    have r0 := kx 0
    have r1 := kx 1
    have r2 := kx 2
    have r3 := kx 3
    simp only [show ∀ a b c d : Value, #[a, b, c, d][0]? = some a from fun _ _ _ _ => rfl, show ∀ a b c d : Value, #[a, b, c, d][1]? = some b from fun _ _ _ _ => rfl, show ∀ a b c d : Value, #[a, b, c, d][2]? = some c from fun _ _ _ _ => rfl, show ∀ a b c d : Value, #[a, b, c, d][3]? = some d from fun _ _ _ _ => rfl] at r0 r1 r2 r3
    clear hb2 kx hB2
    have heq := eq68
    go_wp2_with fail
    go_ret
    exact ⟨rfl, HB2.out⟩

theorem costs0 (L : List Node) (h : ∀ nd ∈ L, nd.cost = 0) : costs L = 0 := by
  have := costs_le L 0 fun nd hn => by have := h nd hn; omega
  simpa using this
theorem resN_cost (z : Int → Int) (len : Nat) : ∀ a nd, resN z len a = some (some nd) → nd.cost = 0 := by
  intro a nd h
  unfold resN at h
  split at h
  · cases h
  · split at h
    · cases h
    · simp only [Option.some.injEq] at h
      subst h; rfl
theorem ansF_eq (z : Int → Int) (len : Nat) : ansF (resN z len) (fun i => i == 0) [(0, 1)] = match collect (resN z len) 8 0 with | none => none | some L => if seqOk (fun i => i == 0) L then some (joinL (fun i => i == 0) L) else none := by
  unfold ansF
  simp only [collectS]
  cases collect (resN z len) (9 - 1) 0 <;> simp
theorem ans_eq (z : Int → Int) (len : Nat) : ans (resN z len) (fun i => i == 0) 0 [(0, 1)] = (ansF (resN z len) (fun i => i == 0) [(0, 1)]).isSome := by
  rw [ansF_eq]
  have e1 : ans (resN z len) (fun i => i == 0) 0 [(0, 1)] = match collect (resN z len) 8 0 with | none => false | some L => seqOk (fun i => i == 0) L && decide (costs L ≤ 0) := by
    unfold ans
    simp only [collectS]
    cases collect (resN z len) (9 - 1) 0 <;> simp
  rw [e1]
  cases hc : collect (resN z len) 8 0 with
  | none => rfl
  | some L =>
    have h0 := costs0 L (collect_all (fun nd => nd.cost = 0) _ (resN_cost z len) 8 0 L hc)
    simp only []
    cases hq : seqOk (fun i => i == 0) L with
    | false => simp
    | true => rw [h0]; simp

theorem collectL_congr {f f' : Nat → Option (List Node)} : ∀ (ks : List Nat), (∀ k ∈ ks, f' k = f k) → collectL f' ks = collectL f ks := by
  intro ks
  induction ks with
  | nil => intro _; rfl
  | cons k ks ih => intro h; rw [collectL, collectL, h k List.mem_cons_self, ih fun k hk => h k (List.mem_cons_of_mem _ hk)]
theorem collect_congr {res res' : Nat → Option (Option Node)} (Q : Nat → Prop) (h1 : ∀ a, Q a → res' a = res a) (h2 : ∀ a nd, Q a → res a = some (some nd) → ∀ k ∈ nd.kids, Q k) : ∀ left a, Q a → collect res' left a = collect res left a := by
  intro left
  induction left with
  | zero => intro a ha; simp only [collect, h1 a ha]
  | succ left ih =>
    intro a ha
    simp only [collect, h1 a ha]
    cases hr : res a with
    | none => rfl
    | some o =>
      cases o with
      | none => rfl
      | some nd =>
        simp only []
        rw [collectL_congr nd.kids fun k hk => ih k (h2 a nd ha hr k hk)]
/-- A sound arena's objects lie in it. -/
theorem words_in (z : Int → Int) (len : Nat) (hl : 1 ≤ len) (hl2 : len ≤ 256) (hz : ∀ i, 0 ≤ i → i < (len : Int) → U64 (z i)) (L : List Node) (hc : collect (resN z len) 8 0 = some L) (hq : seqOk (fun i => i == 0) L = true) :
    wordsL L ≤ 256 ∧ 256 - cnt (joinL (fun i => i == 0) L) 256 = 1 + wordsL L := by
  have hnode : ∀ a nd, a < len → resN z len a = some (some nd) → (nd.n = 0 ∨ nd.lo + nd.n ≤ 256) ∧ ∀ k ∈ nd.kids, k < len := by
    intro a nd ha h
    obtain ⟨p, _, hsh, rfl⟩ := resN_node hz hl2 ha h
    obtain ⟨_, _, n3, n4, n5⟩ := shape_node z hl2 hsh.s
    exact ⟨by simp only [nodeN]; omega, n5⟩
  have hcg := collect_congr (res := resN z len) (res' := fun a => if a < len then resN z len a else none) (fun a => a < len) (fun a ha => if_pos ha) (fun a nd ha h => (hnode a nd ha h).2) 8 0 (by omega)
  rw [← hcg] at hc
  have b2 := collect_all (fun nd => nd.n = 0 ∨ nd.lo + nd.n ≤ 256) _ (fun a nd h => by
    by_cases ha : a < len
    · rw [if_pos ha] at h; exact (hnode a nd ha h).1
    · rw [if_neg ha] at h; cases h) 8 0 L hc
  have b4 := wordsL_cnt L _ hq b2
  have b5 : cnt (fun i => i == 0) 256 = 255 := by set_option maxRecDepth 100000 in decide
  rw [b5] at b4
  omega

theorem walk (a0 : Option Addr) (len cap : Nat) (w : World) (hs : SliceRow w a0 len cap ∨ (∃ x, a0 = some x ∧ cap = 0 ∧ len = 0)) :
    Calls Fahg.prog 9 #[.slice a0 len cap] w fun e w' => e = .returned (.bool true) ∧ Below w.heap.size w w' := by
  have hL : ∃ L, (len ≤ 256 ∧ L = len) ∨ (256 < len ∧ L = 256) := by
    by_cases h : len ≤ 256
    · exact ⟨len, .inl ⟨h, rfl⟩⟩
    · exact ⟨256, .inr ⟨by omega, rfl⟩⟩
  obtain ⟨L, hL⟩ := hL
  have hcn : len ≤ cap ∧ (a0 = none → cap = 0) := by
    rcases hs with (⟨rfl, rfl, rfl⟩ | ⟨b, off, z, rfl, h, _, hr⟩) | ⟨x, rfl, rfl, rfl⟩
    · exact ⟨Nat.le_refl _, fun _ => rfl⟩
    · exact ⟨h, by simp⟩
    · exact ⟨Nat.le_refl _, by simp⟩
  by_cases hout : L = 0
  · exact cr_no a0 len L cap hL hcn.1 hcn.2 w (qclaimed_out a0 L cap w (.inl hout)) (fun w' _ => nvalidate_out a0 L cap w' (.inl hout))
  · rcases hs with (⟨rfl, rfl, rfl⟩ | ⟨b, off, z, rfl, h, _, hr⟩) | ⟨x, rfl, rfl, rfl⟩
    · omega
    · have hrow : Row w b off L z := fun k a c => hr k a (by omega)
      have hb : b < w.heap.size := World.block_lt_of_cell? w _ (hr 0 (by omega) (by omega)).1
      have hzz : ∀ i, 0 ≤ i → i < (L : Int) → U64 (z i) := fun i h h' => (hrow i h h').2
      have hcl := qclaimed_in _ b off L cap z (by omega) (by omega) w hrow hb rfl
      have hva := fun w' (hb' : Below w.heap.size w w') => nvalidate_in _ b off L cap z (by omega) (by omega) w' (hrow.below hb' hb) (Nat.lt_of_lt_of_le hb hb'.size) (ans_eq z L).symm
      cases hA : ansF (resN z L) (fun i => i == 0) [(0, 1)] with
      | none =>
        rw [hA] at hcl
        simp only [hA] at hva
        exact cr_no (some ⟨b, off, none⟩) len L cap hL hcn.1 hcn.2 w hcl hva
      | some FS =>
        rw [hA] at hcl
        simp only [hA] at hva
        rw [ansF_eq] at hA
        cases hc : collect (resN z L) 8 0 with
        | none => rw [hc] at hA; cases hA
        | some LL =>
          rw [hc] at hA
          simp only [] at hA
          split at hA
          · rename_i hq
            simp only [Option.some.injEq] at hA
            subst hA
            obtain ⟨h1, h2⟩ := words_in z L (by omega) (by omega) hzz LL hc hq
            exact cr_yes b off len L cap hL (by omega) (by omega) hcn.1 z w hrow hb _ LL hc rfl h1 h2 hcl hva
          · cases hA
    · omega

set_option maxRecDepth 100000 in
theorem lifted (os : Os) (started : os.Started) (H : Type) (enc : TypeId × Value → H) :
    ReturnsInHanded {} Fahg.checked os 9 .any (Rows.claimedRightSpec.pre6 enc Fahg.prog Fahg.f9 Rows.claimedRightRow.domain false) (Rows.claimedRightSpec.post enc Fahg.prog Fahg.f9 false true false false) := by
  refine returnsInHanded_of_change (C := Fahg.checked) own started (by kernel_rfl) Fahg.func9
    (ChangeSpec.witness6 (enc := enc) (C := Fahg.checked) false ⟨#[], #[.slice none 0 0], []⟩ 8 (by kernel_rfl) (by kernel_rfl) (by kernel_rfl) (by kernel_rfl)) ?_
  intro W base args ds gs before hval0 hW hcnd _
  have hval : ∀ (j : Nat) t v, Fahg.f9.params[j]? = some t → args[j]? = some v → Value.okWide Fahg.prog W .any base t v := hval0
  have hW' := hW
  obtain ⟨p, q, hA0, hV, rfl, hfz, hnd⟩ := hW
  have hA : DataW.TrodAll enc Fahg.prog W 0 (fun _ => true) true Fahg.f9.params.toList args.toList ds p := hA0
  rw [Fahg.params9] at hA hval
  obtain ⟨v0, vs0, d0, ds0, p0, q0, hargs, rfl, rfl, h0, r0⟩ := trodAll_cons hA
  obtain ⟨rfl, rfl, rfl⟩ := trodAll_nil r0
  obtain rfl : args = #[v0] := by cases args; simp_all
  obtain ⟨rfl, rfl⟩ := trodVars_none hV
  obtain ⟨a0, len0, cap0, rfl⟩ := okWide_slice Fahg.underlying38 (hval 0 38 v0 rfl rfl)
  have k0 := h0
  have lt0 : ∀ x ∈ p0, x.block < W.heap.size := by obtain ⟨m, hm⟩ := k0; exact DataW.trod_lt m _ _ _ hm
  have s0 := open_words h0
  clear hA0 hval0
  refine (walk a0 len0 cap0 W s0).mono fun e W' ⟨he, bel⟩ => ?_
  subst he
  exact ⟨_, rfl, _, _, _, [], _, [], hW', trodAll_mk1 (shut_bool Fahg.underlying4 _), (trodAll_cons_mk (Below.trod laidOut (by kernel_rfl) (of_decide_eq_true (by kernel_rfl)) k0 bel lt0) trodAll_mk0), rfl, bel.frame _, fun h => by cases h⟩

theorem over : Rows.claimedRightRow.holds Fahg.pinned (OpenSpec.ofChange Rows.claimedRightSpec) :=
  OpenClaim.holds_of_wide 9 Fahg.f9 rfl rfl rfl rfl rfl rfl rfl ⟨rfl, rfl, rfl, rfl, rfl⟩ rfl rfl rfl rfl rfl (by kernel_rfl) Fahg.func9 (by kernel_rfl)
    (of_decide_eq_true (by kernel_rfl)) (by unfold Func.isWrapper; first | (rw [if_pos (by decide +kernel)]; kernel_rfl) | (rw [if_neg (by decide +kernel)]; exact ⟨rfl, rfl⟩))
    (fun os started H enc _ => lifted os started H enc)

theorem proved : Rows.ClaimedRightSaid := over
#print axioms proved
end Go.Proofs.Ygcfah.claimedRight
