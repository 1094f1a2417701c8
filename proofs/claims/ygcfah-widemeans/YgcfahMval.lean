/- wmodel.Validate, and what the two validators answer. -/
import Derived.Test.YgcfahVisit
import Derived.Test.YgcfahVal
namespace Go.Proofs.Ygcfah
open Go.RowKit
set_option linter.unusedVariables false
set_option linter.unusedSimpArgs false

set_option maxRecDepth 100000 in
theorem mst_fresh (w : World) : Mst ((w.alloc (.cells #[.int .i64 0, .int .i64 1] 207)).alloc (.cells #[.slice (some ⟨w.heap.size, 0, none⟩) 1 1, .int .u64 0] 210)) w.heap.size (w.heap.size + 1) (fun i => i == 0) 0 := by
  refine ⟨w.heap.size, 1, #[.int .i64 0, .int .i64 1], [(0, 1)], ?_, Nat.le_refl _, ?_, by simp, by decide, by simp, by simp [spanCells], ⟨by simp, ?_, by decide⟩⟩
  · have := heap_alloc_new (w.alloc (.cells #[.int .i64 0, .int .i64 1] 207)) (.cells #[.slice (some ⟨w.heap.size, 0, none⟩) 1 1, .int .u64 0] 210)
    simpa using this
  · exact (heap_alloc_old _ _ (by simp)).trans (heap_alloc_new _ _)
  · intro i
    rw [Bool.eq_iff_iff]
    simp [In]

set_option maxRecDepth 100000 in
set_option maxHeartbeats 1000000 in
theorem mvalidate_in (ANS : Bool) (b off len cap bud : Nat) (hbud : bud ≤ 4294967295) (z : Int → Int) (w : World) (hl : 1 ≤ len) (hl2 : len ≤ 256) (hz : Row w b off len z) (hb : b < w.heap.size) (hANS : Hid (ANS = match vis (resOf z len) 8 (fun i => i == 0, 0) 0 with | none => false | some s => decide (s.2 % 18446744073709551616 ≤ bud))) :
    Calls Fahg.prog 45 #[.slice (some ⟨b, off, none⟩) len cap, .int .u32 bud] w fun e w' => e = .returned (.bool ANS) ∧ Below w.heap.size w w' := by
  have h1 : ((len : Int) == 0) = false := by simp; omega
  have h2 : decide ((256 : Int) < len) = false := by simp; omega
  have HZ : Hid _ := hz
  clear hz
  go_enter Fahg.func45, Fahg.ntmps45
  go_wp2_with fail
  have hbel : Below w.heap.size w ((w.alloc (.cells #[.int .i64 0, .int .i64 1] 207)).alloc (.cells #[.slice (some ⟨w.heap.size, 0, none⟩) 1 1, .int .u64 0] 210)) := below_alloc (below_alloc (Below.refl _ _) (Nat.le_refl _) _) (by simp) _
  refine (visit_all b off len cap z w.heap.size (w.heap.size + 1) hl2 hb (by omega) 8 (by omega) 0 (fun i => i == 0) 0 _ (by omega) (Row.below HZ.out hbel hb) (by simp; omega) (mst_fresh w)).mono ?_
  rintro e w1 ⟨rfl, hv, hm⟩
  have HB : Hid (Below w.heap.size w w1) := hbel.trans (hv.below (by omega) (by simp; omega))
  cases hvis : vis (resOf z len) 8 (fun i => i == 0, 0) 0 with
  | none =>
    have ha := hANS.out
    rw [hvis] at ha
    have HA : Hid (ANS = false) := ha
    clear hm hv hbel hvis ha hANS
    simp only [Option.isSome_none]
    go_wp2_with fail
    go_ret
    exact ⟨ret_bool HA.out.symm, HB.out⟩
  | some s =>
    obtain ⟨s', cap', cur, seen, hg, hrest⟩ := (hm s hvis).st
    have gc := cell_heap (o := 1) hg
    simp only [two1] at gc
    obtain ⟨cm, hcm⟩ : ∃ cm, cm = s.2 % 18446744073709551616 := ⟨_, rfl⟩
    rw [← hcm] at gc
    have ha := hANS.out
    rw [hvis] at ha
    simp only [] at ha
    rw [← hcm] at ha
    have HA : Hid _ := ha
    clear hm hv hbel hvis hg hrest hcm ha hANS
    simp only [Option.isSome_some]
    go_wp2_with fail
    go_ret
    exact ⟨ret_bool (by rw [HA.out, Bool.eq_iff_iff]), HB.out⟩

theorem mvalidate_out (a0 : Option Addr) (len cap : Nat) (bud : Int) (w : World) (h : len = 0 ∨ 256 < len) :
    Calls Fahg.prog 45 #[.slice a0 len cap, .int .u32 bud] w fun e w' => e = .returned (.bool false) ∧ w' = w := by
  rcases h with rfl | h
  · go_enter Fahg.func45, Fahg.ntmps45
    go_wp2_with fail
    go_ret
    exact ⟨rfl, rfl⟩
  · have h1 : ((len : Int) == 0) = false := by simp; omega
    have h2 : decide ((256 : Int) < len) = true := by simp; omega
    go_enter Fahg.func45, Fahg.ntmps45
    go_wp2_with fail
    go_ret
    exact ⟨rfl, rfl⟩
theorem validate_out (a0 : Option Addr) (len cap : Nat) (bud : Int) (w : World) (h : len = 0 ∨ 256 < len) :
    Calls Fahg.prog 44 #[.slice a0 len cap, .int .u32 bud] w fun e w' => e = .returned (.bool false) ∧ w' = w := by
  rcases h with rfl | h
  · go_enter Fahg.func44, Fahg.ntmps44
    go_wp2_with fail
    go_ret
    exact ⟨rfl, rfl⟩
  · have h1 : decide ((len : Int) < 1) = false := by simp; omega
    have h2 : decide ((256 : Int) < len) = true := by simp; omega
    go_enter Fahg.func44, Fahg.ntmps44
    go_wp2_with fail
    go_ret
    exact ⟨rfl, rfl⟩

theorem collectL_congr {f f' : Nat → Option (List Node)} : ∀ (ks : List Nat), (∀ k ∈ ks, f' k = f k) → collectL f' ks = collectL f ks := by
  intro ks
  induction ks with
  | nil => intro _; rfl
  | cons k ks ih => intro h; rw [collectL, collectL, h k List.mem_cons_self, ih fun k hk => h k (List.mem_cons_of_mem _ hk)]
theorem collect_congr {res res' : Nat → Option (Option Node)} (Q : Nat → Prop) (h1 : ∀ a, Q a → res' a = res a) (h2 : ∀ a nd, Q a → res a = some (some nd) → ∀ k ∈ nd.kids, Q k) : ∀ left a, Q a → collect res' left a = collect res left a := by
  intro left
  induction left with
  | zero => intro a ha; simp only [collect, h1 a ha]
  | succ left ih =>
    intro a ha
    simp only [collect, h1 a ha]
    cases hr : res a with
    | none => rfl
    | some o =>
      cases o with
      | none => rfl
      | some nd =>
        simp only []
        rw [collectL_congr nd.kids fun k hk => ih k (h2 a nd ha hr k hk)]
theorem nodeOf_cost (z : Int → Int) (p : WP) (h : p.ok) : (nodeOf z p).cost ≤ 2147483648 := by
  have := wCost_bd p h
  simp only [nodeOf]
  omega
/-- The model's answer is the stack machine's. -/
theorem vis_ans (z : Int → Int) (len bud : Nat) (hl : 1 ≤ len) (hl2 : len ≤ 256) (hz : ∀ i, 0 ≤ i → i < (len : Int) → U64 (z i)) :
    (match vis (resOf z len) 8 (fun i => i == 0, 0) 0 with | none => false | some s => decide (s.2 % 18446744073709551616 ≤ bud)) = ans (resOf z len) (fun i => i == 0) bud [(0, 1)] := by
  have hnode : ∀ a nd, a < len → resOf z len a = some (some nd) → (nd.n = 0 ∨ nd.lo + nd.n ≤ 256) ∧ nd.kids.length ≤ nd.n ∧ nd.cost ≤ 2147483648 ∧ ∀ k ∈ nd.kids, k < len := by
    intro a nd ha h
    have hsh := rsv_shape z len a (by omega) (by omega) hl2 hz
    unfold resOf at h
    cases hr : (rsv z len a).2 with
    | false => rw [if_pos hr] at h; cases h
    | true =>
      rw [if_neg (by rw [hr]; decide)] at h
      split at h
      · cases h
      · rename_i hk
        rcases hsh hr with hn | hs
        · rw [hn] at hk; exact absurd rfl hk
        · simp only [Option.some.injEq] at h
          subst h
          obtain ⟨_, _, n3, n4, n5⟩ := shape_node z hl2 hs
          exact ⟨by omega, n4, nodeOf_cost z _ (shape_ok hl2 hs).1, n5⟩
  have hcg := collect_congr (res := resOf z len) (res' := fun a => if a < len then resOf z len a else none) (fun a => a < len) (fun a ha => if_pos ha) (fun a nd ha h => (hnode a nd ha h).2.2.2) 8 0 (by omega)
  have hnode' : ∀ a nd, (if a < len then resOf z len a else none) = some (some nd) → (nd.n = 0 ∨ nd.lo + nd.n ≤ 256) ∧ nd.kids.length ≤ nd.n ∧ nd.cost ≤ 2147483648 := by
    intro a nd h
    split at h
    · rename_i ha
      obtain ⟨x1, x2, x3, _⟩ := hnode a nd ha h
      exact ⟨x1, x2, x3⟩
    · cases h
  rw [vis_take]
  have e1 : ans (resOf z len) (fun i => i == 0) bud [(0, 1)] = match collect (resOf z len) 8 0 with | none => false | some L => seqOk (fun i => i == 0) L && decide (costs L ≤ bud) := by
    unfold ans
    simp only [collectS]
    cases collect (resOf z len) (9 - 1) 0 <;> simp
  rw [e1]
  cases hc : collect (resOf z len) 8 0 with
  | none => rfl
  | some L =>
    simp only [take]
    cases hq : seqOk (fun i => i == 0) L with
    | false => simp
    | true =>
      rw [if_pos rfl]
      simp only [Bool.true_and, Nat.zero_add]
      rw [← hcg] at hc
      have b1 := collect_len _ (fun a nd h => (hnode' a nd h).2.1) 8 0 L hc
      have b2 := collect_all (fun nd => nd.n = 0 ∨ nd.lo + nd.n ≤ 256) _ (fun a nd h => (hnode' a nd h).1) 8 0 L hc
      have b3 := collect_all (fun nd => nd.cost ≤ 2147483648) _ (fun a nd h => (hnode' a nd h).2.2) 8 0 L hc
      have b4 := wordsL_cnt L _ hq b2
      have b5 := cnt_le (fun i => i == 0) 256
      have b6 := costs_le L 2147483648 b3
      have b7 : L.length * 2147483648 ≤ 257 * 2147483648 := Nat.mul_le_mul_right _ (by omega)
      rw [Nat.mod_eq_of_lt (by omega)]
end Go.Proofs.Ygcfah
