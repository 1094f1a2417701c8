/- wmodel.state.gather. -/
import Derived.Test.YgcfahMst
import Derived.Deep.LoopGhost
namespace Go.Proofs.Ygcfah
open Go.RowKit
set_option linter.unusedVariables false
set_option linter.unusedSimpArgs false

theorem i207a : (Fahg.prog.info? 207).bind (·.zero) = some (.agg #[.int .i64 0, .int .i64 0]) := by kernel_rfl
theorem i207b : (Fahg.prog.info? 207).map (·.size) = some 2 := by kernel_rfl
theorem i207c : (Fahg.prog.info? 207).map (·.bytes) = some 16 := by kernel_rfl
theorem info207 : ∃ i, Fahg.prog.info? 207 = some i ∧ i.zero = some (.agg #[.int .i64 0, .int .i64 0]) ∧ i.size = 2 ∧ i.bytes = 16 := by
  have a := i207a
  have b := i207b
  have c := i207c
  cases hi : Fahg.prog.info? 207 with
  | none => rw [hi] at b; simp at b
  | some i =>
    rw [hi] at a b c
    exact ⟨i, rfl, by simpa using a, by simpa using b, by simpa using c⟩
/-- append(s.seen, span{lo, hi}), whose one element lies in a new block. -/
theorem app_span (B : Nat) (seen : List (Nat × Nat)) (s cap : Nat) (cur : Array Value) (lo hi : Nat) (w : World) (h1 : B ≤ s) (h2 : w.heap[s]? = some (.cells cur 207 (0, 0))) (h3 : seen.length ≤ cap) (h4 : cap ≤ maxLen) (h5 : cur.size = cap * 2) (h6 : cur.toList.take (seen.length * 2) = spanCells seen) (hlen : seen.length ≤ 256) (hB : B ≤ w.heap.size) :
    ∃ s' cap' cur' w', (Builtin.append_ #[208, 208] 208 #[.slice (some ⟨s, 0, none⟩) seen.length cap, .slice (some ⟨w.heap.size, 0, none⟩) 1 1]).run Fahg.prog (w.alloc (.cells #[.int .i64 lo, .int .i64 hi] 207)) = .ok (.slice (some ⟨s', 0, none⟩) (seen.length + 1) cap') w' ∧
      (w.alloc (.cells #[.int .i64 lo, .int .i64 hi] 207)).grownBy w' (some s) ∧ B ≤ s' ∧ w'.heap[s']? = some (.cells cur' 207 (0, 0)) ∧ seen.length + 1 ≤ cap' ∧ cap' ≤ maxLen ∧ cur'.size = cap' * 2 ∧ cur'.toList.take ((seen.length + 1) * 2) = spanCells (seen ++ [(lo, hi)]) := by
  obtain ⟨i, hi', hz, hsz, hby⟩ := info207
  have hs : s < w.heap.size := (Array.getElem?_eq_some_iff.1 h2).1
  have h2' : (w.alloc (.cells #[.int .i64 lo, .int .i64 hi] 207)).heap[s]? = some (.cells cur 207 (0, 0)) := (heap_alloc_old w _ hs).trans h2
  have hm : (256 : Nat) + 1 ≤ maxLen := by decide
  obtain ⟨v', w', hrun, hown, hgrow, hnil⟩ := run_append_own (P := Fahg.prog) (w.alloc (.cells #[.int .i64 lo, .int .i64 hi] 207)) B 208 208 207 i (.agg #[.int .i64 0, .int .i64 0]) 2 16 Fahg.underlying208 hi' hz hsz hby rfl (by decide) (.slice (some ⟨s, 0, none⟩) seen.length cap) seen.length (spanCells seen) ⟨spanCells_length seen, .inr ⟨s, cap, cur, rfl, by omega, h2', h3, h4, h5, h6⟩⟩ ⟨w.heap.size, 0, none⟩ 1 1
    [.int .i64 lo, .int .i64 hi] rfl (by
      intro j u hj
      rw [show (⟨w.heap.size, 0, none⟩ : Addr).add j = ⟨w.heap.size, j, none⟩ from by unfold Addr.add; split <;> simp_all]
      match j, hj with
      | 0, hj => simp only [List.getElem?_cons_zero, Option.some.injEq] at hj; subst hj; exact World.cell?_alloc_at _ _ _ _ rfl
      | 1, hj => simp only [List.getElem?_cons_succ, List.getElem?_cons_zero, Option.some.injEq] at hj; subst hj; exact World.cell?_alloc_at _ _ _ _ rfl
      | j + 2, hj => simp at hj) (by simp [Value.oneCell']) (by omega) (by omega) (by simp; omega)
  rcases hown with ⟨hlen', ⟨hv, h0⟩ | ⟨g, cap', cur', hv, hg, hh, hc1, hc2, hc3, hc4⟩⟩
  · omega
  · subst hv
    refine ⟨g, cap', cur', w', hrun, hgrow, hg, hh, hc1, hc2, hc3, ?_⟩
    rw [hc4]
    simp [spanCells]
/-- An append whose run is known. -/
theorem wpList_app_run {P : Program} {w : World} {ops : Array Oper} {rest : List Oper} {o : Oper} {a : Act} {Q : Exit → Act → World → Prop} (hgd : o.guard = none) (s x : Operand) (t : TypeId)
    (ho : o.op = .call { callee := .builtin .append, args := #[s, x], argTypes := #[t, t] }) (v1 v2 v' : Value) (w' : World) (hs : a.eval s = v1) (hx : a.eval x = v2)
    (hr : (Builtin.append_ #[t, t] o.type #[v1, v2]).run P w = .ok v' w') (h : wpList P ops Q rest (a.put o.dst v') w') : wpList P ops Q (o :: rest) a w :=
  wpList_plain hgd fun _ hK => by
    unfold Oper.wp execOp
    simp only [ho, resolve, invoke, builtin, Sem.run_bind, Sem.run_pure, Result.andThen_ok, List.map_toArray, List.map_cons, List.map_nil, hs, hx, hr]
    exact hK _ _ h
set_option maxRecDepth 100000 in
set_option maxHeartbeats 1000000 in
theorem gather_any (B g : Nat) (S : Nat → Bool) (cost lo n : Nat) (hl : lo ≤ 256) (hn : lo + n ≤ 513) (hb : n = 0 ∨ lo + n ≤ 256) (w : World) (hBg : B ≤ g) (hw : Mst w B g S cost) :
    Calls Fahg.prog 150 #[.pointer (some ⟨g, 0, none⟩), .int .i64 lo, .int .i64 n] w fun e w' => e = .returned (.bool (free S lo n)) ∧ Mv B g w w' ∧ (free S lo n = true → Mst w' B g (join S lo n) cost) := by
  obtain ⟨s, cap, cur, seen, hg, h1, h2, h3, h4, h5, h6, h7⟩ := hw.st
  have c0 : w.cell? ⟨g, 0, none⟩ = some (.slice (some ⟨s, 0, none⟩) seen.length cap) := cell_heap hg
  have hgl := hw.lt
  have hlen : seen.length ≤ 256 := by have := h7.n; omega
  have hcell : Hid (∀ i (h : i < seen.length), w.cell? ⟨s, i * 2, none⟩ = some (.int .i64 seen[i].1) ∧ w.cell? ⟨s, i * 2 + 1, none⟩ = some (.int .i64 seen[i].2)) := by
    intro i h
    have k := spanCells_get seen i h
    rw [← h6] at k
    rw [List.getElem?_take_of_lt (by omega), List.getElem?_take_of_lt (by omega)] at k
    rw [cell_heap h2, cell_heap h2]
    simpa using k
  have hfr : free S lo n = !(seen.any (hit lo n)) := hit_free h7 lo n
  have HFR : Hid _ := hfr
  clear hfr
  go_enter Fahg.func150, Fahg.ntmps150
  go_wp2_with fail
  go_loopg [14] seen.length (fun k I wr => ∃ i : Nat, i + k = seen.length ∧ I = .int .i64 (i : Nat) ∧ Below w.heap.size w wr ∧ (seen.take i).any (hit lo n) = false)
  case atStart => exact ⟨0, by omega, rfl, Below.refl _ _, by simp⟩
  case round =>
    obtain ⟨i, hi, rfl, hB, hA⟩ := hrel
    by_cases hlt : i < seen.length
    · have k := hcell.out i hlt
      have hsl : s < w.heap.size := (Array.getElem?_eq_some_iff.1 h2).1
      have k1 : wr.cell? ⟨s, i * 2, none⟩ = some (.int .i64 seen[i].1) := (hB.cell (p := ⟨s, i * 2, none⟩) hsl).trans k.1
      have k2 : wr.cell? ⟨s, i * 2 + 1, none⟩ = some (.int .i64 seen[i].2) := (hB.cell (p := ⟨s, i * 2 + 1, none⟩) hsl).trans k.2
      have hok := h7.ok _ (List.getElem_mem hlt)
      have hany : (seen.take (i + 1)).any (hit lo n) = hit lo n seen[i] := by
        rw [List.take_succ_eq_append_getElem hlt, List.any_append, hA]; simp
      have hmem := List.getElem_mem hlt
      have HB : Hid _ := hB
      generalize seen[i] = o at *
      obtain ⟨o1, o2⟩ := o
      simp only at k1 k2 hok
      have Hany : Hid _ := hany
      have HA : Hid _ := hA
      clear hB k hany hA hg h2 h5 h6 hw
      by_cases hh : hit lo n (o1, o2) = true
      · have hh2 := hh
        simp only [hit, Bool.and_eq_true, decide_eq_true_eq] at hh2
        have hfa : free S lo n = false := by
          rw [HFR.out, List.any_eq_true.2 ⟨_, hmem, hh⟩]; rfl
        have HFA : Hid _ := hfa
        clear hfa hh
        go_wp2_with fail
        go_ret
        have hfa := HFA.out
        exact ⟨ret_bool hfa.symm, .of_below (below_alloc HB.out (Nat.le_refl _) _), fun h => absurd (hfa.symm.trans h) (by decide)⟩
      · have hh2 : ¬ (0 < n) ∨ ¬ (lo < o2) ∨ ¬ (o1 < lo + n) := by
          have hh3 := hh
          simp only [hit, Bool.and_eq_true, decide_eq_true_eq] at hh3
          omega
        have HA2 : Hid ((seen.take (i + 1)).any (hit lo n) = false) := Hany.out.trans (by simpa using hh)
        clear hh Hany HA
        have hh4 : ¬ (0 < n) ∨ (0 < n ∧ ¬ (lo < o2)) ∨ (0 < n ∧ lo < o2 ∧ ¬ (o1 < lo + n)) := by omega
        clear hh2
        rcases hh4 with h0 | h0 | h0
        all_goals
          have h0' : 0 = 0 := rfl
          go_wp2_with fail
          go_roundg (gk - 1)
          case rel => exact ⟨i + 1, by omega, by simp, below_alloc HB.out (Nat.le_refl _) _, HA2.out⟩
          case measure => omega
    · have hie : i = seen.length := by omega
      subst hie
      have hfa : free S lo n = true := by
        rw [HFR.out]; rw [List.take_length] at hA; rw [hA]; rfl
      have c1 : wr.cell? ⟨g, 0, none⟩ = some (.slice (some ⟨s, 0, none⟩) seen.length cap) := (hB.cell (p := ⟨g, 0, none⟩) hgl).trans c0
      have f1 : wr.frozen? ⟨g, 0, none⟩ = false := (hB.frozen (p := ⟨g, 0, none⟩) hgl).trans (frozen_heap hg)
      have hW : Mst wr B g S cost := hw.below hB
      by_cases h0 : n = 0
      · subst h0
        have HB : Hid _ := hB
        have HFA : Hid _ := hfa
        have HW : Hid _ := hW
        clear hB hA hg h2 h5 h6 hw hfa hW
        go_wp2_with fail
        go_ret
        exact ⟨ret_bool HFA.out.symm, .of_below HB.out, fun _ => by rw [join_zero]; exact HW.out⟩
      · have h0' : 0 < n := by omega
        have hb' : lo + n ≤ 256 := by omega
        have hsl : s < w.heap.size := (Array.getElem?_eq_some_iff.1 h2).1
        have g2 : wr.heap[g]? = some (.cells #[.slice (some ⟨s, 0, none⟩) seen.length cap, .int .u64 ((cost % 18446744073709551616 : Nat) : Int)] 210 (0, 0)) := (hB.block g hgl).trans hg
        have s2 : wr.heap[s]? = some (.cells cur 207 (0, 0)) := (hB.block s hsl).trans h2
        have hsz : w.heap.size ≤ wr.heap.size := hB.size
        obtain ⟨s', cap', cur', w2, hrun, hgrow, q1, q2, q3, q4, q5, q6⟩ := app_span B seen s cap cur lo (lo + n) wr h1 s2 h3 h4 h5 h6 hlen (by omega)
        rw [show ((lo + n : Nat) : Int) = (lo : Int) + n from by push_cast; rfl] at hrun hgrow
        have hgs : g ≠ s := fun e => by rw [e, s2] at g2; injection g2 with g2; injection g2 with g2 g3; exact absurd g3 (by decide)
        have g3 : (wr.alloc (.cells #[.int .i64 lo, .int .i64 (lo + n)] 207)).heap[g]? = some (.cells #[.slice (some ⟨s, 0, none⟩) seen.length cap, .int .u64 ((cost % 18446744073709551616 : Nat) : Int)] 210 (0, 0)) := (heap_alloc_old wr _ (by omega)).trans g2
        have g4 := (hgrow.block g (by simp; omega) (by simpa using hgs)).trans g3
        have c4 : w2.cell? ⟨g, 0, none⟩ = some (.slice (some ⟨s, 0, none⟩) seen.length cap) := cell_heap g4
        have f4 : w2.frozen? ⟨g, 0, none⟩ = false := frozen_heap g4
        have hgs' : s' ≠ g := fun e => by rw [e, g4] at q2; injection q2 with q2; injection q2 with q2 q7; exact absurd q7 (by decide)
        have hM : Mst (w2.setCell ⟨g, 0, none⟩ (.slice (some ⟨s', 0, none⟩) ((seen.length + 1 : Nat) : Nat) cap')) B g (join S lo n) cost := by
          refine ⟨s', cap', cur', seen ++ [(lo, lo + n)], ?_, q1, ?_, by simpa using q3, q4, q5, by simpa using q6, h7.join h0' hb' hfa⟩
          · rw [(heap_set2 g4 _).1]; simp
          · exact (heap_set_other _ (by simpa using hgs')).trans q2
        have hV : Mv B g w (w2.setCell ⟨g, 0, none⟩ (.slice (some ⟨s', 0, none⟩) ((seen.length + 1 : Nat) : Nat) cap')) := by
          refine ⟨hgrow.os.trans hB.os, hgrow.tape.trans hB.tape, hgrow.output.trans hB.output, by have := hgrow.size; simp at this ⊢; omega, fun k k1 k2 k3 => ?_⟩
          rw [heap_set_other _ (by simpa using k2)]
          have hks : k ≠ s := by
            rintro rfl
            rcases k3 with k3 | k3
            · omega
            · exact k3 _ _ h2
          rw [hgrow.block k (by simp; omega) (by simpa using hks), heap_alloc_old wr _ (by omega)]
          exact hB.block k k1
        have HRUN : Hid _ := hrun
        have HM : Hid _ := hM
        have HV : Hid _ := hV
        have HFA : Hid _ := hfa
        clear hB hA hg h2 h5 h6 hw hfa hW hb h0 g2 s2 hrun hgrow q1 q2 q3 q4 q5 q6 g3 g4 hM hV hgs hgs'
        go_wp2_with (at_builtin; refine wpList_app_run rfl _ _ _ rfl _ _ _ _ rfl rfl HRUN.out ?_)
        go_ret
        exact ⟨ret_bool HFA.out.symm, HV.out, fun _ => HM.out⟩
end Go.Proofs.Ygcfah
