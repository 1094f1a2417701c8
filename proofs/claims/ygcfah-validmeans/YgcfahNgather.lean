/- vmodel.gather. -/
import Derived.Test.YgcfahNmst
import Derived.Deep.LoopGhost
import Derived.Deep.RegionLaw
namespace Go.Proofs.Ygcfah
open Go.RowKit
set_option linter.unusedVariables false
set_option linter.unusedSimpArgs false
/-- An append whose run is known, as one step of a region that draws. -/
theorem step_app_run {P : Program} {ops : Array Oper} {o : Oper} {a : Act} {w : World} {K : Act → World → Prop} {Q : Exit → Act → World → Prop} {E : Prop}
    (hg : o.guard = none) (s x : Operand) (t : TypeId) (hop : o.op = Op.call { callee := Callee.builtin Builtin.append, args := #[s, x], argTypes := #[t, t] }) (v1 v2 v' : Value) (w' : World)
    (hs : a.eval s = v1) (hx : a.eval x = v2) (hr : (Builtin.append_ #[t, t] o.type #[v1, v2]).run P w = .ok v' w') (hK : K (a.put o.dst v') w') :
    if Region.wanted o (yielded ops a.tmps) = true then Oper.wp P o a w K Q else E := by
  have hw : Region.wanted o (yielded ops a.tmps) = true := by simp [Region.wanted, hg]
  rw [if_pos hw]
  unfold Oper.wp
  simp [execOp, hop, resolve, invoke, builtin, hs, hx, hr, Result.andThen]
  exact hK
set_option maxRecDepth 100000 in
set_option maxHeartbeats 2000000 in
theorem ngather_x (B g : Nat) (S : Nat → Bool) (lo n : Nat) (p1 p2 p3 p4 p5 p6 : Int) (hp2 : 0 ≤ p2 ∧ p2 ≤ 256) (HW : Hid (∀ w, Calls Fahg.prog 95 #[WP.nval ⟨p1, p2, p3, p4, p5, p6⟩] w fun e w' => e = .returned (.int .u16 n) ∧ ∃ c nq, w' = (w.alloc (.cells c 34)).drewN nq))
    (h7 : (p1 = 2 ∧ p5 = 7 ∧ (lo : Int) = p2 - 1) ∨ (p1 = 1 ∧ (lo : Int) = p2) ∨ (p1 = 2 ∧ (p5 == 7) = false ∧ (lo : Int) = p2)) (hl : lo ≤ 256) (hn : n ≤ 257) (hb : n = 0 ∨ lo + n ≤ 256) (w : World) (hBg : B ≤ g) (hw : NMst w B g S) :
    Calls Fahg.prog 142 #[WP.nval ⟨p1, p2, p3, p4, p5, p6⟩, .pointer (some ⟨g, 0, none⟩)] w fun e w' => e = .returned (.bool (free S lo n)) ∧ NMv B g w w' ∧ (free S lo n = true → NMst w' B g (join S lo n)) := by
  simp only [WP.nval] at HW ⊢
  by_cases hn0 : n = 0
  · have hfa : free S lo n = true := by rw [hn0]; simp [free]
    have HFA : Hid _ := hfa
    have hj : join S lo n = S := by rw [hn0]; exact join_zero S lo
    have HJ : Hid _ := hj
    clear hfa hj hb
    go_enter Fahg.func142, Fahg.ntmps142
    go_wp2_with fail
    refine (HW.out _).mono ?_
    rintro e w1 ⟨rfl, c, nq, rfl⟩
    go_wp2_with fail
    go_ret
    have hbel : Below w.heap.size w (((w.alloc (Obj.cells #[Value.int IntKind.u8 p1, Value.int IntKind.u16 p2, Value.int IntKind.u8 p3, Value.int IntKind.u8 p4, Value.int IntKind.u8 p5, Value.int IntKind.u16 p6] 34)).alloc (Obj.cells c 34)).drewN nq) := below_drewN' (below_alloc (below_alloc (Below.refl _ _) (Nat.le_refl _) _) (Nat.le_refl _) _) _
    exact ⟨ret_bool HFA.out.symm, .of_below hbel, fun _ => by rw [HJ.out]; exact hw.below hbel⟩
  · obtain ⟨s, cap, cur, seen, hg, h1, h2, h3, h4, h5, h6, h8⟩ := hw.st
    have c0 : w.cell? ⟨g, 0, none⟩ = some (.slice (some ⟨s, 0, none⟩) seen.length cap) := cell_heap hg
    have hgl := hw.lt
    have hgl1 : g < w.heap.size + 1 := by omega
    have hgl2 : g < w.heap.size + 1 + 1 := by omega
    have hsl : s < w.heap.size := (Array.getElem?_eq_some_iff.1 h2).1
    have hlen : seen.length ≤ 256 := by have := h8.n; omega
    have hb' : lo + n ≤ 256 := by omega
    have hn' : 0 < n := by omega
    have hcell : Hid (∀ i (h : i < seen.length), w.cell? ⟨s, i * 2, none⟩ = some (.int .i64 seen[i].1) ∧ w.cell? ⟨s, i * 2 + 1, none⟩ = some (.int .i64 seen[i].2)) := by
      intro i h
      have k := spanCells_get seen i h
      rw [← h6] at k
      rw [List.getElem?_take_of_lt (by omega), List.getElem?_take_of_lt (by omega)] at k
      rw [cell_heap h2, cell_heap h2]
      simpa using k
    have HFR : Hid (free S lo n = !(seen.any (hit lo n))) := hit_free h8 lo n
    have HM : Hid _ := hw
    have HG : Hid _ := hg
    have HS : Hid _ := h2
    have H6 : Hid _ := h6
    have H8 : Hid _ := h8
    have H5 : Hid _ := h5
    clear hg h2 h6 h8 h5 hw hb hn0
    rcases h7 with ⟨rfl, rfl, hlo⟩ | ⟨rfl, hlo⟩ | ⟨rfl, h5, hlo⟩
    · go_enter Fahg.func142, Fahg.ntmps142
      go_wp2_with fail
      refine (HW.out _).mono ?_
      rintro e w1 ⟨rfl, c, nq, rfl⟩
      go_wp2_with fail
      have hBW : Below w.heap.size w ((((w.alloc (Obj.cells #[Value.int IntKind.u8 2, Value.int IntKind.u16 p2, Value.int IntKind.u8 p3, Value.int IntKind.u8 p4, Value.int IntKind.u8 7, Value.int IntKind.u16 p6] 34)).alloc (Obj.cells c 34)).drewN nq).alloc (Obj.cells #[Value.int IntKind.i64 (p2 - 1), Value.int IntKind.i64 (p2 + ↑n - 1)] 169)) := below_alloc (below_drewN' (below_alloc (below_alloc (Below.refl _ _) (Nat.le_refl _) _) (Nat.le_refl _) _) _) (Nat.le_refl _) _
      have x0 : ((((w.alloc (Obj.cells #[Value.int IntKind.u8 2, Value.int IntKind.u16 p2, Value.int IntKind.u8 p3, Value.int IntKind.u8 p4, Value.int IntKind.u8 7, Value.int IntKind.u16 p6] 34)).alloc (Obj.cells c 34)).drewN nq).alloc (Obj.cells #[Value.int IntKind.i64 (p2 - 1), Value.int IntKind.i64 (p2 + ↑n - 1)] 169)).cell? ⟨w.heap.size + 1 + 1, 0, none⟩ = some (.int .i64 lo) := (World.cell?_alloc_at _ _ _ _ (by simp)).trans (by simp; omega)
      have x1 : ((((w.alloc (Obj.cells #[Value.int IntKind.u8 2, Value.int IntKind.u16 p2, Value.int IntKind.u8 p3, Value.int IntKind.u8 p4, Value.int IntKind.u8 7, Value.int IntKind.u16 p6] 34)).alloc (Obj.cells c 34)).drewN nq).alloc (Obj.cells #[Value.int IntKind.i64 (p2 - 1), Value.int IntKind.i64 (p2 + ↑n - 1)] 169)).cell? ⟨w.heap.size + 1 + 1, 1, none⟩ = some (.int .i64 ((lo : Int) + n)) := (World.cell?_alloc_at _ _ _ _ (by simp)).trans (by simp; omega)
      have hXZ : w.heap.size + 1 + 1 < ((((w.alloc (Obj.cells #[Value.int IntKind.u8 2, Value.int IntKind.u16 p2, Value.int IntKind.u8 p3, Value.int IntKind.u8 p4, Value.int IntKind.u8 7, Value.int IntKind.u16 p6] 34)).alloc (Obj.cells c 34)).drewN nq).alloc (Obj.cells #[Value.int IntKind.i64 (p2 - 1), Value.int IntKind.i64 (p2 + ↑n - 1)] 169)).heap.size := by simp
      generalize ((((w.alloc (Obj.cells #[Value.int IntKind.u8 2, Value.int IntKind.u16 p2, Value.int IntKind.u8 p3, Value.int IntKind.u8 p4, Value.int IntKind.u8 7, Value.int IntKind.u16 p6] 34)).alloc (Obj.cells c 34)).drewN nq).alloc (Obj.cells #[Value.int IntKind.i64 (p2 - 1), Value.int IntKind.i64 (p2 + ↑n - 1)] 169)) = W at *
      clear HW hlo
      go_loopg [43] seen.length (fun k I wr => ∃ i : Nat, i + k = seen.length ∧ I = .int .i64 (i : Nat) ∧ Below W.heap.size W wr ∧ (seen.take i).any (hit lo n) = false)
      case atStart => exact ⟨0, by omega, rfl, Below.refl _ _, by simp⟩
      case round =>
        obtain ⟨i, hi, rfl, hB, hA⟩ := hrel
        have hWs := hBW.size
        have y0 := (hB.cell (p := ⟨w.heap.size + 1 + 1, 0, none⟩) hXZ).trans x0
        have y1 := (hB.cell (p := ⟨w.heap.size + 1 + 1, 1, none⟩) hXZ).trans x1
        have hXW : w.heap.size + 1 + 1 < wr.heap.size := Nat.lt_of_lt_of_le hXZ hB.size
        have hBB : Below w.heap.size w wr := hBW.trans (hB.mono hWs)
        by_cases hlt : i < seen.length
        · have k := hcell.out i hlt
          have k1 : wr.cell? ⟨s, i * 2, none⟩ = some (.int .i64 seen[i].1) := (hBB.cell (p := ⟨s, i * 2, none⟩) hsl).trans k.1
          have k2 : wr.cell? ⟨s, i * 2 + 1, none⟩ = some (.int .i64 seen[i].2) := (hBB.cell (p := ⟨s, i * 2 + 1, none⟩) hsl).trans k.2
          have hok := H8.out.ok _ (List.getElem_mem hlt)
          have hany : (seen.take (i + 1)).any (hit lo n) = hit lo n seen[i] := by
            rw [List.take_succ_eq_append_getElem hlt, List.any_append, hA]; simp
          have hmem := List.getElem_mem hlt
          have HB : Hid _ := hB
          have HBB : Hid _ := hBB
          generalize seen[i] = o at *
          obtain ⟨o1, o2⟩ := o
          simp only at k1 k2 hok
          have Hany : Hid _ := hany
          clear hB k hany hA x0 x1 hBB
          by_cases hh : hit lo n (o1, o2) = true
          · have hh2 := hh
            simp only [hit, Bool.and_eq_true, decide_eq_true_eq] at hh2
            have hfa : free S lo n = false := by
              rw [HFR.out, List.any_eq_true.2 ⟨_, hmem, hh⟩]; rfl
            have HFA : Hid _ := hfa
            clear hfa hh
            go_wp2_with fail
            go_ret
            have hfa := HFA.out
            exact ⟨ret_bool hfa.symm, .of_below (below_alloc HBB.out (Nat.le_refl _) _), fun h => absurd (hfa.symm.trans h) (by decide)⟩
          · have hh4 : ¬ (lo < o2) ∨ (lo < o2 ∧ ¬ (o1 < lo + n)) := by
              have hh3 := hh
              simp only [hit, Bool.and_eq_true, decide_eq_true_eq] at hh3
              omega
            have HA2 : Hid ((seen.take (i + 1)).any (hit lo n) = false) := Hany.out.trans (by simpa using hh)
            clear hh Hany
            rcases hh4 with h0 | h0
            all_goals
              go_wp2_with fail
              go_roundg (gk - 1)
              case rel => exact ⟨i + 1, by omega, by simp, below_alloc HB.out (Nat.le_refl _) _, HA2.out⟩
              case measure => omega
        · have hie : i = seen.length := by omega
          subst hie
          have hfa : free S lo n = true := by
            rw [HFR.out]; rw [List.take_length] at hA; rw [hA]; rfl
          have hg := HG.out
          have h2 := HS.out
          have c1 : wr.cell? ⟨g, 0, none⟩ = some (.slice (some ⟨s, 0, none⟩) seen.length cap) := (hBB.cell (p := ⟨g, 0, none⟩) hgl).trans c0
          have g2 : wr.heap[g]? = some (.cells #[.slice (some ⟨s, 0, none⟩) seen.length cap] 170 (0, 0)) := (hBB.block g hgl).trans hg
          have s2 : wr.heap[s]? = some (.cells cur 169 (0, 0)) := (hBB.block s hsl).trans h2
          have hsz : w.heap.size ≤ wr.heap.size := hBB.size
          obtain ⟨s', cap', cur', w2, hrun, hgrow, q1, q2, q3, q4, q5, q6⟩ := napp_span B seen s cap cur lo (lo + n) wr.drew h1 s2 h3 h4 H5.out H6.out hlen (by show B ≤ wr.heap.size; omega)
          rw [show ((lo + n : Nat) : Int) = (lo : Int) + n from by push_cast; rfl] at hrun hgrow
          have hgs : g ≠ s := fun e => by rw [e, s2] at g2; injection g2 with g2; injection g2 with g2 g3; exact absurd g3 (by decide)
          have g3 : (wr.drew.alloc (.cells #[.int .i64 lo, .int .i64 (lo + n)] 169)).heap[g]? = some (.cells #[.slice (some ⟨s, 0, none⟩) seen.length cap] 170 (0, 0)) := (heap_alloc_old wr.drew _ (show g < wr.heap.size by omega)).trans g2
          have g4 := (hgrow.block g (by simp; omega) (by simpa using hgs)).trans g3
          have c4 : w2.cell? ⟨g, 0, none⟩ = some (.slice (some ⟨s, 0, none⟩) seen.length cap) := cell_heap g4
          have f4 : w2.frozen? ⟨g, 0, none⟩ = false := frozen_heap g4
          have hgs' : s' ≠ g := fun e => by rw [e, g4] at q2; injection q2 with q2; injection q2 with q2 q7; exact absurd q7 (by decide)
          have hM : NMst (w2.setCell ⟨g, 0, none⟩ (.slice (some ⟨s', 0, none⟩) ((seen.length + 1 : Nat) : Nat) cap')) B g (join S lo n) := by
            refine ⟨s', cap', cur', seen ++ [(lo, lo + n)], ?_, q1, ?_, by simpa using q3, q4, q5, by simpa using q6, H8.out.join hn' hb' hfa⟩
            · rw [heap_set1 g4 _]; simp
            · exact (heap_set_other _ (by simpa using hgs')).trans q2
          have hV : NMv B g w (w2.setCell ⟨g, 0, none⟩ (.slice (some ⟨s', 0, none⟩) ((seen.length + 1 : Nat) : Nat) cap')) := by
            refine ⟨hgrow.os.trans hBB.os, hgrow.tape.trans hBB.tape, hgrow.output.trans hBB.output, by have := hgrow.size; simp at this ⊢; omega, fun k k1 k2 k3 => ?_⟩
            rw [heap_set_other _ (by simpa using k2)]
            have hks : k ≠ s := by
              rintro rfl
              rcases k3 with k3 | k3
              · omega
              · exact k3 _ _ h2
            rw [hgrow.block k (by simp; omega) (by simpa using hks), heap_alloc_old wr.drew _ (show k < wr.heap.size by omega)]
            exact hBB.block k k1
          have hgw : g < wr.heap.size := by omega
          rw [show (wr.drew.alloc (Obj.cells #[Value.int IntKind.i64 ↑lo, Value.int IntKind.i64 (↑lo + ↑n)] 169)) = (wr.alloc (Obj.cells #[Value.int IntKind.i64 ↑lo, Value.int IntKind.i64 (↑lo + ↑n)] 169)).drew from rfl, show wr.drew.heap.size = wr.heap.size from rfl] at hrun
          have HRUN : Hid _ := hrun
          have HM2 : Hid _ := hM
          have HV : Hid _ := hV
          have HFA : Hid _ := hfa
          clear hB hA hg h2 hfa g2 s2 hrun hgrow q1 q2 q3 q4 q5 q6 g3 g4 hM hV hgs hgs' hBB x0 x1
          go_wp2_with fail
          go_region_law (refine step_app_run rfl (.tmp 63) (.tmp 65) 170 rfl _ _ _ _ (by simp [Act.eval, Act.put]) (by simp [Act.eval, Act.put]) HRUN.out ?_)
          all_goals go_wp2_with fail
          all_goals go_ret
          all_goals exact ⟨ret_bool HFA.out.symm, HV.out, fun _ => HM2.out⟩
    · go_enter Fahg.func142, Fahg.ntmps142
      go_wp2_with fail
      refine (HW.out _).mono ?_
      rintro e w1 ⟨rfl, c, nq, rfl⟩
      go_wp2_with fail
      have hBW : Below w.heap.size w ((((w.alloc (Obj.cells #[Value.int IntKind.u8 1, Value.int IntKind.u16 p2, Value.int IntKind.u8 p3, Value.int IntKind.u8 p4, Value.int IntKind.u8 p5, Value.int IntKind.u16 p6] 34)).alloc (Obj.cells c 34)).drewN nq).alloc (Obj.cells #[Value.int IntKind.i64 p2, Value.int IntKind.i64 (p2 + ↑n)] 169)) := below_alloc (below_drewN' (below_alloc (below_alloc (Below.refl _ _) (Nat.le_refl _) _) (Nat.le_refl _) _) _) (Nat.le_refl _) _
      have x0 : ((((w.alloc (Obj.cells #[Value.int IntKind.u8 1, Value.int IntKind.u16 p2, Value.int IntKind.u8 p3, Value.int IntKind.u8 p4, Value.int IntKind.u8 p5, Value.int IntKind.u16 p6] 34)).alloc (Obj.cells c 34)).drewN nq).alloc (Obj.cells #[Value.int IntKind.i64 p2, Value.int IntKind.i64 (p2 + ↑n)] 169)).cell? ⟨w.heap.size + 1 + 1, 0, none⟩ = some (.int .i64 lo) := (World.cell?_alloc_at _ _ _ _ (by simp)).trans (by simp; omega)
      have x1 : ((((w.alloc (Obj.cells #[Value.int IntKind.u8 1, Value.int IntKind.u16 p2, Value.int IntKind.u8 p3, Value.int IntKind.u8 p4, Value.int IntKind.u8 p5, Value.int IntKind.u16 p6] 34)).alloc (Obj.cells c 34)).drewN nq).alloc (Obj.cells #[Value.int IntKind.i64 p2, Value.int IntKind.i64 (p2 + ↑n)] 169)).cell? ⟨w.heap.size + 1 + 1, 1, none⟩ = some (.int .i64 ((lo : Int) + n)) := (World.cell?_alloc_at _ _ _ _ (by simp)).trans (by simp; omega)
      have hXZ : w.heap.size + 1 + 1 < ((((w.alloc (Obj.cells #[Value.int IntKind.u8 1, Value.int IntKind.u16 p2, Value.int IntKind.u8 p3, Value.int IntKind.u8 p4, Value.int IntKind.u8 p5, Value.int IntKind.u16 p6] 34)).alloc (Obj.cells c 34)).drewN nq).alloc (Obj.cells #[Value.int IntKind.i64 p2, Value.int IntKind.i64 (p2 + ↑n)] 169)).heap.size := by simp
      generalize ((((w.alloc (Obj.cells #[Value.int IntKind.u8 1, Value.int IntKind.u16 p2, Value.int IntKind.u8 p3, Value.int IntKind.u8 p4, Value.int IntKind.u8 p5, Value.int IntKind.u16 p6] 34)).alloc (Obj.cells c 34)).drewN nq).alloc (Obj.cells #[Value.int IntKind.i64 p2, Value.int IntKind.i64 (p2 + ↑n)] 169)) = W at *
      clear HW hlo
      go_loopg [43] seen.length (fun k I wr => ∃ i : Nat, i + k = seen.length ∧ I = .int .i64 (i : Nat) ∧ Below W.heap.size W wr ∧ (seen.take i).any (hit lo n) = false)
      case atStart => exact ⟨0, by omega, rfl, Below.refl _ _, by simp⟩
      case round =>
        obtain ⟨i, hi, rfl, hB, hA⟩ := hrel
        have hWs := hBW.size
        have y0 := (hB.cell (p := ⟨w.heap.size + 1 + 1, 0, none⟩) hXZ).trans x0
        have y1 := (hB.cell (p := ⟨w.heap.size + 1 + 1, 1, none⟩) hXZ).trans x1
        have hXW : w.heap.size + 1 + 1 < wr.heap.size := Nat.lt_of_lt_of_le hXZ hB.size
        have hBB : Below w.heap.size w wr := hBW.trans (hB.mono hWs)
        by_cases hlt : i < seen.length
        · have k := hcell.out i hlt
          have k1 : wr.cell? ⟨s, i * 2, none⟩ = some (.int .i64 seen[i].1) := (hBB.cell (p := ⟨s, i * 2, none⟩) hsl).trans k.1
          have k2 : wr.cell? ⟨s, i * 2 + 1, none⟩ = some (.int .i64 seen[i].2) := (hBB.cell (p := ⟨s, i * 2 + 1, none⟩) hsl).trans k.2
          have hok := H8.out.ok _ (List.getElem_mem hlt)
          have hany : (seen.take (i + 1)).any (hit lo n) = hit lo n seen[i] := by
            rw [List.take_succ_eq_append_getElem hlt, List.any_append, hA]; simp
          have hmem := List.getElem_mem hlt
          have HB : Hid _ := hB
          have HBB : Hid _ := hBB
          generalize seen[i] = o at *
          obtain ⟨o1, o2⟩ := o
          simp only at k1 k2 hok
          have Hany : Hid _ := hany
          clear hB k hany hA x0 x1 hBB
          by_cases hh : hit lo n (o1, o2) = true
          · have hh2 := hh
            simp only [hit, Bool.and_eq_true, decide_eq_true_eq] at hh2
            have hfa : free S lo n = false := by
              rw [HFR.out, List.any_eq_true.2 ⟨_, hmem, hh⟩]; rfl
            have HFA : Hid _ := hfa
            clear hfa hh
            go_wp2_with fail
            go_ret
            have hfa := HFA.out
            exact ⟨ret_bool hfa.symm, .of_below (below_alloc HBB.out (Nat.le_refl _) _), fun h => absurd (hfa.symm.trans h) (by decide)⟩
          · have hh4 : ¬ (lo < o2) ∨ (lo < o2 ∧ ¬ (o1 < lo + n)) := by
              have hh3 := hh
              simp only [hit, Bool.and_eq_true, decide_eq_true_eq] at hh3
              omega
            have HA2 : Hid ((seen.take (i + 1)).any (hit lo n) = false) := Hany.out.trans (by simpa using hh)
            clear hh Hany
            rcases hh4 with h0 | h0
            all_goals
              go_wp2_with fail
              go_roundg (gk - 1)
              case rel => exact ⟨i + 1, by omega, by simp, below_alloc HB.out (Nat.le_refl _) _, HA2.out⟩
              case measure => omega
        · have hie : i = seen.length := by omega
          subst hie
          have hfa : free S lo n = true := by
            rw [HFR.out]; rw [List.take_length] at hA; rw [hA]; rfl
          have hg := HG.out
          have h2 := HS.out
          have c1 : wr.cell? ⟨g, 0, none⟩ = some (.slice (some ⟨s, 0, none⟩) seen.length cap) := (hBB.cell (p := ⟨g, 0, none⟩) hgl).trans c0
          have g2 : wr.heap[g]? = some (.cells #[.slice (some ⟨s, 0, none⟩) seen.length cap] 170 (0, 0)) := (hBB.block g hgl).trans hg
          have s2 : wr.heap[s]? = some (.cells cur 169 (0, 0)) := (hBB.block s hsl).trans h2
          have hsz : w.heap.size ≤ wr.heap.size := hBB.size
          obtain ⟨s', cap', cur', w2, hrun, hgrow, q1, q2, q3, q4, q5, q6⟩ := napp_span B seen s cap cur lo (lo + n) wr.drew h1 s2 h3 h4 H5.out H6.out hlen (by show B ≤ wr.heap.size; omega)
          rw [show ((lo + n : Nat) : Int) = (lo : Int) + n from by push_cast; rfl] at hrun hgrow
          have hgs : g ≠ s := fun e => by rw [e, s2] at g2; injection g2 with g2; injection g2 with g2 g3; exact absurd g3 (by decide)
          have g3 : (wr.drew.alloc (.cells #[.int .i64 lo, .int .i64 (lo + n)] 169)).heap[g]? = some (.cells #[.slice (some ⟨s, 0, none⟩) seen.length cap] 170 (0, 0)) := (heap_alloc_old wr.drew _ (show g < wr.heap.size by omega)).trans g2
          have g4 := (hgrow.block g (by simp; omega) (by simpa using hgs)).trans g3
          have c4 : w2.cell? ⟨g, 0, none⟩ = some (.slice (some ⟨s, 0, none⟩) seen.length cap) := cell_heap g4
          have f4 : w2.frozen? ⟨g, 0, none⟩ = false := frozen_heap g4
          have hgs' : s' ≠ g := fun e => by rw [e, g4] at q2; injection q2 with q2; injection q2 with q2 q7; exact absurd q7 (by decide)
          have hM : NMst (w2.setCell ⟨g, 0, none⟩ (.slice (some ⟨s', 0, none⟩) ((seen.length + 1 : Nat) : Nat) cap')) B g (join S lo n) := by
            refine ⟨s', cap', cur', seen ++ [(lo, lo + n)], ?_, q1, ?_, by simpa using q3, q4, q5, by simpa using q6, H8.out.join hn' hb' hfa⟩
            · rw [heap_set1 g4 _]; simp
            · exact (heap_set_other _ (by simpa using hgs')).trans q2
          have hV : NMv B g w (w2.setCell ⟨g, 0, none⟩ (.slice (some ⟨s', 0, none⟩) ((seen.length + 1 : Nat) : Nat) cap')) := by
            refine ⟨hgrow.os.trans hBB.os, hgrow.tape.trans hBB.tape, hgrow.output.trans hBB.output, by have := hgrow.size; simp at this ⊢; omega, fun k k1 k2 k3 => ?_⟩
            rw [heap_set_other _ (by simpa using k2)]
            have hks : k ≠ s := by
              rintro rfl
              rcases k3 with k3 | k3
              · omega
              · exact k3 _ _ h2
            rw [hgrow.block k (by simp; omega) (by simpa using hks), heap_alloc_old wr.drew _ (show k < wr.heap.size by omega)]
            exact hBB.block k k1
          have hgw : g < wr.heap.size := by omega
          rw [show (wr.drew.alloc (Obj.cells #[Value.int IntKind.i64 ↑lo, Value.int IntKind.i64 (↑lo + ↑n)] 169)) = (wr.alloc (Obj.cells #[Value.int IntKind.i64 ↑lo, Value.int IntKind.i64 (↑lo + ↑n)] 169)).drew from rfl, show wr.drew.heap.size = wr.heap.size from rfl] at hrun
          have HRUN : Hid _ := hrun
          have HM2 : Hid _ := hM
          have HV : Hid _ := hV
          have HFA : Hid _ := hfa
          clear hB hA hg h2 hfa g2 s2 hrun hgrow q1 q2 q3 q4 q5 q6 g3 g4 hM hV hgs hgs' hBB x0 x1
          go_wp2_with fail
          go_region_law (refine step_app_run rfl (.tmp 63) (.tmp 65) 170 rfl _ _ _ _ (by simp [Act.eval, Act.put]) (by simp [Act.eval, Act.put]) HRUN.out ?_)
          all_goals go_wp2_with fail
          all_goals go_ret
          all_goals exact ⟨ret_bool HFA.out.symm, HV.out, fun _ => HM2.out⟩
    · go_enter Fahg.func142, Fahg.ntmps142
      go_wp2_with fail
      refine (HW.out _).mono ?_
      rintro e w1 ⟨rfl, c, nq, rfl⟩
      go_wp2_with fail
      have hBW : Below w.heap.size w ((((w.alloc (Obj.cells #[Value.int IntKind.u8 2, Value.int IntKind.u16 p2, Value.int IntKind.u8 p3, Value.int IntKind.u8 p4, Value.int IntKind.u8 p5, Value.int IntKind.u16 p6] 34)).alloc (Obj.cells c 34)).drewN nq).alloc (Obj.cells #[Value.int IntKind.i64 p2, Value.int IntKind.i64 (p2 + ↑n)] 169)) := below_alloc (below_drewN' (below_alloc (below_alloc (Below.refl _ _) (Nat.le_refl _) _) (Nat.le_refl _) _) _) (Nat.le_refl _) _
      have x0 : ((((w.alloc (Obj.cells #[Value.int IntKind.u8 2, Value.int IntKind.u16 p2, Value.int IntKind.u8 p3, Value.int IntKind.u8 p4, Value.int IntKind.u8 p5, Value.int IntKind.u16 p6] 34)).alloc (Obj.cells c 34)).drewN nq).alloc (Obj.cells #[Value.int IntKind.i64 p2, Value.int IntKind.i64 (p2 + ↑n)] 169)).cell? ⟨w.heap.size + 1 + 1, 0, none⟩ = some (.int .i64 lo) := (World.cell?_alloc_at _ _ _ _ (by simp)).trans (by simp; omega)
      have x1 : ((((w.alloc (Obj.cells #[Value.int IntKind.u8 2, Value.int IntKind.u16 p2, Value.int IntKind.u8 p3, Value.int IntKind.u8 p4, Value.int IntKind.u8 p5, Value.int IntKind.u16 p6] 34)).alloc (Obj.cells c 34)).drewN nq).alloc (Obj.cells #[Value.int IntKind.i64 p2, Value.int IntKind.i64 (p2 + ↑n)] 169)).cell? ⟨w.heap.size + 1 + 1, 1, none⟩ = some (.int .i64 ((lo : Int) + n)) := (World.cell?_alloc_at _ _ _ _ (by simp)).trans (by simp; omega)
      have hXZ : w.heap.size + 1 + 1 < ((((w.alloc (Obj.cells #[Value.int IntKind.u8 2, Value.int IntKind.u16 p2, Value.int IntKind.u8 p3, Value.int IntKind.u8 p4, Value.int IntKind.u8 p5, Value.int IntKind.u16 p6] 34)).alloc (Obj.cells c 34)).drewN nq).alloc (Obj.cells #[Value.int IntKind.i64 p2, Value.int IntKind.i64 (p2 + ↑n)] 169)).heap.size := by simp
      generalize ((((w.alloc (Obj.cells #[Value.int IntKind.u8 2, Value.int IntKind.u16 p2, Value.int IntKind.u8 p3, Value.int IntKind.u8 p4, Value.int IntKind.u8 p5, Value.int IntKind.u16 p6] 34)).alloc (Obj.cells c 34)).drewN nq).alloc (Obj.cells #[Value.int IntKind.i64 p2, Value.int IntKind.i64 (p2 + ↑n)] 169)) = W at *
      clear HW hlo
      go_loopg [43] seen.length (fun k I wr => ∃ i : Nat, i + k = seen.length ∧ I = .int .i64 (i : Nat) ∧ Below W.heap.size W wr ∧ (seen.take i).any (hit lo n) = false)
      case atStart => exact ⟨0, by omega, rfl, Below.refl _ _, by simp⟩
      case round =>
        obtain ⟨i, hi, rfl, hB, hA⟩ := hrel
        have hWs := hBW.size
        have y0 := (hB.cell (p := ⟨w.heap.size + 1 + 1, 0, none⟩) hXZ).trans x0
        have y1 := (hB.cell (p := ⟨w.heap.size + 1 + 1, 1, none⟩) hXZ).trans x1
        have hXW : w.heap.size + 1 + 1 < wr.heap.size := Nat.lt_of_lt_of_le hXZ hB.size
        have hBB : Below w.heap.size w wr := hBW.trans (hB.mono hWs)
        by_cases hlt : i < seen.length
        · have k := hcell.out i hlt
          have k1 : wr.cell? ⟨s, i * 2, none⟩ = some (.int .i64 seen[i].1) := (hBB.cell (p := ⟨s, i * 2, none⟩) hsl).trans k.1
          have k2 : wr.cell? ⟨s, i * 2 + 1, none⟩ = some (.int .i64 seen[i].2) := (hBB.cell (p := ⟨s, i * 2 + 1, none⟩) hsl).trans k.2
          have hok := H8.out.ok _ (List.getElem_mem hlt)
          have hany : (seen.take (i + 1)).any (hit lo n) = hit lo n seen[i] := by
            rw [List.take_succ_eq_append_getElem hlt, List.any_append, hA]; simp
          have hmem := List.getElem_mem hlt
          have HB : Hid _ := hB
          have HBB : Hid _ := hBB
          generalize seen[i] = o at *
          obtain ⟨o1, o2⟩ := o
          simp only at k1 k2 hok
          have Hany : Hid _ := hany
          clear hB k hany hA x0 x1 hBB
          by_cases hh : hit lo n (o1, o2) = true
          · have hh2 := hh
            simp only [hit, Bool.and_eq_true, decide_eq_true_eq] at hh2
            have hfa : free S lo n = false := by
              rw [HFR.out, List.any_eq_true.2 ⟨_, hmem, hh⟩]; rfl
            have HFA : Hid _ := hfa
            clear hfa hh
            go_wp2_with fail
            go_ret
            have hfa := HFA.out
            exact ⟨ret_bool hfa.symm, .of_below (below_alloc HBB.out (Nat.le_refl _) _), fun h => absurd (hfa.symm.trans h) (by decide)⟩
          · have hh4 : ¬ (lo < o2) ∨ (lo < o2 ∧ ¬ (o1 < lo + n)) := by
              have hh3 := hh
              simp only [hit, Bool.and_eq_true, decide_eq_true_eq] at hh3
              omega
            have HA2 : Hid ((seen.take (i + 1)).any (hit lo n) = false) := Hany.out.trans (by simpa using hh)
            clear hh Hany
            rcases hh4 with h0 | h0
            all_goals
              go_wp2_with fail
              go_roundg (gk - 1)
              case rel => exact ⟨i + 1, by omega, by simp, below_alloc HB.out (Nat.le_refl _) _, HA2.out⟩
              case measure => omega
        · have hie : i = seen.length := by omega
          subst hie
          have hfa : free S lo n = true := by
            rw [HFR.out]; rw [List.take_length] at hA; rw [hA]; rfl
          have hg := HG.out
          have h2 := HS.out
          have c1 : wr.cell? ⟨g, 0, none⟩ = some (.slice (some ⟨s, 0, none⟩) seen.length cap) := (hBB.cell (p := ⟨g, 0, none⟩) hgl).trans c0
          have g2 : wr.heap[g]? = some (.cells #[.slice (some ⟨s, 0, none⟩) seen.length cap] 170 (0, 0)) := (hBB.block g hgl).trans hg
          have s2 : wr.heap[s]? = some (.cells cur 169 (0, 0)) := (hBB.block s hsl).trans h2
          have hsz : w.heap.size ≤ wr.heap.size := hBB.size
          obtain ⟨s', cap', cur', w2, hrun, hgrow, q1, q2, q3, q4, q5, q6⟩ := napp_span B seen s cap cur lo (lo + n) wr.drew h1 s2 h3 h4 H5.out H6.out hlen (by show B ≤ wr.heap.size; omega)
          rw [show ((lo + n : Nat) : Int) = (lo : Int) + n from by push_cast; rfl] at hrun hgrow
          have hgs : g ≠ s := fun e => by rw [e, s2] at g2; injection g2 with g2; injection g2 with g2 g3; exact absurd g3 (by decide)
          have g3 : (wr.drew.alloc (.cells #[.int .i64 lo, .int .i64 (lo + n)] 169)).heap[g]? = some (.cells #[.slice (some ⟨s, 0, none⟩) seen.length cap] 170 (0, 0)) := (heap_alloc_old wr.drew _ (show g < wr.heap.size by omega)).trans g2
          have g4 := (hgrow.block g (by simp; omega) (by simpa using hgs)).trans g3
          have c4 : w2.cell? ⟨g, 0, none⟩ = some (.slice (some ⟨s, 0, none⟩) seen.length cap) := cell_heap g4
          have f4 : w2.frozen? ⟨g, 0, none⟩ = false := frozen_heap g4
          have hgs' : s' ≠ g := fun e => by rw [e, g4] at q2; injection q2 with q2; injection q2 with q2 q7; exact absurd q7 (by decide)
          have hM : NMst (w2.setCell ⟨g, 0, none⟩ (.slice (some ⟨s', 0, none⟩) ((seen.length + 1 : Nat) : Nat) cap')) B g (join S lo n) := by
            refine ⟨s', cap', cur', seen ++ [(lo, lo + n)], ?_, q1, ?_, by simpa using q3, q4, q5, by simpa using q6, H8.out.join hn' hb' hfa⟩
            · rw [heap_set1 g4 _]; simp
            · exact (heap_set_other _ (by simpa using hgs')).trans q2
          have hV : NMv B g w (w2.setCell ⟨g, 0, none⟩ (.slice (some ⟨s', 0, none⟩) ((seen.length + 1 : Nat) : Nat) cap')) := by
            refine ⟨hgrow.os.trans hBB.os, hgrow.tape.trans hBB.tape, hgrow.output.trans hBB.output, by have := hgrow.size; simp at this ⊢; omega, fun k k1 k2 k3 => ?_⟩
            rw [heap_set_other _ (by simpa using k2)]
            have hks : k ≠ s := by
              rintro rfl
              rcases k3 with k3 | k3
              · omega
              · exact k3 _ _ h2
            rw [hgrow.block k (by simp; omega) (by simpa using hks), heap_alloc_old wr.drew _ (show k < wr.heap.size by omega)]
            exact hBB.block k k1
          have hgw : g < wr.heap.size := by omega
          rw [show (wr.drew.alloc (Obj.cells #[Value.int IntKind.i64 ↑lo, Value.int IntKind.i64 (↑lo + ↑n)] 169)) = (wr.alloc (Obj.cells #[Value.int IntKind.i64 ↑lo, Value.int IntKind.i64 (↑lo + ↑n)] 169)).drew from rfl, show wr.drew.heap.size = wr.heap.size from rfl] at hrun
          have HRUN : Hid _ := hrun
          have HM2 : Hid _ := hM
          have HV : Hid _ := hV
          have HFA : Hid _ := hfa
          clear hB hA hg h2 hfa g2 s2 hrun hgrow q1 q2 q3 q4 q5 q6 g3 g4 hM hV hgs hgs' hBB x0 x1
          go_wp2_with fail
          go_region_law (refine step_app_run rfl (.tmp 63) (.tmp 65) 170 rfl _ _ _ _ (by simp [Act.eval, Act.put]) (by simp [Act.eval, Act.put]) HRUN.out ?_)
          all_goals go_wp2_with fail
          all_goals go_ret
          all_goals exact ⟨ret_bool HFA.out.symm, HV.out, fun _ => HM2.out⟩

theorem ngather_shape (B g : Nat) (z : Int → Int) (len : Nat) (hl : len ≤ 256) (p : WP) (hp : NShape len p) (S : Nat → Bool) (w : World) (hBg : B ≤ g) (hw : NMst w B g S) :
    Calls Fahg.prog 142 #[p.nval, .pointer (some ⟨g, 0, none⟩)] w fun e w' => e = .returned (.bool (free S (nodeOf z p).lo (nodeOf z p).n)) ∧ NMv B g w w' ∧ (free S (nodeOf z p).lo (nodeOf z p).n = true → NMst w' B g (join S (nodeOf z p).lo (nodeOf z p).n)) := by
  obtain ⟨nl, nn, nb, nk, nm⟩ := shape_node z hl hp.s
  have hW : Hid (∀ w, _) := fun w => nwords_shape len hl p hp w
  rw [← nn] at hW
  have hs := hp.s
  have hlo : (nodeOf z p).lo ≤ 256 ∧ 0 ≤ p.at_ ∧ p.at_ ≤ 256 := by
    cases hs with
    | struct A D P hD hP hb h1 hw => simp at nl ⊢; omega
    | list A c C W hc6 hC hW hb h1 hw => rw [if_neg (by simp only []; omega)] at nl; simp only [] at nl ⊢; omega
    | structs A D P C hD hP hC hA hb hw => simp at nl ⊢; generalize C * (D + P) = q at *; omega
  have hn : (nodeOf z p).n ≤ 257 := by omega
  obtain ⟨p1, p2, p3, p4, p5, p6⟩ := p
  simp only at nl hlo
  refine ngather_x B g S _ _ p1 p2 p3 p4 p5 p6 hlo.2 hW ?_ hlo.1 hn (by omega) w hBg hw
  generalize (nodeOf z ⟨p1, p2, p3, p4, p5, p6⟩).lo = lo at *
  cases hs with
  | struct A D P hD hP hb h1 hw => right; left; exact ⟨rfl, by simpa using nl⟩
  | list A c C W hc6 hC hW hb h1 hw => right; right; exact ⟨rfl, by simp; omega, by rw [if_neg (by omega)] at nl; exact nl⟩
  | structs A D P C hD hP hC hA hb hw => left; exact ⟨rfl, rfl, by simpa using nl⟩
end Go.Proofs.Ygcfah
