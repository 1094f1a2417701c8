/- The memory of law.NormOnce: the swapped tree as it is built. -/
import Derived.Test.YgcfahUsm
import Derived.Test.YgcfahTmm
import Derived.Test.YgcfahTsz
import Derived.Deep.OwnRows
namespace Go.Proofs.Ygcfah
open Go.ChangeShapes Go.WideShapes Go.ChangeAt Go.RowKit
set_option linter.unusedVariables false
set_option linter.unusedSimpArgs false
structure UMem (w0 wr : World) (U V n : Nat) (root' : Int) (kk : Nat) (nd : Nat → NodeC) (j : Nat) (cur : Array Value) : Prop where
  bel : Below w0.heap.size w0 wr
  bU : w0.heap.size ≤ U
  bV : w0.heap.size ≤ V
  ne : U ≠ V
  hU : wr.heap[U]? = some (.cells #[.slice (some ⟨V, 0, none⟩) n n, .int .i16 root'] 53 (0, 0))
  hV : wr.heap[V]? = some (.cells cur 61 (0, 0))
  sz : cur.size = n * 4
  done : ∀ c, c < j → ∃ h, h < wr.heap.size ∧ h ≠ U ∧ h ≠ V ∧ Arr wr h (nd c).kL (fun q => .int .i16 (swI kk ((nd c).kz q))) ∧ cur[sw kk c * 4]? = some (.int .u8 (nd c).kind) ∧ cur[sw kk c * 4 + 1]? = some (.int .u8 (nd c).code) ∧ cur[sw kk c * 4 + 2]? = some (.slice (nd c).dA (nd c).dL (nd c).dC) ∧ cur[sw kk c * 4 + 3]? = some (.slice (some ⟨h, 0, none⟩) (nd c).kL (nd c).kL)
theorem UMem.lt {w0 wr : World} {U V n : Nat} {root' : Int} {kk : Nat} {nd : Nat → NodeC} {j : Nat} {cur : Array Value} (h : UMem w0 wr U V n root' kk nd j cur) : U < wr.heap.size ∧ V < wr.heap.size :=
  ⟨(Array.getElem?_eq_some_iff.1 h.hU).1, (Array.getElem?_eq_some_iff.1 h.hV).1⟩
theorem UMem.below {w0 wr wr' : World} {U V n : Nat} {root' : Int} {kk : Nat} {nd : Nat → NodeC} {j : Nat} {cur : Array Value} (h : UMem w0 wr U V n root' kk nd j cur) (hb : Below wr.heap.size wr wr') : UMem w0 wr' U V n root' kk nd j cur := by
  refine ⟨h.bel.trans (hb.mono h.bel.size), h.bU, h.bV, h.ne, (hb.block U h.lt.1).trans h.hU, (hb.block V h.lt.2).trans h.hV, h.sz, fun c hc => ?_⟩
  obtain ⟨g, g1, g2, g3, g4, g5⟩ := h.done c hc
  exact ⟨g, Nat.lt_of_lt_of_le g1 hb.size, g2, g3, g4.below hb, g5⟩
theorem UMem.start1 (w : World) (n : Nat) (rt : Int) (kk : Nat) (nd : Nat → NodeC) (C : Array Value) (hC : C.size = n * 4) : UMem w ((w.alloc (.cells C 61)).alloc (.cells #[.slice (some ⟨w.heap.size, 0, none⟩) n n, .int .i16 rt] 53)).drew (w.heap.size + 1) w.heap.size n rt kk nd 0 C := by
  refine ⟨(below_alloc (below_alloc (Below.refl _ _) (Nat.le_refl _) _) (Nat.le_refl _) _).drew, by omega, by omega, by omega, ?_, ?_, hC, fun c hc => absurd hc (by omega)⟩
  · have := alloc_new (w.alloc (.cells C 61)) (.cells #[.slice (some ⟨w.heap.size, 0, none⟩) n n, .int .i16 rt] 53)
    rw [World.size_alloc] at this
    exact this
  · exact (alloc_old (w.alloc (.cells C 61)) (.cells #[.slice (some ⟨w.heap.size, 0, none⟩) n n, .int .i16 rt] 53) (by rw [World.size_alloc]; omega)).trans (alloc_new w (.cells C 61))
theorem UMem.start2 (w : World) (n : Nat) (rt : Int) (kk : Nat) (nd : Nat → NodeC) (C : Array Value) (hC : C.size = n * 4) : UMem w ((w.alloc (.cells #[.slice (some ⟨w.heap.size + 1, 0, none⟩) n n, .int .i16 rt] 53)).alloc (.cells C 61)).drew w.heap.size (w.heap.size + 1) n rt kk nd 0 C := by
  refine ⟨(below_alloc (below_alloc (Below.refl _ _) (Nat.le_refl _) _) (Nat.le_refl _) _).drew, by omega, by omega, by omega, ?_, ?_, hC, fun c hc => absurd hc (by omega)⟩
  · exact (alloc_old (w.alloc (.cells #[.slice (some ⟨w.heap.size + 1, 0, none⟩) n n, .int .i16 rt] 53)) (.cells C 61) (by rw [World.size_alloc]; omega)).trans (alloc_new w (.cells #[.slice (some ⟨w.heap.size + 1, 0, none⟩) n n, .int .i16 rt] 53))
  · have := alloc_new (w.alloc (.cells #[.slice (some ⟨w.heap.size + 1, 0, none⟩) n n, .int .i16 rt] 53)) (.cells C 61)
    rw [World.size_alloc] at this
    exact this
/-- A node's copy and the new row of its kids. -/
theorem umade (w : World) (D : Array Value) (kL : Nat) (f : Nat → Value) (hf : f = fun _ => .int .i16 0) : ∀ w2, w2 = (w.alloc (.cells D 61)).alloc (.cells (madeCells #[.int .i16 0] kL) 51) → Below w.heap.size w w2 ∧ w2.heap[w.heap.size]? = some (.cells D 61 (0, 0)) ∧ Arr w2 (w.heap.size + 1) kL f ∧ w.heap.size + 1 < w2.heap.size := by
  intro w2 e
  subst e
  refine ⟨below_alloc (below_alloc (Below.refl _ _) (Nat.le_refl _) _) (Nat.le_refl _) _, (alloc_old (w.alloc (.cells D 61)) _ (by rw [World.size_alloc]; omega)).trans (alloc_new w _), ?_, ?_⟩
  · subst hf
    have := arr_new (w.alloc (.cells D 61)) (madeCells #[.int .i16 0] kL) 51 kL (fun _ => .int .i16 0) fun k hk => by
      have e := toList_madeCells_one (.int .i16 0) kL
      rw [← Array.getElem?_toList, e, List.getElem?_replicate, if_pos hk]
    rw [World.size_alloc] at this
    exact this
  · rw [World.size_alloc, World.size_alloc]; omega
theorem UMem.fill {w0 wr wx : World} {U V n : Nat} {root' : Int} {kk : Nat} {nd : Nat → NodeC} {j : Nat} {cur : Array Value} (h : UMem w0 wr U V n root' kk nd j cur) (hb : Below wr.heap.size wr wx) {h0 : Nat} (l1 : wr.heap.size ≤ h0) (l2 : h0 < wx.heap.size) (ha : Arr wx h0 (nd j).kL (fun q => .int .i16 (swI kk ((nd j).kz q)))) (hk : kk + 1 < n) (hj : j < n) :
    ∃ cur', UMem w0 ((((wx.setCell ⟨V, sw kk j * 4, none⟩ (.int .u8 (nd j).kind)).setCell ⟨V, sw kk j * 4 + 1, none⟩ (.int .u8 (nd j).code)).setCell ⟨V, sw kk j * 4 + 2, none⟩ (.slice (nd j).dA (nd j).dL (nd j).dC)).setCell ⟨V, sw kk j * 4 + 3, none⟩ (.slice (some ⟨h0, 0, none⟩) (nd j).kL (nd j).kL)) U V n root' kk nd (j + 1) cur' := by
  have hx := h.below hb
  have hlt := h.lt
  have hsl := sw_lt hk hj
  have hst : Stp (fun x => x = V) wx ((((wx.setCell ⟨V, sw kk j * 4, none⟩ (.int .u8 (nd j).kind)).setCell ⟨V, sw kk j * 4 + 1, none⟩ (.int .u8 (nd j).code)).setCell ⟨V, sw kk j * 4 + 2, none⟩ (.slice (nd j).dA (nd j).dL (nd j).dC)).setCell ⟨V, sw kk j * 4 + 3, none⟩ (.slice (some ⟨h0, 0, none⟩) (nd j).kL (nd j).kL)) :=
    ((((Stp.refl (fun x => x = V) wx).setCell (p := ⟨V, sw kk j * 4, none⟩) (fun _ => rfl) _).setCell (p := ⟨V, sw kk j * 4 + 1, none⟩) (fun _ => rfl) _).setCell (p := ⟨V, sw kk j * 4 + 2, none⟩) (fun _ => rfl) _).setCell (p := ⟨V, sw kk j * 4 + 3, none⟩) (fun _ => rfl) _
  have hV' := heap_set (heap_set (heap_set (heap_set hx.hV (sw kk j * 4) (.int .u8 (nd j).kind)) (sw kk j * 4 + 1) (.int .u8 (nd j).code)) (sw kk j * 4 + 2) (.slice (nd j).dA (nd j).dL (nd j).dC)) (sw kk j * 4 + 3) (.slice (some ⟨h0, 0, none⟩) (nd j).kL (nd j).kL)
  have hcs := h.sz
  have hne := h.ne
  generalize ((((wx.setCell ⟨V, sw kk j * 4, none⟩ (.int .u8 (nd j).kind)).setCell ⟨V, sw kk j * 4 + 1, none⟩ (.int .u8 (nd j).code)).setCell ⟨V, sw kk j * 4 + 2, none⟩ (.slice (nd j).dA (nd j).dL (nd j).dC)).setCell ⟨V, sw kk j * 4 + 3, none⟩ (.slice (some ⟨h0, 0, none⟩) (nd j).kL (nd j).kL)) = w2 at *
  refine ⟨(((cur.setIfInBounds (sw kk j * 4) (.int .u8 (nd j).kind)).setIfInBounds (sw kk j * 4 + 1) (.int .u8 (nd j).code)).setIfInBounds (sw kk j * 4 + 2) (.slice (nd j).dA (nd j).dL (nd j).dC)).setIfInBounds (sw kk j * 4 + 3) (.slice (some ⟨h0, 0, none⟩) (nd j).kL (nd j).kL), hx.bel.trans (hst.below hx.bel.size fun k hk => by have := h.bV; omega), h.bU, h.bV, h.ne, (hst.block U hx.lt.1 hne).trans hx.hU, hV', by simp [hcs], fun c hc => ?_⟩
  by_cases hcj : c = j
  · subst hcj
    refine ⟨h0, Nat.lt_of_lt_of_le l2 hst.size, by omega, by omega, hst.arr (by omega) ha, ?_, ?_, ?_, ?_⟩
    · rw [Array.getElem?_setIfInBounds_ne (by omega), Array.getElem?_setIfInBounds_ne (by omega), Array.getElem?_setIfInBounds_ne (by omega), Array.getElem?_setIfInBounds_self_of_lt (by omega)]
    · rw [Array.getElem?_setIfInBounds_ne (by omega), Array.getElem?_setIfInBounds_ne (by omega), Array.getElem?_setIfInBounds_self_of_lt (by simp; omega)]
    · rw [Array.getElem?_setIfInBounds_ne (by omega), Array.getElem?_setIfInBounds_self_of_lt (by simp; omega)]
    · rw [Array.getElem?_setIfInBounds_self_of_lt (by simp; omega)]
  · have hsne : sw kk c ≠ sw kk j := fun e => hcj (by rw [← sw_sw kk c, e, sw_sw])
    obtain ⟨g, g1, g2, g3, g4, g5, g6, g7, g8⟩ := hx.done c (by omega)
    refine ⟨g, Nat.lt_of_lt_of_le g1 hst.size, g2, g3, hst.arr g3 g4, ?_, ?_, ?_, ?_⟩
    all_goals rw [Array.getElem?_setIfInBounds_ne (by omega), Array.getElem?_setIfInBounds_ne (by omega), Array.getElem?_setIfInBounds_ne (by omega), Array.getElem?_setIfInBounds_ne (by omega)]
    all_goals assumption
theorem swI_wf {kk : Nat} (hk : kk + 1 ≤ 512) {z : Int} (h : (Lit.int .i16 z).wf = true) : (Lit.int .i16 (swI kk z)).wf = true := by
  have := bnd_i16 h
  apply wf_i16
  unfold swI
  split
  · omega
  · split <;> omega
theorem UMem.fin {w0 wr : World} {U V n : Nat} {root' : Int} {kk : Nat} {nd : Nat → NodeC} {cur : Array Value} {b off : Nat} (h : UMem w0 wr U V n root' kk nd n cur) (hr : NCells w0 b off n nd) (hT : Tok n nd) (hk : kk + 1 < n) (hn : n ≤ 512) :
    ∃ un, NCells wr V 0 n un ∧ SwOf n nd kk un := by
  obtain ⟨g, hg⟩ := Go.Deep.choose_lt (n := n) (p := fun x (g : Nat) => Arr wr g (nd (sw kk x)).kL (fun q => .int .i16 (swI kk ((nd (sw kk x)).kz q))) ∧ cur[x * 4]? = some (.int .u8 (nd (sw kk x)).kind) ∧ cur[x * 4 + 1]? = some (.int .u8 (nd (sw kk x)).code) ∧ cur[x * 4 + 2]? = some (.slice (nd (sw kk x)).dA (nd (sw kk x)).dL (nd (sw kk x)).dC) ∧ cur[x * 4 + 3]? = some (.slice (some ⟨g, 0, none⟩) (nd (sw kk x)).kL (nd (sw kk x)).kL)) (fun x hx => by
    obtain ⟨g, g1, g2, g3, g4, g5, g6, g7, g8⟩ := h.done (sw kk x) (sw_lt hk hx)
    rw [sw_sw] at g5 g6 g7 g8
    exact ⟨g, g4, g5, g6, g7, g8⟩)
  refine ⟨fun x => ⟨(nd (sw kk x)).kind, (nd (sw kk x)).code, (nd (sw kk x)).dA, (nd (sw kk x)).dL, (nd (sw kk x)).dC, some ⟨g x, 0, none⟩, (nd (sw kk x)).kL, (nd (sw kk x)).kL, (nd (sw kk x)).dz, fun q => swI kk ((nd (sw kk x)).kz q)⟩, fun x hx => ?_, ⟨fun c _ => rfl, fun c _ => rfl, fun c _ => rfl, fun c _ => rfl, fun c _ => rfl, fun c _ j _ => rfl⟩⟩
  obtain ⟨g4, g5, g6, g7, g8⟩ := hg x hx
  obtain ⟨n0, _⟩ := hr (sw kk x) (sw_lt hk hx)
  have hl := hT.kl (sw_lt hk hx)
  rw [Nat.zero_add]
  refine ⟨⟨n0.k, n0.c, n0.dl, Nat.le_refl _, n0.dm, ?_, n0.dn, (fun e => by cases e), n0.d.below h.bel, .inr ⟨g x, 0, rfl, fun q hq => ⟨?_, ?_⟩⟩⟩, cell_of_heap h.hV g5, cell_of_heap h.hV g6, cell_of_heap h.hV g7, cell_of_heap h.hV g8⟩
  · show (nd (sw kk x)).kL ≤ _
    omega
  · rw [Nat.zero_add]; exact g4.c q hq
  · rcases n0.i with h0 | ⟨b2, o2, _, hc⟩
    · have hq' : q < (nd (sw kk x)).kL := hq
      omega
    · exact swI_wf (by omega) (hc q hq).2
end Go.Proofs.Ygcfah
