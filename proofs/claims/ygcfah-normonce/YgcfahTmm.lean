/- The memory of tree.Norm. -/
import Derived.Test.YgcfahTst
import Derived.Test.YgcfahTap
namespace Go.Proofs.Ygcfah
open Go.RowKit
set_option linter.unusedVariables false
set_option linter.unusedSimpArgs false
def isZ16 : Option Value → Bool
  | some (.int .i16 x) => x == 0
  | _ => false
theorem isZ16_eq {o : Option Value} (h : isZ16 o = true) : o = some (.int .i16 0) := by
  unfold isZ16 at h
  split at h
  · simp at h; rw [h]
  · cases h
def isZI : Option Value → Bool
  | some (.int .i64 x) => x == 0
  | _ => false
theorem isZI_eq {o : Option Value} (h : isZI o = true) : o = some (.int .i64 0) := by
  unfold isZI at h
  split at h
  · simp at h; rw [h]
  · cases h
theorem zc158' : (List.range 512).all (fun i => isZ16 Fahg.zeroCells158[i]?) = true := by kernel_rfl
theorem zc159' : (List.range 512).all (fun i => isZI Fahg.zeroCells159[i]?) = true := by kernel_rfl
theorem zc158 (k : Nat) (h : k < 512) : Fahg.zeroCells158[k]? = some (.int .i16 0) := isZ16_eq (List.all_eq_true.1 zc158' k (List.mem_range.2 h))
theorem zc159 (k : Nat) (h : k < 512) : Fahg.zeroCells159[k]? = some (.int .i64 0) := isZI_eq (List.all_eq_true.1 zc159' k (List.mem_range.2 h))
/-- None of the blocks that Norm writes. -/
def Apart (O F Dd Pp s : Nat) (x : Nat) : Prop := x ≠ O ∧ x ≠ F ∧ x ≠ Dd ∧ x ≠ Pp ∧ x ≠ s
structure NMem (w0 wr : World) (O F Dd Pp s N cap i : Nat) (cur : Array Value) (src gD gP : Nat → Nat) (nu : Nat → NodeC) : Prop where
  bel : Below w0.heap.size w0 wr
  bO : w0.heap.size ≤ O
  bF : w0.heap.size ≤ F
  bD : w0.heap.size ≤ Dd
  bP : w0.heap.size ≤ Pp
  bs : w0.heap.size ≤ s
  ne : O ≠ F ∧ O ≠ Dd ∧ O ≠ Pp ∧ F ≠ Dd ∧ F ≠ Pp ∧ Dd ≠ Pp ∧ s ≠ O ∧ s ≠ F ∧ s ≠ Dd ∧ s ≠ Pp
  hO : wr.heap[O]? = some (.cells #[.slice (some ⟨s, 0, none⟩) N cap, .int .i16 0] 53 (0, 0))
  hs : wr.heap[s]? = some (.cells cur 61 (0, 0))
  nc : N ≤ cap
  cm : cap ≤ maxLen
  sz : cur.size = cap * 4
  aF : Arr wr F 512 (fun x => .int .i16 ((src x : Nat) : Int))
  aD : Arr wr Dd 512 (fun x => .int .i64 ((gD x : Nat) : Int))
  aP : Arr wr Pp 512 (fun x => .int .i64 ((gP x : Nat) : Int))
  nodes : ∀ c, c < i → NodeOk wr (nu c) ∧ cur[c * 4]? = some (.int .u8 (nu c).kind) ∧ cur[c * 4 + 1]? = some (.int .u8 (nu c).code) ∧ cur[c * 4 + 2]? = some (.slice (nu c).dA (nu c).dL (nu c).dC) ∧ cur[c * 4 + 3]? = some (.slice (nu c).kA (nu c).kL (nu c).kC)
  rows : ∀ c, c < i → (∀ x, (nu c).dA = some x → x.block < wr.heap.size ∧ Apart O F Dd Pp s x.block) ∧ (∀ x, (nu c).kA = some x → x.block < wr.heap.size ∧ Apart O F Dd Pp s x.block)
theorem NMem.slt {w0 wr : World} {O F Dd Pp s N cap i : Nat} {cur : Array Value} {src gD gP : Nat → Nat} {nu : Nat → NodeC} (h : NMem w0 wr O F Dd Pp s N cap i cur src gD gP nu) : s < wr.heap.size ∧ O < wr.heap.size :=
  ⟨(Array.getElem?_eq_some_iff.1 h.hs).1, (Array.getElem?_eq_some_iff.1 h.hO).1⟩
/-- A step that turns none of Norm's blocks, nor a made node's rows. -/
theorem NMem.step {w0 wr wr' : World} {O F Dd Pp s N cap i : Nat} {cur : Array Value} {src gD gP : Nat → Nat} {nu : Nat → NodeC} (h : NMem w0 wr O F Dd Pp s N cap i cur src gD gP nu) {Ex : Nat → Prop} (hst : Stp Ex wr wr') (he : ∀ x, Ex x → w0.heap.size ≤ x ∧ Apart O F Dd Pp s x) (hrow : ∀ c, c < i → (∀ x, (nu c).dA = some x → ¬Ex x.block) ∧ (∀ x, (nu c).kA = some x → ¬Ex x.block)) :
    NMem w0 wr' O F Dd Pp s N cap i cur src gD gP nu := by
  have n1 : ¬Ex O := fun x => (he O x).2.1 rfl
  have n2 : ¬Ex F := fun x => (he F x).2.2.1 rfl
  have n3 : ¬Ex Dd := fun x => (he Dd x).2.2.2.1 rfl
  have n4 : ¬Ex Pp := fun x => (he Pp x).2.2.2.2.1 rfl
  have n5 : ¬Ex s := fun x => (he s x).2.2.2.2.2 rfl
  refine ⟨h.bel.trans (hst.below h.bel.size fun k hk => (he k hk).1), h.bO, h.bF, h.bD, h.bP, h.bs, h.ne, (hst.block O h.slt.2 n1).trans h.hO, (hst.block s h.slt.1 n5).trans h.hs, h.nc, h.cm, h.sz, hst.arr n2 h.aF, hst.arr n3 h.aD, hst.arr n4 h.aP, fun c hc => ?_, fun c hc => ?_⟩
  · exact ⟨hst.node (hrow c hc).1 (hrow c hc).2 (h.nodes c hc).1, (h.nodes c hc).2⟩
  · exact ⟨fun x hx => ⟨Nat.lt_of_lt_of_le ((h.rows c hc).1 x hx).1 hst.size, ((h.rows c hc).1 x hx).2⟩, fun x hx => ⟨Nat.lt_of_lt_of_le ((h.rows c hc).2 x hx).1 hst.size, ((h.rows c hc).2 x hx).2⟩⟩
theorem NMem.below {w0 wr wr' : World} {O F Dd Pp s N cap i : Nat} {cur : Array Value} {src gD gP : Nat → Nat} {nu : Nat → NodeC} (h : NMem w0 wr O F Dd Pp s N cap i cur src gD gP nu) (hb : Below wr.heap.size wr wr') : NMem w0 wr' O F Dd Pp s N cap i cur src gD gP nu :=
  h.step (Ex := fun _ => False) (Stp.of_below hb) (fun _ x => x.elim) (fun _ _ => ⟨fun _ _ x => x, fun _ _ x => x⟩)
/-- from[x] = z. -/
theorem NMem.setF {w0 wr : World} {O F Dd Pp s N cap i : Nat} {cur : Array Value} {src gD gP : Nat → Nat} {nu : Nat → NodeC} (h : NMem w0 wr O F Dd Pp s N cap i cur src gD gP nu) {x : Nat} (hx : x < 512) (z : Nat) :
    NMem w0 (wr.setCell ⟨F, x, none⟩ (.int .i16 ((z : Nat) : Int))) O F Dd Pp s N cap i cur (putF src x z) gD gP nu := by
  obtain ⟨m1, m2, m3, m4, m5, m6, m7, m8, m9, m10⟩ := h.ne
  have hst : Stp (fun y => y = F) wr (wr.setCell ⟨F, x, none⟩ (.int .i16 ((z : Nat) : Int))) := (Stp.refl (fun y => y = F) wr).setCell (p := ⟨F, x, none⟩) (fun _ => rfl) _
  refine ⟨h.bel.setCell h.bF _, h.bO, h.bF, h.bD, h.bP, h.bs, h.ne, (hst.block O h.slt.2 m1).trans h.hO, (hst.block s h.slt.1 m8).trans h.hs, h.nc, h.cm, h.sz, (h.aF.set hx _).congr fun k hk => ?_, h.aD.far m4 _, h.aP.far m5 _, fun c hc => ?_, fun c hc => ?_⟩
  · unfold putF; split <;> rfl
  · exact ⟨hst.node (fun y hy => ((h.rows c hc).1 y hy).2.2.1) (fun y hy => ((h.rows c hc).2 y hy).2.2.1) (h.nodes c hc).1, (h.nodes c hc).2⟩
  · exact ⟨fun y hy => ⟨Nat.lt_of_lt_of_le ((h.rows c hc).1 y hy).1 hst.size, ((h.rows c hc).1 y hy).2⟩, fun y hy => ⟨Nat.lt_of_lt_of_le ((h.rows c hc).2 y hy).1 hst.size, ((h.rows c hc).2 y hy).2⟩⟩
/-- data[x] = z. -/
theorem NMem.setD {w0 wr : World} {O F Dd Pp s N cap i : Nat} {cur : Array Value} {src gD gP : Nat → Nat} {nu : Nat → NodeC} (h : NMem w0 wr O F Dd Pp s N cap i cur src gD gP nu) {x : Nat} (hx : x < 512) (z : Nat) :
    NMem w0 (wr.setCell ⟨Dd, x, none⟩ (.int .i64 ((z : Nat) : Int))) O F Dd Pp s N cap i cur src (putF gD x z) gP nu := by
  obtain ⟨m1, m2, m3, m4, m5, m6, m7, m8, m9, m10⟩ := h.ne
  have hst : Stp (fun y => y = Dd) wr (wr.setCell ⟨Dd, x, none⟩ (.int .i64 ((z : Nat) : Int))) := (Stp.refl (fun y => y = Dd) wr).setCell (p := ⟨Dd, x, none⟩) (fun _ => rfl) _
  refine ⟨h.bel.setCell h.bD _, h.bO, h.bF, h.bD, h.bP, h.bs, h.ne, (hst.block O h.slt.2 m2).trans h.hO, (hst.block s h.slt.1 m9).trans h.hs, h.nc, h.cm, h.sz, h.aF.far (fun e => m4 e.symm) _, (h.aD.set hx _).congr fun k hk => ?_, h.aP.far m6 _, fun c hc => ?_, fun c hc => ?_⟩
  · unfold putF; split <;> rfl
  · exact ⟨hst.node (fun y hy => ((h.rows c hc).1 y hy).2.2.2.1) (fun y hy => ((h.rows c hc).2 y hy).2.2.2.1) (h.nodes c hc).1, (h.nodes c hc).2⟩
  · exact ⟨fun y hy => ⟨Nat.lt_of_lt_of_le ((h.rows c hc).1 y hy).1 hst.size, ((h.rows c hc).1 y hy).2⟩, fun y hy => ⟨Nat.lt_of_lt_of_le ((h.rows c hc).2 y hy).1 hst.size, ((h.rows c hc).2 y hy).2⟩⟩
/-- ptrs[x] = z. -/
theorem NMem.setP {w0 wr : World} {O F Dd Pp s N cap i : Nat} {cur : Array Value} {src gD gP : Nat → Nat} {nu : Nat → NodeC} (h : NMem w0 wr O F Dd Pp s N cap i cur src gD gP nu) {x : Nat} (hx : x < 512) (z : Nat) :
    NMem w0 (wr.setCell ⟨Pp, x, none⟩ (.int .i64 ((z : Nat) : Int))) O F Dd Pp s N cap i cur src gD (putF gP x z) nu := by
  obtain ⟨m1, m2, m3, m4, m5, m6, m7, m8, m9, m10⟩ := h.ne
  have hst : Stp (fun y => y = Pp) wr (wr.setCell ⟨Pp, x, none⟩ (.int .i64 ((z : Nat) : Int))) := (Stp.refl (fun y => y = Pp) wr).setCell (p := ⟨Pp, x, none⟩) (fun _ => rfl) _
  refine ⟨h.bel.setCell h.bP _, h.bO, h.bF, h.bD, h.bP, h.bs, h.ne, (hst.block O h.slt.2 m3).trans h.hO, (hst.block s h.slt.1 m10).trans h.hs, h.nc, h.cm, h.sz, h.aF.far (fun e => m5 e.symm) _, h.aD.far (fun e => m6 e.symm) _, (h.aP.set hx _).congr fun k hk => ?_, fun c hc => ?_, fun c hc => ?_⟩
  · unfold putF; split <;> rfl
  · exact ⟨hst.node (fun y hy => ((h.rows c hc).1 y hy).2.2.2.2.1) (fun y hy => ((h.rows c hc).2 y hy).2.2.2.2.1) (h.nodes c hc).1, (h.nodes c hc).2⟩
  · exact ⟨fun y hy => ⟨Nat.lt_of_lt_of_le ((h.rows c hc).1 y hy).1 hst.size, ((h.rows c hc).1 y hy).2⟩, fun y hy => ⟨Nat.lt_of_lt_of_le ((h.rows c hc).2 y hy).1 hst.size, ((h.rows c hc).2 y hy).2⟩⟩
theorem alloc_new (w : World) (o : Obj) : (w.alloc o).heap[w.heap.size]? = some o := by show (w.heap.push o)[w.heap.size]? = some o; simp
noncomputable def newWorld (w1 : World) : World := ((((w1.alloc (.cells #[.int .u8 0, .int .u8 0, .slice none 0 0, .slice none 0 0] 61)).alloc (.cells #[.slice (some ⟨w1.heap.size, 0, none⟩) 1 1, .int .i16 0] 53)).alloc (.cells Fahg.zeroCells158 158)).alloc (.cells Fahg.zeroCells159 159)).alloc (.cells Fahg.zeroCells159 159)
theorem NMem.start (w0 w1 : World) (hb : Below w0.heap.size w0 w1) (nu : Nat → NodeC) : NMem w0 (newWorld w1) (w1.heap.size + 1) (w1.heap.size + 2) (w1.heap.size + 3) (w1.heap.size + 4) w1.heap.size 1 1 0 #[.int .u8 0, .int .u8 0, .slice none 0 0, .slice none 0 0] (fun _ => 0) (fun _ => 0) (fun _ => 0) nu := by
  have hsz := hb.size
  unfold newWorld
  refine ⟨?_, by omega, by omega, by omega, by omega, by omega, ⟨by omega, by omega, by omega, by omega, by omega, by omega, by omega, by omega, by omega, by omega⟩, ?_, ?_, by omega, by decide, by simp, ?_, ?_, ?_, fun c hc => absurd hc (by omega), fun c hc => absurd hc (by omega)⟩
  · exact hb.trans (Below.mono (B := w1.heap.size) (below_alloc (below_alloc (below_alloc (below_alloc (below_alloc (Below.refl _ _) (Nat.le_refl _) _) (Nat.le_refl _) _) (Nat.le_refl _) _) (Nat.le_refl _) _) (Nat.le_refl _) _) hsz)
  · have e : ∀ (w : World) (o : Obj) (k : Nat), k < w.heap.size → (w.alloc o).heap[k]? = w.heap[k]? := fun w o k h => alloc_old w o h
    rw [e _ _ _ (by simp only [World.size_alloc]; omega), e _ _ _ (by simp only [World.size_alloc]; omega), e _ _ _ (by simp only [World.size_alloc]; omega)]
    have := alloc_new (w1.alloc (.cells #[.int .u8 0, .int .u8 0, .slice none 0 0, .slice none 0 0] 61)) (.cells #[.slice (some ⟨w1.heap.size, 0, none⟩) 1 1, .int .i16 0] 53)
    rw [World.size_alloc] at this
    exact this
  · have e : ∀ (w : World) (o : Obj) (k : Nat), k < w.heap.size → (w.alloc o).heap[k]? = w.heap[k]? := fun w o k h => alloc_old w o h
    rw [e _ _ _ (by simp only [World.size_alloc]; omega), e _ _ _ (by simp only [World.size_alloc]; omega), e _ _ _ (by simp only [World.size_alloc]; omega), e _ _ _ (by simp only [World.size_alloc]; omega)]
    exact alloc_new w1 _
  · have := arr_new ((w1.alloc (.cells #[.int .u8 0, .int .u8 0, .slice none 0 0, .slice none 0 0] 61)).alloc (.cells #[.slice (some ⟨w1.heap.size, 0, none⟩) 1 1, .int .i16 0] 53)) Fahg.zeroCells158 158 512 (fun _ => .int .i16 0) zc158
    rw [World.size_alloc, World.size_alloc] at this
    exact (this.alloc _).alloc _
  · have := arr_new (((w1.alloc (.cells #[.int .u8 0, .int .u8 0, .slice none 0 0, .slice none 0 0] 61)).alloc (.cells #[.slice (some ⟨w1.heap.size, 0, none⟩) 1 1, .int .i16 0] 53)).alloc (.cells Fahg.zeroCells158 158)) Fahg.zeroCells159 159 512 (fun _ => .int .i64 0) zc159
    rw [World.size_alloc, World.size_alloc, World.size_alloc] at this
    exact this.alloc _
  · have := arr_new ((((w1.alloc (.cells #[.int .u8 0, .int .u8 0, .slice none 0 0, .slice none 0 0] 61)).alloc (.cells #[.slice (some ⟨w1.heap.size, 0, none⟩) 1 1, .int .i16 0] 53)).alloc (.cells Fahg.zeroCells158 158)).alloc (.cells Fahg.zeroCells159 159)) Fahg.zeroCells159 159 512 (fun _ => .int .i64 0) zc159
    rw [World.size_alloc, World.size_alloc, World.size_alloc, World.size_alloc] at this
    exact this
end Go.Proofs.Ygcfah
