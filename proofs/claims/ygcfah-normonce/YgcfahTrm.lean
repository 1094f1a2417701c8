/- The memory of a round of tree.Norm. -/
import Derived.Test.YgcfahTmm
import Derived.Test.YgcfahTsz
namespace Go.Proofs.Ygcfah
open Go.ChangeShapes Go.WideShapes Go.ChangeAt Go.RowKit
set_option linter.unusedVariables false
set_option linter.unusedSimpArgs false
set_option maxRecDepth 100000
/-- An append leaves the row where it was, or makes a new one. -/
theorem app_where {P : Program} (w : World) (t ty e : TypeId) (i : TypeInfo) (z : Value) (ht : P.underlying t = some (.slice e)) (hi : P.info? e = some i) (hz : i.zero = some z)
    (s N cap : Nat) (cur : Array Value) (h2 : w.heap[s]? = some (.cells cur e (0, 0))) (h3 : N ≤ cap) (h5 : cur.size = cap * i.size)
    (a : Addr) (c : Nat) (news : List Value) (hl : news.length = 1 * i.size) (hnews : ∀ j u, news[j]? = some u → w.cell? (a.add j) = some u) (h1 : ∀ u ∈ news, u.oneCell' = true)
    (h63 : ((N + 1 : Nat) : Int) ≤ 9223372036854775807) (hfit : (N + 1) * i.bytes ≤ 140737488355328) {s' n' cap' : Nat} {w' : World}
    (hrun : (Builtin.append_ #[t, t] ty #[.slice (some ⟨s, 0, none⟩) N cap, .slice (some a) 1 c]).run P w = .ok (.slice (some ⟨s', 0, none⟩) n' cap') w') : s' = s ∨ s' = w.heap.size := by
  by_cases hroom : N + 1 ≤ cap
  · have hf : N * i.size + news.length ≤ cur.size := by rw [hl, h5, ← Nat.add_mul]; exact Nat.mul_le_mul_right _ hroom
    have hr := run_append_room (P := P) w t ty e i ht hi s N cap cur h2 a 1 c news hl hnews h1 hroom hf
    rw [hr] at hrun
    injection hrun with e1 e2
    injection e1 with e1 e3 e4
    injection e1 with e1
    injection e1 with e1
    exact .inl e1.symm
  · have hN : N = cap := by omega
    have holds : ∀ j u, (cur.toList.take (N * i.size))[j]? = some u → w.cell? ((⟨s, 0, none⟩ : Addr).add j) = some u := by
      intro j u hu
      have hadd : (⟨s, 0, none⟩ : Addr).add j = ⟨s, j, none⟩ := by unfold Addr.add; split <;> simp_all
      rw [hadd]
      refine cell_of_heap h2 ?_
      rw [List.getElem?_take] at hu
      split at hu
      · simpa using hu
      · cases hu
    have hr := run_append_grow (P := P) w t ty e i z ht hi hz ⟨s, 0, none⟩ N cap (cur.toList.take (N * i.size)) (by simp; rw [h5, hN]; simp) holds a 1 c news hl hnews (by omega) h63 (growslice_fits (by omega) hfit)
    rw [hr] at hrun
    injection hrun with e1 e2
    injection e1 with e1 e3 e4
    injection e1 with e1
    injection e1 with e1
    exact .inr e1.symm
theorem zn_cells (w : World) : ∀ j u, zeroNode[j]? = some u → (w.alloc (.cells #[.int .u8 0, .int .u8 0, .slice none 0 0, .slice none 0 0] 61)).cell? ((⟨w.heap.size, 0, none⟩ : Addr).add j) = some u := by
  intro j u hj
  rw [show (⟨w.heap.size, 0, none⟩ : Addr).add j = ⟨w.heap.size, j, none⟩ from by unfold Addr.add; split <;> simp_all]
  unfold zeroNode at hj
  match j, hj with
  | 0, hj => simp only [List.getElem?_cons_zero, Option.some.injEq] at hj; subst hj; exact World.cell?_alloc_at _ _ _ _ rfl
  | 1, hj => simp only [List.getElem?_cons_succ, List.getElem?_cons_zero, Option.some.injEq] at hj; subst hj; exact World.cell?_alloc_at _ _ _ _ rfl
  | 2, hj => simp only [List.getElem?_cons_succ, List.getElem?_cons_zero, Option.some.injEq] at hj; subst hj; exact World.cell?_alloc_at _ _ _ _ rfl
  | 3, hj => simp only [List.getElem?_cons_succ, List.getElem?_cons_zero, Option.some.injEq] at hj; subst hj; exact World.cell?_alloc_at _ _ _ _ rfl
  | j + 4, hj => simp at hj
theorem kn_cells (w : World) (k : Int) : ∀ j u, ([.int .i16 k] : List Value)[j]? = some u → (w.alloc (.cells #[.int .i16 k] 51)).cell? ((⟨w.heap.size, 0, none⟩ : Addr).add j) = some u := by
  intro j u hj
  rw [show (⟨w.heap.size, 0, none⟩ : Addr).add j = ⟨w.heap.size, j, none⟩ from by unfold Addr.add; split <;> simp_all]
  match j, hj with
  | 0, hj => simp only [List.getElem?_cons_zero, Option.some.injEq] at hj; subst hj; exact World.cell?_alloc_at _ _ _ _ rfl
  | j + 1, hj => simp at hj
theorem app_node_where (w : World) (s N cap : Nat) (cur : Array Value) (h2 : w.heap[s]? = some (.cells cur 61 (0, 0))) (h3 : N ≤ cap) (h5 : cur.size = cap * 4) (hlen : N ≤ 600) {s' n' cap' : Nat} {w' : World}
    (hrun : (Builtin.append_ #[50, 50] 50 #[.slice (some ⟨s, 0, none⟩) N cap, .slice (some ⟨w.heap.size, 0, none⟩) 1 1]).run Fahg.prog (w.alloc (.cells #[.int .u8 0, .int .u8 0, .slice none 0 0, .slice none 0 0] 61)) = .ok (.slice (some ⟨s', 0, none⟩) n' cap') w') : s' = s ∨ s' = w.heap.size + 1 := by
  obtain ⟨i, hi', hz, hsz, hby⟩ := info61
  have hs : s < w.heap.size := (Array.getElem?_eq_some_iff.1 h2).1
  have := app_where (P := Fahg.prog) (w.alloc (.cells #[.int .u8 0, .int .u8 0, .slice none 0 0, .slice none 0 0] 61)) 50 50 61 i _ Fahg.underlying50 hi' hz s N cap cur ((alloc_old w _ hs).trans h2) h3 (by rw [hsz]; exact h5) ⟨w.heap.size, 0, none⟩ 1 zeroNode (by rw [hsz]; rfl) (zn_cells w) (by simp [zeroNode, Value.oneCell']) (by omega) (by rw [hby]; omega) hrun
  rwa [World.size_alloc] at this
theorem app_kid_where (w : World) (s N cap : Nat) (k : Int) (cur : Array Value) (h2 : w.heap[s]? = some (.cells cur 51 (0, 0))) (h3 : N ≤ cap) (h5 : cur.size = cap * 1) (hlen : N ≤ 600) {s' n' cap' : Nat} {w' : World}
    (hrun : (Builtin.append_ #[59, 59] 59 #[.slice (some ⟨s, 0, none⟩) N cap, .slice (some ⟨w.heap.size, 0, none⟩) 1 1]).run Fahg.prog (w.alloc (.cells #[.int .i16 k] 51)) = .ok (.slice (some ⟨s', 0, none⟩) n' cap') w') : s' = s ∨ s' = w.heap.size + 1 := by
  obtain ⟨i, hi', hz, hsz, hby⟩ := info51
  have hs : s < w.heap.size := (Array.getElem?_eq_some_iff.1 h2).1
  have := app_where (P := Fahg.prog) (w.alloc (.cells #[.int .i16 k] 51)) 59 59 51 i _ Fahg.underlying59 hi' hz s N cap cur ((alloc_old w _ hs).trans h2) h3 (by rw [hsz]; exact h5) ⟨w.heap.size, 0, none⟩ 1 [.int .i16 k] (by rw [hsz]; rfl) (kn_cells w k) (by simp [Value.oneCell']) (by omega) (by rw [hby]; omega) hrun
  rwa [World.size_alloc] at this
theorem app_kid_nil (w : World) (k : Int) {s' n' cap' : Nat} {w' : World}
    (hrun : (Builtin.append_ #[59, 59] 59 #[.slice none 0 0, .slice (some ⟨w.heap.size, 0, none⟩) 1 1]).run Fahg.prog (w.alloc (.cells #[.int .i16 k] 51)) = .ok (.slice (some ⟨s', 0, none⟩) n' cap') w') : s' = w.heap.size + 1 := by
  obtain ⟨i, hi', hz, hsz, hby⟩ := info51
  have hr := run_append_nil (P := Fahg.prog) (w.alloc (.cells #[.int .i16 k] 51)) 59 59 51 i _ Fahg.underlying59 hi' hz ⟨w.heap.size, 0, none⟩ 1 1 [.int .i16 k] (by rw [hsz]; rfl) (kn_cells w k) (by omega) (by omega) (by rw [hby]; omega)
  rw [hr] at hrun
  injection hrun with e1 e2
  injection e1 with e1 e3 e4
  injection e1 with e1
  injection e1 with e1
  rw [World.size_alloc] at e1
  exact e1.symm
/-- An append whose run is known. -/
theorem wpList_app2 {P : Program} {w : World} {ops : Array Oper} {rest : List Oper} {o : Oper} {a : Act} {Q : Exit → Act → World → Prop} (hgd : o.guard = none) (s x : Operand) (t : TypeId)
    (ho : o.op = .call { callee := .builtin .append, args := #[s, x], argTypes := #[t, t] }) (v1 v2 v' : Value) (w' : World) (hs : a.eval s = v1) (hx : a.eval x = v2)
    (hr : (Builtin.append_ #[t, t] o.type #[v1, v2]).run P w = .ok v' w') (h : wpList P ops Q rest (a.put o.dst v') w') : wpList P ops Q (o :: rest) a w :=
  wpList_plain hgd fun _ hK => by
    unfold Oper.wp execOp
    simp only [ho, resolve, invoke, builtin, Sem.run_bind, Sem.run_pure, Result.andThen_ok, List.map_toArray, List.map_cons, List.map_nil, hs, hx, hr]
    exact hK _ _ h
/-- The kids of the node that is being made; j of them. -/
def KRow (wr : World) (G s : Nat) (dA : Option Addr) (kv : Value) (j : Nat) (ku : Nat → Int) : Prop :=
  (kv = .slice none 0 0 ∧ j = 0) ∨ ∃ g cp cu, kv = .slice (some ⟨g, 0, none⟩) j cp ∧ G < g ∧ g ≠ s ∧ (∀ y, dA = some y → y.block ≠ g) ∧ wr.heap[g]? = some (.cells cu 51 (0, 0)) ∧ j ≤ cp ∧ cp ≤ maxLen ∧ cu.size = cp * 1 ∧ cu.toList.take (j * 1) = (List.range j).map (fun q => .int .i16 (ku q))
structure RMem (w0 wr : World) (O F Dd Pp s N cap i : Nat) (cur : Array Value) (src gD gP : Nat → Nat) (nu : Nat → NodeC) (G : Nat) (kd co : Int) (dA : Option Addr) (D : Nat) (dz : Nat → Int) (kv : Value) (j : Nat) (ku : Nat → Int) : Prop where
  m : NMem w0 wr O F Dd Pp s N cap i cur src gD gP nu
  hG : wr.heap[G]? = some (.cells #[.int .u8 kd, .int .u8 co, .slice dA D D, kv] 61 (0, 0))
  lo : O < G ∧ F < G ∧ Dd < G ∧ Pp < G ∧ s ≠ G ∧ w0.heap.size ≤ G
  old : ∀ c, c < i → (∀ y, (nu c).dA = some y → y.block < G) ∧ (∀ y, (nu c).kA = some y → y.block < G)
  dr : IRow wr .u64 dA D dz
  dB : ∀ y, dA = some y → G < y.block ∧ y.block < wr.heap.size ∧ y.block ≠ s
  dn : dA = none → D = 0
  kr : KRow wr G s dA kv j ku
/-- A step that turns but blocks below G (or none at all). -/
theorem RMem.step {w0 wr wr' : World} {O F Dd Pp s N cap i : Nat} {cur : Array Value} {src gD gP src' gD' gP' : Nat → Nat} {nu : Nat → NodeC} {G : Nat} {kd co : Int} {dA : Option Addr} {D : Nat} {dz : Nat → Int} {kv : Value} {j : Nat} {ku : Nat → Int} (h : RMem w0 wr O F Dd Pp s N cap i cur src gD gP nu G kd co dA D dz kv j ku) {Ex : Nat → Prop} (hst : Stp Ex wr wr') (he : ∀ x, Ex x → x < G) (m' : NMem w0 wr' O F Dd Pp s N cap i cur src' gD' gP' nu) :
    RMem w0 wr' O F Dd Pp s N cap i cur src' gD' gP' nu G kd co dA D dz kv j ku := by
  have hGl : G < wr.heap.size := (Array.getElem?_eq_some_iff.1 h.hG).1
  refine ⟨m', (hst.block G hGl fun x => by have := he G x; omega).trans h.hG, h.lo, h.old, hst.irow (fun x hx y => by have := he _ y; have := (h.dB x hx).1; omega) h.dr, fun y hy => ⟨(h.dB y hy).1, Nat.lt_of_lt_of_le (h.dB y hy).2.1 hst.size, (h.dB y hy).2.2⟩, h.dn, ?_⟩
  rcases h.kr with ⟨k1, k2⟩ | ⟨g, cp, cu, k1, k2, k3, k4, k5, k6, k7, k8, k9⟩
  · exact .inl ⟨k1, k2⟩
  · exact .inr ⟨g, cp, cu, k1, k2, k3, k4, (hst.block g (Array.getElem?_eq_some_iff.1 k5).1 fun x => by have := he g x; omega).trans k5, k6, k7, k8, k9⟩
theorem RMem.below {w0 wr wr' : World} {O F Dd Pp s N cap i : Nat} {cur : Array Value} {src gD gP : Nat → Nat} {nu : Nat → NodeC} {G : Nat} {kd co : Int} {dA : Option Addr} {D : Nat} {dz : Nat → Int} {kv : Value} {j : Nat} {ku : Nat → Int} (h : RMem w0 wr O F Dd Pp s N cap i cur src gD gP nu G kd co dA D dz kv j ku) (hb : Below wr.heap.size wr wr') :
    RMem w0 wr' O F Dd Pp s N cap i cur src gD gP nu G kd co dA D dz kv j ku :=
  h.step (Ex := fun _ => False) (Stp.of_below hb) (fun _ x => x.elim) (h.m.below hb)
theorem RMem.kvs {w0 wr : World} {O F Dd Pp s N cap i : Nat} {cur : Array Value} {src gD gP : Nat → Nat} {nu : Nat → NodeC} {G : Nat} {kd co : Int} {dA : Option Addr} {D : Nat} {dz : Nat → Int} {kv : Value} {j : Nat} {ku : Nat → Int} (h : RMem w0 wr O F Dd Pp s N cap i cur src gD gP nu G kd co dA D dz kv j ku) : ∃ (kA : Option Addr) (kC : Nat), kv = .slice kA j kC := by
  rcases h.kr with ⟨k1, k2⟩ | ⟨g, cp, cu, k1, _⟩
  · exact ⟨none, 0, by rw [k1, k2]⟩
  · exact ⟨_, _, k1⟩
theorem RMem.setF {w0 wr : World} {O F Dd Pp s N cap i : Nat} {cur : Array Value} {src gD gP : Nat → Nat} {nu : Nat → NodeC} {G : Nat} {kd co : Int} {dA : Option Addr} {D : Nat} {dz : Nat → Int} {kv : Value} {j : Nat} {ku : Nat → Int} (h : RMem w0 wr O F Dd Pp s N cap i cur src gD gP nu G kd co dA D dz kv j ku) {x : Nat} (hx : x < 512) (z : Nat) :
    RMem w0 (wr.setCell ⟨F, x, none⟩ (.int .i16 ((z : Nat) : Int))) O F Dd Pp s N cap i cur (putF src x z) gD gP nu G kd co dA D dz kv j ku :=
  h.step (Ex := fun y => y = F) ((Stp.refl (fun y => y = F) wr).setCell (p := ⟨F, x, none⟩) (fun _ => rfl) _) (fun y e => by rw [e]; exact h.lo.2.1) (h.m.setF hx z)
theorem RMem.setD {w0 wr : World} {O F Dd Pp s N cap i : Nat} {cur : Array Value} {src gD gP : Nat → Nat} {nu : Nat → NodeC} {G : Nat} {kd co : Int} {dA : Option Addr} {D : Nat} {dz : Nat → Int} {kv : Value} {j : Nat} {ku : Nat → Int} (h : RMem w0 wr O F Dd Pp s N cap i cur src gD gP nu G kd co dA D dz kv j ku) {x : Nat} (hx : x < 512) (z : Nat) :
    RMem w0 (wr.setCell ⟨Dd, x, none⟩ (.int .i64 ((z : Nat) : Int))) O F Dd Pp s N cap i cur src (putF gD x z) gP nu G kd co dA D dz kv j ku :=
  h.step (Ex := fun y => y = Dd) ((Stp.refl (fun y => y = Dd) wr).setCell (p := ⟨Dd, x, none⟩) (fun _ => rfl) _) (fun y e => by rw [e]; exact h.lo.2.2.1) (h.m.setD hx z)
theorem RMem.setP {w0 wr : World} {O F Dd Pp s N cap i : Nat} {cur : Array Value} {src gD gP : Nat → Nat} {nu : Nat → NodeC} {G : Nat} {kd co : Int} {dA : Option Addr} {D : Nat} {dz : Nat → Int} {kv : Value} {j : Nat} {ku : Nat → Int} (h : RMem w0 wr O F Dd Pp s N cap i cur src gD gP nu G kd co dA D dz kv j ku) {x : Nat} (hx : x < 512) (z : Nat) :
    RMem w0 (wr.setCell ⟨Pp, x, none⟩ (.int .i64 ((z : Nat) : Int))) O F Dd Pp s N cap i cur src gD (putF gP x z) nu G kd co dA D dz kv j ku :=
  h.step (Ex := fun y => y = Pp) ((Stp.refl (fun y => y = Pp) wr).setCell (p := ⟨Pp, x, none⟩) (fun _ => rfl) _) (fun y e => by rw [e]; exact h.lo.2.2.2.1) (h.m.setP hx z)
theorem range_putF (ku : Nat → Int) (j : Nat) (k : Int) : (List.range j).map (fun q => (Value.int .i16 (ku q))) ++ [.int .i16 k] = (List.range (j + 1)).map (fun q => .int .i16 (putF ku j k q)) := by
  rw [List.range_succ, List.map_append]
  congr 1
  · apply List.map_congr_left
    intro q hq
    rw [List.mem_range] at hq
    have : q ≠ j := by omega
    simp [putF, this]
  · simp [putF]
/-- m.Kids = append(m.Kids, k). -/
theorem RMem.kid {w0 wr : World} {O F Dd Pp s N cap i : Nat} {cur : Array Value} {src gD gP : Nat → Nat} {nu : Nat → NodeC} {G : Nat} {kd co : Int} {dA : Option Addr} {D : Nat} {dz : Nat → Int} {kv : Value} {j : Nat} {ku : Nat → Int} (h : RMem w0 wr O F Dd Pp s N cap i cur src gD gP nu G kd co dA D dz kv j ku) (hj : j ≤ 600) (k : Int) :
    ∃ (s' cap' : Nat) (w' : World), (Builtin.append_ #[59, 59] 59 #[kv, .slice (some ⟨wr.heap.size, 0, none⟩) 1 1]).run Fahg.prog (wr.alloc (.cells #[.int .i16 k] 51)) = .ok (.slice (some ⟨s', 0, none⟩) (j + 1) cap') w' ∧
      w'.cell? ⟨G, 3, none⟩ = some kv ∧ w'.frozen? ⟨G, 3, none⟩ = false ∧ RMem w0 (w'.setCell ⟨G, 3, none⟩ (.slice (some ⟨s', 0, none⟩) (j + 1) cap')) O F Dd Pp s N cap i cur src gD gP nu G kd co dA D dz (.slice (some ⟨s', 0, none⟩) (j + 1) cap') (j + 1) (putF ku j k) := by
  have hGl : G < wr.heap.size := (Array.getElem?_eq_some_iff.1 h.hG).1
  obtain ⟨l1, l2, l3, l4, l5, l6⟩ := h.lo
  have hsz := h.m.slt
  obtain ⟨s', cap', cur', w', hrun, hgr, hBs, hs', hc1, hc2, hc3, hc4⟩ := app_kid (G + 1) j kv k wr ((List.range j).map fun q => .int .i16 (ku q)) (by simp) (by
    rcases h.kr with ⟨k1, k2⟩ | ⟨g, cp, cu, k1, k2, k3, k4, k5, k6, k7, k8, k9⟩
    · exact .inl ⟨k1, k2⟩
    · exact .inr ⟨g, cp, cu, k1, by omega, k5, k6, k7, k8, k9⟩) hj (by omega)
  have hst : Stp (fun x => kv.ownBlock = some x ∨ x = G) wr (w'.setCell ⟨G, 3, none⟩ (.slice (some ⟨s', 0, none⟩) (j + 1) cap')) :=
    ((((Stp.refl (fun x => kv.ownBlock = some x ∨ x = G) wr).alloc (.cells #[.int .i16 k] 51)).grown hgr fun x hx _ => .inl hx)).setCell (p := ⟨G, 3, none⟩) (fun _ => .inr rfl) _
  have hwh : (kv.ownBlock = some s') ∨ s' = wr.heap.size + 1 := by
    rcases h.kr with ⟨k1, k2⟩ | ⟨g, cp, cu, k1, k2, k3, k4, k5, k6, k7, k8, k9⟩
    · subst k1; exact .inr (app_kid_nil wr k hrun)
    · subst k1
      rcases app_kid_where wr g j cp k cu k5 k6 k8 hj hrun with e | e
      · exact .inl (by rw [e]; rfl)
      · exact .inr e
  have hown : ∀ x, kv.ownBlock = some x → G < x ∧ x ≠ s ∧ (∀ y, dA = some y → y.block ≠ x) ∧ x < wr.heap.size := by
    intro x hx
    rcases h.kr with ⟨k1, k2⟩ | ⟨g, cp, cu, k1, k2, k3, k4, k5, k6, k7, k8, k9⟩
    · subst k1; simp [Value.ownBlock] at hx
    · subst k1
      simp [Value.ownBlock] at hx
      subst hx
      exact ⟨k2, k3, k4, (Array.getElem?_eq_some_iff.1 k5).1⟩
  have hs2 : s' ≠ s ∧ ∀ y, dA = some y → y.block ≠ s' := by
    rcases hwh with e | e
    · exact ⟨(hown _ e).2.1, (hown _ e).2.2.1⟩
    · exact ⟨by omega, fun y hy => by have := (h.dB y hy).2.1; omega⟩
  have hGw : w'.heap[G]? = some (.cells #[.int .u8 kd, .int .u8 co, .slice dA D D, kv] 61 (0, 0)) := by
    rw [hgr.block G (by rw [World.size_alloc]; omega) (fun e => by have := (hown G e.symm).1; omega)]
    exact (alloc_old wr _ hGl).trans h.hG
  refine ⟨s', cap', w', hrun, cell_of_heap hGw rfl, frozen_of_heap hGw 3, ?_⟩
  have hm' : NMem w0 (w'.setCell ⟨G, 3, none⟩ (.slice (some ⟨s', 0, none⟩) (j + 1) cap')) O F Dd Pp s N cap i cur src gD gP nu := by
    refine h.m.step hst (fun x hx => ?_) (fun c hc => ?_)
    · rcases hx with e | e
      · have := hown x e
        exact ⟨by omega, by omega, by omega, by omega, by omega, this.2.1⟩
      · subst e; exact ⟨by omega, by omega, by omega, by omega, by omega, fun e => l5 e.symm⟩
    · refine ⟨fun x hx => ?_, fun x hx => ?_⟩
      · have g1 := (h.old c hc).1 x hx
        rintro (e | e)
        · have := (hown _ e).1; omega
        · omega
      · have g1 := (h.old c hc).2 x hx
        rintro (e | e)
        · have := (hown _ e).1; omega
        · omega
  refine ⟨hm', heap_set hGw 3 _, h.lo, h.old, hst.irow (fun x hx => ?_) h.dr, fun y hy => ⟨(h.dB y hy).1, Nat.lt_of_lt_of_le (h.dB y hy).2.1 hst.size, (h.dB y hy).2.2⟩, h.dn, .inr ⟨s', cap', cur', rfl, by omega, hs2.1, hs2.2, (heap_far (by show s' ≠ G; omega) _).trans hs', hc1, hc2, hc3, ?_⟩⟩
  · have g1 := h.dB x hx
    rintro (e | e)
    · exact (hown _ e).2.2.1 x hx rfl
    · omega
  · rw [hc4]
    exact range_putF ku j k
/-- out.N = append(out.N, Node{}). -/
theorem RMem.node {w0 wr : World} {O F Dd Pp s N cap i : Nat} {cur : Array Value} {src gD gP : Nat → Nat} {nu : Nat → NodeC} {G : Nat} {kd co : Int} {dA : Option Addr} {D : Nat} {dz : Nat → Int} {kv : Value} {j : Nat} {ku : Nat → Int} (h : RMem w0 wr O F Dd Pp s N cap i cur src gD gP nu G kd co dA D dz kv j ku) (hN : N ≤ 600) (hi : i ≤ N) :
    ∃ (s' cap' : Nat) (cur' : Array Value) (w' : World), (Builtin.append_ #[50, 50] 50 #[.slice (some ⟨s, 0, none⟩) N cap, .slice (some ⟨wr.heap.size, 0, none⟩) 1 1]).run Fahg.prog (wr.alloc (.cells #[.int .u8 0, .int .u8 0, .slice none 0 0, .slice none 0 0] 61)) = .ok (.slice (some ⟨s', 0, none⟩) (N + 1) cap') w' ∧
      w'.cell? ⟨O, 0, none⟩ = some (.slice (some ⟨s, 0, none⟩) N cap) ∧ w'.frozen? ⟨O, 0, none⟩ = false ∧ RMem w0 (w'.setCell ⟨O, 0, none⟩ (.slice (some ⟨s', 0, none⟩) (N + 1) cap')) O F Dd Pp s' (N + 1) cap' i cur' src gD gP nu G kd co dA D dz kv j ku := by
  have hGl : G < wr.heap.size := (Array.getElem?_eq_some_iff.1 h.hG).1
  obtain ⟨l1, l2, l3, l4, l5, l6⟩ := h.lo
  obtain ⟨m1, m2, m3, m4, m5, m6, m7, m8, m9, m10⟩ := h.m.ne
  have hsz := h.m.slt
  have hcN : N * 4 ≤ cur.size := by rw [h.m.sz]; exact Nat.mul_le_mul_right _ h.m.nc
  obtain ⟨s', cap', cur', w', hrun, hgr, hBs, hs', hc1, hc2, hc3, hc4⟩ := app_node w0.heap.size N s cap cur wr (cur.toList.take (N * 4)) (by simp; omega) h.m.bs h.m.hs h.m.nc h.m.cm h.m.sz rfl hN (by omega)
  have hwh := app_node_where wr s N cap cur h.m.hs h.m.nc h.m.sz hN hrun
  have hst0 : Stp (fun x => x = s ∨ x = O) wr w' := ((Stp.refl (fun x => x = s ∨ x = O) wr).alloc _).grown hgr fun x hx _ => .inl (by injection hx with hx; exact hx.symm)
  have hst : Stp (fun x => x = s ∨ x = O) wr (w'.setCell ⟨O, 0, none⟩ (.slice (some ⟨s', 0, none⟩) (N + 1) cap')) := hst0.setCell (p := ⟨O, 0, none⟩) (fun _ => .inr rfl) _
  have hOw : w'.heap[O]? = some (.cells #[.slice (some ⟨s, 0, none⟩) N cap, .int .i16 0] 53 (0, 0)) := by
    rw [hgr.block O (by rw [World.size_alloc]; omega) (fun e => by injection e with e; omega)]
    exact (alloc_old wr _ hsz.2).trans h.m.hO
  have hs2 : s' ≠ O ∧ s' ≠ F ∧ s' ≠ Dd ∧ s' ≠ Pp ∧ s' ≠ G := by
    rcases hwh with e | e
    · subst e; exact ⟨m7, m8, m9, m10, l5⟩
    · exact ⟨by omega, by omega, by omega, by omega, by omega⟩
  refine ⟨s', cap', cur', w', hrun, cell_of_heap hOw rfl, frozen_of_heap hOw 0, ?_⟩
  have hcell : ∀ x, x < N * 4 → cur'[x]? = cur[x]? := by
    intro x hx
    have e1 : (cur'.toList.take ((N + 1) * 4))[x]? = (cur.toList.take (N * 4) ++ zeroNode)[x]? := by rw [hc4]
    rw [List.getElem?_take_of_lt (by omega), List.getElem?_append_left (by simp; omega), List.getElem?_take_of_lt (by omega)] at e1
    simpa using e1
  have hnode : ∀ c, c < i → (∀ x, (nu c).dA = some x → ¬(x.block = s ∨ x.block = O)) ∧ (∀ x, (nu c).kA = some x → ¬(x.block = s ∨ x.block = O)) := by
    intro c hc
    have g1 := h.m.rows c hc
    refine ⟨fun x hx => ?_, fun x hx => ?_⟩
    · rintro (e | e)
      · exact (g1.1 x hx).2.2.2.2.2 e
      · exact (g1.1 x hx).2.1 e
    · rintro (e | e)
      · exact (g1.2 x hx).2.2.2.2.2 e
      · exact (g1.2 x hx).2.1 e
  have hrowne : ∀ x : Nat, x < wr.heap.size → x ≠ s → x ≠ s' := by
    intro x h1 h2 e
    rcases hwh with e2 | e2 <;> omega
  have hm' : NMem w0 (w'.setCell ⟨O, 0, none⟩ (.slice (some ⟨s', 0, none⟩) (N + 1) cap')) O F Dd Pp s' (N + 1) cap' i cur' src gD gP nu := by
    refine ⟨h.m.bel.trans (hst.below h.m.bel.size fun k hk => ?_), h.m.bO, h.m.bF, h.m.bD, h.m.bP, hBs, ⟨m1, m2, m3, m4, m5, m6, hs2.1, hs2.2.1, hs2.2.2.1, hs2.2.2.2.1⟩, heap_set hOw 0 _, (heap_far (by show s' ≠ O; exact hs2.1) _).trans hs', hc1, hc2, hc3, hst.arr (fun e => ?_) h.m.aF, hst.arr (fun e => ?_) h.m.aD, hst.arr (fun e => ?_) h.m.aP, fun c hc => ?_, fun c hc => ?_⟩
    · have := h.m.bs; have := h.m.bO; omega
    · omega
    · omega
    · omega
    · obtain ⟨g0, g1, g2, g3, g4⟩ := h.m.nodes c hc
      refine ⟨hst.node (hnode c hc).1 (hnode c hc).2 g0, ?_, ?_, ?_, ?_⟩
      · rw [hcell _ (by omega)]; exact g1
      · rw [hcell _ (by omega)]; exact g2
      · rw [hcell _ (by omega)]; exact g3
      · rw [hcell _ (by omega)]; exact g4
    · have g1 := h.m.rows c hc
      refine ⟨fun x hx => ⟨Nat.lt_of_lt_of_le (g1.1 x hx).1 hst.size, (g1.1 x hx).2.1, (g1.1 x hx).2.2.1, (g1.1 x hx).2.2.2.1, (g1.1 x hx).2.2.2.2.1, hrowne _ (g1.1 x hx).1 (g1.1 x hx).2.2.2.2.2⟩, fun x hx => ⟨Nat.lt_of_lt_of_le (g1.2 x hx).1 hst.size, (g1.2 x hx).2.1, (g1.2 x hx).2.2.1, (g1.2 x hx).2.2.2.1, (g1.2 x hx).2.2.2.2.1, hrowne _ (g1.2 x hx).1 (g1.2 x hx).2.2.2.2.2⟩⟩
  refine ⟨hm', (hst.block G hGl (by rintro (e | e) <;> omega)).trans h.hG, ⟨l1, l2, l3, l4, hs2.2.2.2.2, l6⟩, h.old, hst.irow (fun x hx => ?_) h.dr, fun y hy => ⟨(h.dB y hy).1, Nat.lt_of_lt_of_le (h.dB y hy).2.1 hst.size, hrowne _ (h.dB y hy).2.1 (h.dB y hy).2.2⟩, h.dn, ?_⟩
  · have g1 := h.dB x hx
    rintro (e | e) <;> omega
  · rcases h.kr with ⟨k1, k2⟩ | ⟨g, cp, cu, k1, k2, k3, k4, k5, k6, k7, k8, k9⟩
    · exact .inl ⟨k1, k2⟩
    · have hgl := (Array.getElem?_eq_some_iff.1 k5).1
      exact .inr ⟨g, cp, cu, k1, k2, hrowne g hgl k3, k4, (hst.block g hgl (by rintro (e | e) <;> omega)).trans k5, k6, k7, k8, k9⟩
/-- out.N[i] = m. -/
theorem RMem.fill {w0 wr : World} {O F Dd Pp s N cap i : Nat} {cur : Array Value} {src gD gP : Nat → Nat} {nu : Nat → NodeC} {G : Nat} {kd co : Int} {dA : Option Addr} {D : Nat} {dz : Nat → Int} {kv : Value} {j : Nat} {ku : Nat → Int} (h : RMem w0 wr O F Dd Pp s N cap i cur src gD gP nu G kd co dA D dz kv j ku) (hi : i < N) (hk : 0 ≤ kd ∧ kd ≤ 255) (hc : 0 ≤ co ∧ co ≤ 255) (hD : D ≤ 128) (hku : ∀ q, q < j → (Lit.int .i16 (ku q)).wf = true) :
    ∃ (y : NodeC) (cur' : Array Value), y.kind = kd ∧ y.code = co ∧ y.dL = D ∧ y.dz = dz ∧ y.kL = j ∧ y.kz = ku ∧
      NMem w0 ((((wr.setCell ⟨s, i * 4, none⟩ (.int .u8 kd)).setCell ⟨s, i * 4 + 1, none⟩ (.int .u8 co)).setCell ⟨s, i * 4 + 2, none⟩ (.slice dA D D)).setCell ⟨s, i * 4 + 3, none⟩ kv) O F Dd Pp s N cap (i + 1) cur' src gD gP (putF nu i y) := by
  obtain ⟨l1, l2, l3, l4, l5, l6⟩ := h.lo
  obtain ⟨m1, m2, m3, m4, m5, m6, m7, m8, m9, m10⟩ := h.m.ne
  have hsz := h.m.slt
  have hst : Stp (fun x => x = s) wr ((((wr.setCell ⟨s, i * 4, none⟩ (.int .u8 kd)).setCell ⟨s, i * 4 + 1, none⟩ (.int .u8 co)).setCell ⟨s, i * 4 + 2, none⟩ (.slice dA D D)).setCell ⟨s, i * 4 + 3, none⟩ kv) :=
    ((((Stp.refl (fun x => x = s) wr).setCell (p := ⟨s, i * 4, none⟩) (fun _ => rfl) _).setCell (p := ⟨s, i * 4 + 1, none⟩) (fun _ => rfl) _).setCell (p := ⟨s, i * 4 + 2, none⟩) (fun _ => rfl) _).setCell (p := ⟨s, i * 4 + 3, none⟩) (fun _ => rfl) _
  have hs' := heap_set (heap_set (heap_set (heap_set h.m.hs (i * 4) (.int .u8 kd)) (i * 4 + 1) (.int .u8 co)) (i * 4 + 2) (.slice dA D D)) (i * 4 + 3) kv
  have hcap := h.m.nc
  have hcs := h.m.sz
  generalize ((((wr.setCell ⟨s, i * 4, none⟩ (.int .u8 kd)).setCell ⟨s, i * 4 + 1, none⟩ (.int .u8 co)).setCell ⟨s, i * 4 + 2, none⟩ (.slice dA D D)).setCell ⟨s, i * 4 + 3, none⟩ kv) = w2 at *
  obtain ⟨kA, kC, hkv, k1, k2, k3, k4, k5⟩ : ∃ (kA : Option Addr) (kC : Nat), kv = .slice kA j kC ∧ j ≤ kC ∧ kC ≤ 9223372036854775807 ∧ (kA = none → kC = 0) ∧ IRow wr .i16 kA j ku ∧ ∀ y, kA = some y → G < y.block ∧ y.block < wr.heap.size ∧ y.block ≠ s := by
    rcases h.kr with ⟨k1, k2⟩ | ⟨g, cp, cu, k1, k2, k3, k4, k5, k6, k7, k8, k9⟩
    · exact ⟨none, 0, by rw [k1, k2], by omega, by omega, fun _ => rfl, .inl k2, fun y e => by cases e⟩
    · refine ⟨some ⟨g, 0, none⟩, cp, k1, k6, by simp only [maxLen] at k7; omega, (fun e => by cases e), .inr ⟨g, 0, rfl, fun x hx => ⟨?_, hku x hx⟩⟩, fun y e => ?_⟩
      · rw [Nat.zero_add]
        refine cell_of_heap k5 ?_
        have e1 : (cu.toList.take (j * 1))[x]? = ((List.range j).map fun q => (Value.int .i16 (ku q)))[x]? := by rw [k9]
        rw [List.getElem?_take_of_lt (by omega)] at e1
        simpa [hx] using e1
      · injection e with e
        subst e
        exact ⟨k2, (Array.getElem?_eq_some_iff.1 k5).1, k3⟩
  subst hkv
  refine ⟨⟨kd, co, dA, D, D, kA, j, kC, dz, ku⟩, (((cur.setIfInBounds (i * 4) (.int .u8 kd)).setIfInBounds (i * 4 + 1) (.int .u8 co)).setIfInBounds (i * 4 + 2) (.slice dA D D)).setIfInBounds (i * 4 + 3) (.slice kA j kC), rfl, rfl, rfl, rfl, rfl, rfl, ?_⟩
  have hne : ∀ c, c < i → putF nu i ⟨kd, co, dA, D, D, kA, j, kC, dz, ku⟩ c = nu c := by
    intro c hc
    have : c ≠ i := by omega
    simp [putF, this]
  have hnode : ∀ c, c < i → (∀ x, (nu c).dA = some x → ¬(x.block = s)) ∧ (∀ x, (nu c).kA = some x → ¬(x.block = s)) := fun c hc => ⟨fun x hx => ((h.m.rows c hc).1 x hx).2.2.2.2.2, fun x hx => ((h.m.rows c hc).2 x hx).2.2.2.2.2⟩
  refine ⟨h.m.bel.trans (hst.below h.m.bel.size fun k hk => by have := h.m.bs; omega), h.m.bO, h.m.bF, h.m.bD, h.m.bP, h.m.bs, h.m.ne, (hst.block O hsz.2 (fun e => by omega)).trans h.m.hO, hs', h.m.nc, h.m.cm, by simp [hcs], hst.arr (fun e => by omega) h.m.aF, hst.arr (fun e => by omega) h.m.aD, hst.arr (fun e => by omega) h.m.aP, fun c hc => ?_, fun c hc => ?_⟩
  · by_cases hci : c = i
    · subst hci
      rw [show putF nu c ⟨kd, co, dA, D, D, kA, j, kC, dz, ku⟩ c = ⟨kd, co, dA, D, D, kA, j, kC, dz, ku⟩ from by simp [putF]]
      refine ⟨⟨hk, ‹0 ≤ co ∧ co ≤ 255›, Nat.le_refl _, k1, by show D ≤ _; omega, k2, h.dn, k3, hst.irow (fun x hx e => (h.dB x hx).2.2 e) h.dr, hst.irow (fun x hx e => (k5 x hx).2.2 e) k4⟩, ?_, ?_, ?_, ?_⟩
      · rw [Array.getElem?_setIfInBounds_ne (by omega), Array.getElem?_setIfInBounds_ne (by omega), Array.getElem?_setIfInBounds_ne (by omega), Array.getElem?_setIfInBounds_self_of_lt (by omega)]
      · rw [Array.getElem?_setIfInBounds_ne (by omega), Array.getElem?_setIfInBounds_ne (by omega), Array.getElem?_setIfInBounds_self_of_lt (by simp; omega)]
      · rw [Array.getElem?_setIfInBounds_ne (by omega), Array.getElem?_setIfInBounds_self_of_lt (by simp; omega)]
      · rw [Array.getElem?_setIfInBounds_self_of_lt (by simp; omega)]
    · have hc' : c < i := by omega
      rw [hne c hc']
      obtain ⟨g0, g1, g2, g3, g4⟩ := h.m.nodes c hc'
      refine ⟨hst.node (hnode c hc').1 (hnode c hc').2 g0, ?_, ?_, ?_, ?_⟩
      all_goals rw [Array.getElem?_setIfInBounds_ne (by omega), Array.getElem?_setIfInBounds_ne (by omega), Array.getElem?_setIfInBounds_ne (by omega), Array.getElem?_setIfInBounds_ne (by omega)]
      all_goals assumption
  · by_cases hci : c = i
    · subst hci
      rw [show putF nu c ⟨kd, co, dA, D, D, kA, j, kC, dz, ku⟩ c = ⟨kd, co, dA, D, D, kA, j, kC, dz, ku⟩ from by simp [putF]]
      refine ⟨fun x hx => ?_, fun x hx => ?_⟩
      · have := h.dB x hx
        exact ⟨Nat.lt_of_lt_of_le this.2.1 hst.size, by omega, by omega, by omega, by omega, by omega⟩
      · have := k5 x hx
        exact ⟨Nat.lt_of_lt_of_le this.2.1 hst.size, by omega, by omega, by omega, by omega, by omega⟩
    · have hc' : c < i := by omega
      rw [hne c hc']
      have g1 := h.m.rows c hc'
      exact ⟨fun x hx => ⟨Nat.lt_of_lt_of_le (g1.1 x hx).1 hst.size, (g1.1 x hx).2⟩, fun x hx => ⟨Nat.lt_of_lt_of_le (g1.2 x hx).1 hst.size, (g1.2 x hx).2⟩⟩
/-- m.Data = sized(..), whose row is new. -/
theorem RMem.start {w0 wr wJ : World} {O F Dd Pp s N cap i : Nat} {cur : Array Value} {src gD gP : Nat → Nat} {nu : Nat → NodeC} {G : Nat} {kd co : Int} {dA : Option Addr} {D : Nat} {dz : Nat → Int} (m : NMem w0 wr O F Dd Pp s N cap i cur src gD gP nu) (hG : wr.heap[G]? = some (.cells #[.int .u8 kd, .int .u8 co, .slice none 0 0, .slice none 0 0] 61 (0, 0))) (lo : O < G ∧ F < G ∧ Dd < G ∧ Pp < G ∧ s ≠ G ∧ w0.heap.size ≤ G) (old : ∀ c, c < i → (∀ y, (nu c).dA = some y → y.block < G) ∧ (∀ y, (nu c).kA = some y → y.block < G)) (hb : Below wr.heap.size wr wJ) (dr : IRow wJ .u64 dA D dz) (dB : ∀ y, dA = some y → wr.heap.size ≤ y.block ∧ y.block < wJ.heap.size) (dn : dA = none → D = 0) (ku : Nat → Int) :
    RMem w0 (wJ.setCell ⟨G, 2, none⟩ (.slice dA D D)) O F Dd Pp s N cap i cur src gD gP nu G kd co dA D dz (.slice none 0 0) 0 ku := by
  have hGl : G < wr.heap.size := (Array.getElem?_eq_some_iff.1 hG).1
  have hst : Stp (fun x => x = G) wr (wJ.setCell ⟨G, 2, none⟩ (.slice dA D D)) := (Stp.of_below (Ex := fun x => x = G) hb).setCell (p := ⟨G, 2, none⟩) (fun _ => rfl) _
  have hst2 : Stp (fun x => x = G) wJ (wJ.setCell ⟨G, 2, none⟩ (.slice dA D D)) := (Stp.refl (fun x => x = G) _).setCell (p := ⟨G, 2, none⟩) (fun _ => rfl) _
  have hsl := m.slt
  refine ⟨m.step hst (fun x hx => ?_) (fun c hc => ⟨fun x hx e => ?_, fun x hx e => ?_⟩), heap_set ((hb.block G hGl).trans hG) 2 _, lo, old, hst2.irow (fun x hx e => ?_) dr, fun y hy => ⟨by have := dB y hy; omega, Nat.lt_of_lt_of_le (dB y hy).2 hst2.size, by have := dB y hy; omega⟩, dn, .inl ⟨rfl, rfl⟩⟩
  · subst hx; exact ⟨lo.2.2.2.2.2, by omega, by omega, by omega, by omega, by omega⟩
  · have := (old c hc).1 x hx; omega
  · have := (old c hc).2 x hx; omega
  · have := dB x hx; omega
theorem szw_wf {w : World} {a : Option Addr} {n : Nat} {z : Nat → Int} (h : IRow w .u64 a n z) (k : Nat) : (Lit.int .u64 (szw z n k)).wf = true := by
  unfold szw
  split
  · rename_i hk
    rcases h with h | ⟨b, off, _, hc⟩
    · omega
    · exact (hc k hk).2
  · rfl
/-- sized, of any size. -/
theorem sized_any (a : Option Addr) (len cap m : Nat) (z : Nat → Int) (w : World) (hr : IRow w .u64 a len z) (hm : m ≤ 128) :
    Calls Fahg.prog 83 #[.slice a len cap, .int .i64 ((m : Nat) : Int)] w fun e w' => ∃ dA, e = .returned (.slice dA m m) ∧ Below w.heap.size w w' ∧ IRow w' .u64 dA m (szw z len) ∧ (∀ y, dA = some y → w.heap.size ≤ y.block ∧ y.block < w'.heap.size) ∧ (dA = none → m = 0) := by
  by_cases h0 : m = 0
  · subst h0
    refine Calls.mono (sized_zero a len cap w) ?_
    rintro e w' ⟨rfl, rfl⟩
    exact ⟨none, rfl, Below.refl _ _, .inl rfl, (fun y e => by cases e), fun _ => rfl⟩
  · refine Calls.mono (sized_pos a len cap m z w hr (by omega) hm) ?_
    rintro e w' ⟨rfl, hb, ha⟩
    refine ⟨_, rfl, hb, .inr ⟨_, 0, rfl, fun k hk => ⟨by rw [Nat.zero_add]; exact ha.c k hk, szw_wf hr k⟩⟩, fun y e => ?_, fun e => by cases e⟩
    injection e with e
    subst e
    exact ⟨Nat.le_refl _, ha.lt (by omega)⟩
end Go.Proofs.Ygcfah
