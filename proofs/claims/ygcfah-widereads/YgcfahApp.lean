/- append(nil, words...). -/
import Derived.Test.YgcfahEptr
import Derived.Test.YgcfahOpen
namespace Go.Proofs.Ygcfah
open Go.ChangeShapes Go.WideShapes Go.ChangeAt Go.RowKit
set_option linter.unusedVariables false

theorem i67a : (Fahg.prog.info? 67).bind (·.zero) = some (.int .u64 0) := by kernel_rfl
theorem i67b : (Fahg.prog.info? 67).map (·.size) = some 1 := by kernel_rfl
theorem i67c : (Fahg.prog.info? 67).map (·.bytes) = some 8 := by kernel_rfl
theorem info67 : ∃ i, Fahg.prog.info? 67 = some i ∧ i.zero = some (.int .u64 0) ∧ i.size = 1 ∧ i.bytes = 8 := by
  have a := i67a
  have b := i67b
  have c := i67c
  cases hi : Fahg.prog.info? 67 with
  | none => rw [hi] at b; simp at b
  | some i =>
    rw [hi] at a b c
    exact ⟨i, rfl, by simpa using a, by simpa using b, by simpa using c⟩

theorem getElem?_words (z : Int → Int) (n j : Nat) (u : Value) (h : ((List.range n).map fun k : Nat => Value.int .u64 (z (k : Int)))[j]? = some u) : j < n ∧ u = .int .u64 (z j) := by
  have hj : j < n := by
    have := (List.getElem?_eq_some_iff.1 h).1
    simpa using this
  rw [List.getElem?_map, List.getElem?_range hj] at h
  simp at h
  exact ⟨hj, h.symm⟩

theorem app_some (w : World) (b off n cap : Nat) (z : Int → Int) (hr : Row w b off n z) (hn : n ≤ 257) :
    ∃ v' w', (Builtin.append_ #[38, 38] 38 #[.slice none 0 0, .slice (some ⟨b, off, none⟩) n cap]).run Fahg.prog w = .ok v' w' ∧ Below w.heap.size w w' ∧
      ((n = 0 ∧ v' = .slice none 0 0) ∨ ∃ g cap', v' = .slice (some ⟨g, 0, none⟩) n cap' ∧ w.heap.size ≤ g ∧ g < w'.heap.size ∧ Row w' g 0 n z) := by
  obtain ⟨i, hi, hz, hsz, hby⟩ := info67
  have hm : n ≤ maxLen := by simp [maxLen]; omega
  obtain ⟨v', w', hrun, hown, hgrow, hnil⟩ := run_append_own (P := Fahg.prog) w w.heap.size 38 38 67 i (.int .u64 0) 1 8 Fahg.underlying38 hi hz hsz hby rfl (by decide) (.slice none 0 0) 0 [] (World.ownsRow_nil _ _ _ _) ⟨b, off, none⟩ n cap
    ((List.range n).map fun k : Nat => .int .u64 (z (k : Int))) (by simp) (by
      intro j u hj
      obtain ⟨hjn, rfl⟩ := getElem?_words z n j u hj
      have := (hr (j : Int) (by omega) (by omega)).1
      rw [add_plain]; simpa using this) (by simp [Value.oneCell']) (by simpa using hm) (by omega) (Nat.le_refl _)
  refine ⟨v', w', hrun, ⟨hgrow.os, hgrow.tape, hgrow.output, hgrow.size, fun k hk => hgrow.block k hk (by simp [Value.ownBlock])⟩, ?_⟩
  simp only [Nat.zero_add, List.nil_append] at hown
  rcases hown with ⟨hlen, ⟨hv, h0⟩ | ⟨g, cap', cur, hv, hg, hh, hc1, hc2, hc3, hc4⟩⟩
  · exact .inl ⟨h0, hv⟩
  · refine .inr ⟨g, cap', hv, hg, ?_, ?_⟩
    · rcases Nat.lt_or_ge g w'.heap.size with h | h
      · exact h
      · rw [Array.getElem?_eq_none (by omega)] at hh; simp at hh
    · intro k k0 k1
      have hk : k.toNat < n := by omega
      have e : cur[k.toNat]? = some (.int .u64 (z k)) := by
        have h1 : (cur.toList.take (n * 1))[k.toNat]? = some (.int .u64 (z (k.toNat : Int))) := by
          rw [hc4, List.getElem?_map, List.getElem?_range hk]; rfl
        rw [List.getElem?_take_of_lt (by omega)] at h1
        have e2 : ((k.toNat : Nat) : Int) = k := by omega
        rw [e2] at h1
        simpa using h1
      refine ⟨?_, (hr k k0 k1).2⟩
      simp only [World.cell?, hh]
      simpa using e

theorem app_zero (w : World) (x : Addr) (cap : Nat) :
    ∃ w', (Builtin.append_ #[38, 38] 38 #[.slice none 0 0, .slice (some x) 0 cap]).run Fahg.prog w = .ok (.slice none 0 0) w' ∧ Below w.heap.size w w' := by
  obtain ⟨i, hi, hz, hsz, hby⟩ := info67
  obtain ⟨v', w', hrun, hown, hgrow, hnil⟩ := run_append_own (P := Fahg.prog) w w.heap.size 38 38 67 i (.int .u64 0) 1 8 Fahg.underlying38 hi hz hsz hby rfl (by decide) (.slice none 0 0) 0 [] (World.ownsRow_nil _ _ _ _) x 0 cap
    [] (by simp) (by simp) (by simp) (by simp [maxLen]) (by omega) (Nat.le_refl _)
  have e := hnil.2 ⟨rfl, rfl⟩
  subst e
  exact ⟨w', hrun, ⟨hgrow.os, hgrow.tape, hgrow.output, hgrow.size, fun k hk => hgrow.block k hk (by simp [Value.ownBlock])⟩⟩
theorem app_none (w : World) :
    ∃ w', (Builtin.append_ #[38, 38] 38 #[.slice none 0 0, .slice none 0 0]).run Fahg.prog w = .ok (.slice none 0 0) w' ∧ Below w.heap.size w w' := by
  obtain ⟨i, hi, hz, hsz, hby⟩ := info67
  exact ⟨w, run_append_owned_none w w.heap.size 38 38 67 i 1 Fahg.underlying38 hi _ 0 [] (World.ownsRow_nil _ _ _ _), Below.refl _ _⟩

/-- An append whose run is known. -/
theorem wpList_append_run {P : Program} {w : World} {ops : Array Oper} {rest : List Oper} {o : Oper} {a : Act} {Q : Exit → Act → World → Prop} (hgd : o.guard = none) (s x : Operand) (t : TypeId)
    (ho : o.op = .call { callee := .builtin .append, args := #[s, x], argTypes := #[t, t] }) (v1 v2 v' : Value) (w' : World) (hs : a.eval s = v1) (hx : a.eval x = v2)
    (hr : (Builtin.append_ #[t, t] o.type #[v1, v2]).run P w = .ok v' w') (h : wpList P ops Q rest (a.put o.dst v') w') : wpList P ops Q (o :: rest) a w :=
  wpList_plain hgd fun _ hK => by
    unfold Oper.wp execOp
    simp only [ho, resolve, invoke, builtin, Sem.run_bind, Sem.run_pure, Result.andThen_ok, List.map_toArray, List.map_cons, List.map_nil, hs, hx, hr]
    exact hK _ _ h

/-- Where the words of a slice lie: nowhere, or in a row. -/
def Lies (w : World) (a0 : Option Addr) (n : Nat) (z : Int → Int) : Prop :=
  (a0 = none ∧ n = 0) ∨ (∃ x, a0 = some x ∧ n = 0) ∨ ∃ b off, a0 = some ⟨b, off, none⟩ ∧ b < w.heap.size ∧ Row w b off n z
theorem Lies.below {w w' : World} {a0 : Option Addr} {n : Nat} {z : Int → Int} (h : Lies w a0 n z) (hb : Below w.heap.size w w') : Lies w' a0 n z := by
  rcases h with h | h | ⟨b, off, e, hlt, hr⟩
  · exact .inl h
  · exact .inr (.inl h)
  · exact .inr (.inr ⟨b, off, e, Nat.lt_of_lt_of_le hlt hb.size, hr.below hb hlt⟩)

theorem app_any (w : World) (a0 : Option Addr) (n cap : Nat) (z : Int → Int) (hs : Lies w a0 n z) (hc : a0 = none → cap = 0) (hn : n ≤ 257) :
    ∃ a1 cap1 w', (Builtin.append_ #[38, 38] 38 #[.slice none 0 0, .slice a0 n cap]).run Fahg.prog w = .ok (.slice a1 n cap1) w' ∧ Below w.heap.size w w' ∧
      ((n = 0 ∧ a1 = none) ∨ ∃ g, a1 = some ⟨g, 0, none⟩ ∧ w.heap.size ≤ g ∧ g < w'.heap.size ∧ Row w' g 0 n z) := by
  rcases hs with ⟨rfl, rfl⟩ | ⟨x, rfl, rfl⟩ | ⟨b, off, rfl, hlt, hr⟩
  · have e := hc rfl
    subst e
    obtain ⟨w', h, hb⟩ := app_none w
    exact ⟨none, 0, w', h, hb, .inl ⟨rfl, rfl⟩⟩
  · obtain ⟨w', h, hb⟩ := app_zero w x cap
    exact ⟨none, 0, w', h, hb, .inl ⟨rfl, rfl⟩⟩
  · obtain ⟨v', w', h, hb, ⟨rfl, rfl⟩ | ⟨g, cap', rfl, hg, hg2, hr'⟩⟩ := app_some w b off n cap z hr hn
    · exact ⟨none, 0, w', h, hb, .inl ⟨rfl, rfl⟩⟩
    · exact ⟨_, cap', w', h, hb, .inr ⟨g, rfl, hg, hg2, hr'⟩⟩

/-- The world in the midst of law.WideReads: the argument's box P0, the Reader R, the copy of the arena. -/
structure RS (w : World) (R : Nat) (a1 : Option Addr) (L cap1 : Nat) (z : Int → Int) (q1 q2 q3 q4 q5 q6 : Int) (Lf : Int) (W : World) : Prop where
  below : Below w.heap.size w W
  p : ∀ o, W.cell? ⟨w.heap.size, o, none⟩ = #[Value.int .u8 q1, .int .u16 q2, .int .u8 q3, .int .u8 q4, .int .u8 q5, .int .u32 q6][o]?
  rdr : IsRdr W R (.slice a1 L cap1) Lf
  lt : w.heap.size < R
  row : (L = 0 ∧ a1 = none) ∨ ∃ g, a1 = some ⟨g, 0, none⟩ ∧ g ≠ R ∧ g < W.heap.size ∧ Row W g 0 L z
theorem RS.step {w : World} {R : Nat} {a1 : Option Addr} {L cap1 : Nat} {z : Int → Int} {q1 q2 q3 q4 q5 q6 Lf Lf' : Int} {W W' : World} (h : RS w R a1 L cap1 z q1 q2 q3 q4 q5 q6 Lf W) (ho : Off R W W') (hi : IsRdr W' R (.slice a1 L cap1) Lf') :
    RS w R a1 L cap1 z q1 q2 q3 q4 q5 q6 Lf' W' := by
  have hlt := h.rdr.lt
  have h1 := h.lt
  refine ⟨h.below.trans (ho.below (by omega) (by have := h.below.size; omega)), fun o => (ho.cell (by omega) (by omega)).trans (h.p o), hi, h1, ?_⟩
  rcases h.row with hr | ⟨g, e, hne, hg, hr⟩
  · exact .inl hr
  · exact .inr ⟨g, e, hne, Nat.lt_of_lt_of_le hg ho.size, hr.off ho hg hne⟩
theorem RS.stay {w : World} {R : Nat} {a1 : Option Addr} {L cap1 : Nat} {z : Int → Int} {q1 q2 q3 q4 q5 q6 Lf : Int} {W W' : World} (h : RS w R a1 L cap1 z q1 q2 q3 q4 q5 q6 Lf W) (hb : Below W.heap.size W W') :
    RS w R a1 L cap1 z q1 q2 q3 q4 q5 q6 Lf W' := h.step (Off.of_below hb) (h.rdr.below hb)
end Go.Proofs.Ygcfah
