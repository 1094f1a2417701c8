/- Opening tree.Tree. -/
import Derived.Test.YgcfahTopen
namespace Go.Proofs.Ygcfah
open Go.ChangeShapes Go.WideShapes Go.ChangeAt Go.RowKit
set_option linter.unusedVariables false
set_option linter.unusedSimpArgs false

/-- A node as it lies in memory. -/
structure NodeC where
  kind : Int
  code : Int
  dA : Option Addr
  dL : Nat
  dC : Nat
  kA : Option Addr
  kL : Nat
  kC : Nat
  dz : Nat → Int
  kz : Nat → Int
instance : Inhabited NodeC := ⟨⟨0, 0, none, 0, 0, none, 0, 0, fun _ => 0, fun _ => 0⟩⟩
structure NodeOk (w : World) (nd : NodeC) : Prop where
  k : 0 ≤ nd.kind ∧ nd.kind ≤ 255
  c : 0 ≤ nd.code ∧ nd.code ≤ 255
  dl : nd.dL ≤ nd.dC
  kl : nd.kL ≤ nd.kC
  dm : nd.dC ≤ 9223372036854775807
  km : nd.kC ≤ 9223372036854775807
  dn : nd.dA = none → nd.dC = 0
  kn : nd.kA = none → nd.kC = 0
  d : IRow w .u64 nd.dA nd.dL nd.dz
  i : IRow w .i16 nd.kA nd.kL nd.kz
/-- The nodes of a tree in memory. -/
def NRow (w : World) (a : Option Addr) (n : Nat) (nd : Nat → NodeC) : Prop :=
  n = 0 ∨ ∃ b off, a = some ⟨b, off, none⟩ ∧ ∀ i, i < n → NodeOk w (nd i) ∧ w.cell? ⟨b, off + i * 4, none⟩ = some (.int .u8 (nd i).kind) ∧ w.cell? ⟨b, off + i * 4 + 1, none⟩ = some (.int .u8 (nd i).code) ∧ w.cell? ⟨b, off + i * 4 + 2, none⟩ = some (.slice (nd i).dA (nd i).dL (nd i).dC) ∧ w.cell? ⟨b, off + i * 4 + 3, none⟩ = some (.slice (nd i).kA (nd i).kL (nd i).kC)
theorem open_nodes {H : Type} {enc : TypeId × Value → H} {w : World} {base : Nat} {held : Bool} {fuel : Nat} {v : Value} {x : DataW H × List MemPlace}
    (h : DataW.trod enc Fahg.prog w base (fun _ => true) held fuel 50 [v] = some x) :
    ∃ (a : Option Addr) (len cap : Nat) (nd : Nat → NodeC), v = .slice a len cap ∧ len ≤ cap ∧ cap ≤ 9223372036854775807 ∧ (a = none → cap = 0) ∧ NRow w a len nd := by
  rcases Go.Deep.open_slice Fahg.underlying50 h with ⟨hcs, _⟩ | ⟨y, l, c, m, n, D, Pl, hcs, _, hl, hm, hmm, _, hel⟩
  · simp at hcs
    exact ⟨none, 0, 0, fun _ => default, hcs, Nat.le_refl _, by omega, fun _ => rfl, .inl rfl⟩
  · simp at hcs
    subst hcs
    simp only [if_true] at hmm
    subst hmm
    by_cases h0 : l = 0
    · exact ⟨some y, l, m, fun _ => default, rfl, hl, hm, by simp, .inl h0⟩
    · obtain ⟨b, off, spot⟩ := y
      have hspot : spot = none := by
        obtain ⟨cs', hc, ht⟩ := hel 0 (by omega)
        obtain ⟨kind, code, dA, kA, dL, dC, kL, kC, dz, kz, rfl, _⟩ := open_node ht
        have h1 := (World.cells?_some hc).2.2 0 (by rw [cells61]; omega)
        cases spot with
        | none => rfl
        | some q => simpa [Addr.add] using World.cell?_spot h1
      subst hspot
      rw [cells61] at hel
      obtain ⟨nd, hnd⟩ := Go.Deep.choose_lt (n := l) (p := fun i (nd : NodeC) => NodeOk w nd ∧ w.cell? ⟨b, off + i * 4, none⟩ = some (.int .u8 nd.kind) ∧ w.cell? ⟨b, off + i * 4 + 1, none⟩ = some (.int .u8 nd.code) ∧ w.cell? ⟨b, off + i * 4 + 2, none⟩ = some (.slice nd.dA nd.dL nd.dC) ∧ w.cell? ⟨b, off + i * 4 + 3, none⟩ = some (.slice nd.kA nd.kL nd.kC)) (fun i hi => by
        obtain ⟨cs', hc, ht⟩ := hel i (by omega)
        obtain ⟨kind, code, dA, kA, dL, dC, kL, kC, dz, kz, rfl, b1, b2, b3, b4, b9, b10, b5, b6, b7, b8⟩ := open_node ht
        have h1 := (World.cells?_some hc).2.2
        rw [add_plain] at h1
        have e0 := h1 0 (by omega)
        have e1 := h1 1 (by omega)
        have e2 := h1 2 (by omega)
        have e3 := h1 3 (by omega)
        rw [add_plain] at e0 e1 e2 e3
        exact ⟨⟨kind, code, dA, dL, dC, kA, kL, kC, dz, kz⟩, ⟨b1, b2, b3, b4, b9, b10, b5, b6, b7, b8⟩, by simpa using e0, by simpa using e1, by simpa using e2, by simpa using e3⟩)
      exact ⟨_, l, m, nd, rfl, hl, hm, by simp, .inr ⟨b, off, rfl, hnd⟩⟩
set_option maxRecDepth 100000 in
/-- tree.Tree, by value. -/
theorem open_tree {H : Type} {enc : TypeId × Value → H} {w : World} {base : Nat} {held : Bool} {r : Reach} {b0 : Nat} {v : Value} {d : DataW H} {p : List MemPlace}
    (hv : Value.okWide Fahg.prog w r b0 53 v) (h : DataW.Trod enc Fahg.prog w base (fun _ => true) held 53 v d p) :
    ∃ (a : Option Addr) (len cap : Nat) (root : Int) (nd : Nat → NodeC), v = .agg #[.slice a len cap, .int .i16 root] ∧ (-32768 ≤ root ∧ root ≤ 32767) ∧ len ≤ cap ∧ cap ≤ 9223372036854775807 ∧ (a = none → cap = 0) ∧ NRow w a len nd := by
  obtain ⟨cs, rfl, hsz⟩ := okWide_struct Fahg.underlying53 hv
  obtain ⟨fuel, hf⟩ := h
  obtain ⟨xs, n, _, _, hcl, hlen, hfs⟩ := DataW.trod_struct Fahg.underlying53 hf
  have hlen : xs.length = 2 := hlen
  obtain ⟨l⟩ := cs
  have hl2 : l.length = 2 := hsz.trans (by kernel_rfl)
  match l, hl2 with
  | [a0, a1], _ =>
    have g0 := hfs 0 _ rfl
    have g1 := hfs 1 _ rfl
    rw [List.getElem?_eq_getElem (by omega)] at g0 g1
    obtain ⟨q1, e1, _, w1⟩ := DataW.trod_int Fahg.underlying51 g1
    simp [Value.cells, cells51] at e1
    subst e1
    obtain ⟨a, len, cap, nd, hv2, k1, k4, k2, k3⟩ := open_nodes (v := a0) (by simpa [Value.cells, show Fahg.prog.cellsOf 50 = 1 from by kernel_rfl] using g0)
    subst hv2
    exact ⟨a, len, cap, q1, nd, rfl, bnd_i16 w1, k1, k4, k2, k3⟩
end Go.Proofs.Ygcfah
