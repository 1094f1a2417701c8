/- Opening tree.Node and tree.Tree. -/
import Derived.Test.YgcfahOpen
import Derived.Deep.Slices
namespace Go.Proofs.Ygcfah
open Go.ChangeShapes Go.WideShapes Go.ChangeAt Go.RowKit
set_option linter.unusedVariables false
set_option linter.unusedSimpArgs false

theorem cells38 : Fahg.prog.cellsOf 38 = 1 := by kernel_rfl
theorem cells59 : Fahg.prog.cellsOf 59 = 1 := by kernel_rfl
theorem cells51 : Fahg.prog.cellsOf 51 = 1 := by kernel_rfl
theorem cells61 : Fahg.prog.cellsOf 61 = 4 := by kernel_rfl
theorem bnd_i16 {x : Int} (h : (Lit.int .i16 x).wf = true) : -32768 ≤ x ∧ x ≤ 32767 := by
  simp [Lit.wf, IntKind.min, IntKind.max, IntKind.signed, IntKind.bits] at h; omega
/-- n cells from ⟨b, off⟩ on hold the numbers z 0, z 1, .. of the kind k. -/
def IRow (w : World) (k : IntKind) (a : Option Addr) (n : Nat) (z : Nat → Int) : Prop :=
  n = 0 ∨ ∃ b off, a = some ⟨b, off, none⟩ ∧ ∀ i, i < n → w.cell? ⟨b, off + i, none⟩ = some (.int k (z i)) ∧ (Lit.int k (z i)).wf = true
theorem open_irow {H : Type} {enc : TypeId × Value → H} {w : World} {base : Nat} {held : Bool} {t e : TypeId} {k : IntKind} {fuel : Nat} {v : Value} {x : DataW H × List MemPlace}
    (ht : Fahg.prog.underlying t = some (.slice e)) (he : Fahg.prog.underlying e = some (.int k)) (hc : Fahg.prog.cellsOf e = 1) (h : DataW.trod enc Fahg.prog w base (fun _ => true) held fuel t [v] = some x) :
    ∃ (a : Option Addr) (len cap : Nat) (z : Nat → Int), v = .slice a len cap ∧ len ≤ cap ∧ cap ≤ 9223372036854775807 ∧ (a = none → cap = 0) ∧ IRow w k a len z := by
  rcases open_ints ht he hc h with ⟨hcs, _⟩ | ⟨y, l, c, zs, hcs, _, hl, hm, hz, _, hcell, hwz⟩
  · simp at hcs
    exact ⟨none, 0, 0, fun _ => 0, hcs, Nat.le_refl _, by omega, fun _ => rfl, .inl rfl⟩
  · simp at hcs
    subst hcs
    simp only [if_true] at hz
    refine ⟨some y, l, c, fun i => zs.getD i 0, rfl, hl, hm, by simp, ?_⟩
    by_cases h0 : l = 0
    · exact .inl h0
    · right
      obtain ⟨b, off, spot⟩ := y
      have hspot : spot = none := by simpa [Addr.add] using World.cell?_spot (hcell 0 (by omega))
      subst hspot
      refine ⟨b, off, rfl, fun i hi => ?_⟩
      have e := hcell i (by omega)
      rw [add_plain] at e
      have hmem : zs.getD i 0 ∈ zs := by rw [List.getD_eq_getElem?_getD, List.getElem?_eq_getElem (by omega)]; simp
      exact ⟨e, hwz _ hmem⟩
theorem array4 {α : Type} {cs : List α} (h : cs.length = 4) : ∃ c0 c1 c2 c3, cs = [c0, c1, c2, c3] := by
  match cs, h with
  | [c0, c1, c2, c3], _ => exact ⟨c0, c1, c2, c3, rfl⟩
/-- A node's four cells. -/
theorem open_node {H : Type} {enc : TypeId × Value → H} {w : World} {base : Nat} {held : Bool} {fuel : Nat} {cs : List Value} {x : DataW H × List MemPlace}
    (h : DataW.trod enc Fahg.prog w base (fun _ => true) held fuel 61 cs = some x) :
    ∃ (kind code : Int) (dA kA : Option Addr) (dL dC kL kC : Nat) (dz kz : Nat → Int), cs = [.int .u8 kind, .int .u8 code, .slice dA dL dC, .slice kA kL kC] ∧ (0 ≤ kind ∧ kind ≤ 255) ∧ (0 ≤ code ∧ code ≤ 255) ∧ dL ≤ dC ∧ kL ≤ kC ∧ dC ≤ 9223372036854775807 ∧ kC ≤ 9223372036854775807 ∧ (dA = none → dC = 0) ∧ (kA = none → kC = 0) ∧ IRow w .u64 dA dL dz ∧ IRow w .i16 kA kL kz := by
  obtain ⟨xs, n, _, _, hcl, hlen, hfs⟩ := DataW.trod_struct Fahg.underlying61 h
  obtain ⟨a0, a1, a2, a3, rfl⟩ := array4 (hcl.trans cells61)
  have hlen : xs.length = 4 := hlen
  have g0 := hfs 0 _ rfl
  have g1 := hfs 1 _ rfl
  have g2 := hfs 2 _ rfl
  have g3 := hfs 3 _ rfl
  rw [List.getElem?_eq_getElem (by omega)] at g0 g1 g2 g3
  obtain ⟨q1, e1, _, w1⟩ := DataW.trod_int Fahg.underlying5 g0
  obtain ⟨q2, e2, _, w2⟩ := DataW.trod_int Fahg.underlying5 g1
  simp [cells5] at e1 e2
  subst e1 e2
  obtain ⟨dA, dL, dC, dz, hd, d1, d4, d2, d3⟩ := open_irow (v := a2) Fahg.underlying38 Fahg.underlying67 cells67 (by simpa [cells38] using g2)
  obtain ⟨kA, kL, kC, kz, hk, k1, k4, k2, k3⟩ := open_irow (v := a3) Fahg.underlying59 Fahg.underlying51 cells51 (by simpa [cells59] using g3)
  subst hd hk
  exact ⟨q1, q2, dA, kA, dL, dC, kL, kC, dz, kz, rfl, bnd_u8 w1, bnd_u8 w2, d1, k1, d4, k4, d2, k2, d3, k3⟩
end Go.Proofs.Ygcfah
