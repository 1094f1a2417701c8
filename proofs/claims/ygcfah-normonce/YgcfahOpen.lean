/- Opening arguments: a row of words, a wide.Ptr. -/
import Derived.Test.YgcfahWideS
import Derived.ProofKit
import Derived.OpenShut
import Derived.ChangeOld
import Derived.Below
namespace Go.Proofs.Ygcfah
open Go.ChangeShapes Go.WideShapes Go.ChangeAt Go.RowKit
set_option linter.unusedVariables false

theorem own : ownKnob Fahg.prog.godebug = none := by kernel_rfl

theorem laidOut : laidOutB Fahg.prog = true := by kernel_rfl

theorem bnd_u8 {x : Int} (h : (Lit.int .u8 x).wf = true) : 0 ≤ x ∧ x ≤ 255 := by
  simp [Lit.wf, IntKind.min, IntKind.max, IntKind.signed, IntKind.bits] at h; omega
theorem bnd_u16 {x : Int} (h : (Lit.int .u16 x).wf = true) : 0 ≤ x ∧ x ≤ 65535 := by
  simp [Lit.wf, IntKind.min, IntKind.max, IntKind.signed, IntKind.bits] at h; omega
theorem bnd_u32 {x : Int} (h : (Lit.int .u32 x).wf = true) : 0 ≤ x ∧ x ≤ 4294967295 := by
  simp [Lit.wf, IntKind.min, IntKind.max, IntKind.signed, IntKind.bits] at h; omega
theorem bnd_u64 {x : Int} (h : (Lit.int .u64 x).wf = true) : U64 x := by
  simp [Lit.wf, IntKind.min, IntKind.max, IntKind.signed, IntKind.bits] at h; exact ⟨by omega, by omega⟩

theorem cells78 : Fahg.prog.cellsOf 78 = 6 := by kernel_rfl
theorem cells5 : Fahg.prog.cellsOf 5 = 1 := by kernel_rfl
theorem cells23 : Fahg.prog.cellsOf 23 = 1 := by kernel_rfl
theorem cells76 : Fahg.prog.cellsOf 76 = 1 := by kernel_rfl
theorem cells67 : Fahg.prog.cellsOf 67 = 1 := by kernel_rfl
theorem array6 {α : Type} {cs : Array α} (h : cs.size = 6) : ∃ c0 c1 c2 c3 c4 c5, cs = #[c0, c1, c2, c3, c4, c5] := by
  obtain ⟨l⟩ := cs
  match l, h with
  | [c0, c1, c2, c3, c4, c5], _ => exact ⟨c0, c1, c2, c3, c4, c5, rfl⟩

set_option maxRecDepth 100000 in
theorem open_wptr {H : Type} {enc : TypeId × Value → H} {w : World} {base : Nat} {spare : Nat → Bool} {held : Bool} {r : Reach} {b0 : Nat} {v : Value} {d : DataW H} {p : List MemPlace}
    (hv : Value.okWide Fahg.prog w r b0 78 v) (h : DataW.Trod enc Fahg.prog w base spare held 78 v d p) :
    ∃ q1 q2 q3 q4 q5 q6 : Int, v = .agg #[.int .u8 q1, .int .u16 q2, .int .u8 q3, .int .u8 q4, .int .u8 q5, .int .u32 q6] ∧ WP.ok ⟨q1, q2, q3, q4, q5, q6⟩ := by
  obtain ⟨cs, rfl, hsz⟩ := okWide_struct Fahg.underlying78 hv
  obtain ⟨a0, a1, a2, a3, a4, a5, rfl⟩ := array6 (hsz.trans cells78)
  obtain ⟨fuel, hf⟩ := h
  obtain ⟨xs, n, _, _, _, hlen, hfs⟩ := DataW.trod_struct Fahg.underlying78 hf
  simp at hlen
  have g0 := hfs 0 _ rfl
  have g1 := hfs 1 _ rfl
  have g2 := hfs 2 _ rfl
  have g3 := hfs 3 _ rfl
  have g4 := hfs 4 _ rfl
  have g5 := hfs 5 _ rfl
  rw [List.getElem?_eq_getElem (by omega)] at g0 g1 g2 g3 g4 g5
  obtain ⟨q1, e1, _, w1⟩ := DataW.trod_int Fahg.underlying5 g0
  obtain ⟨q2, e2, _, w2⟩ := DataW.trod_int Fahg.underlying23 g1
  obtain ⟨q3, e3, _, w3⟩ := DataW.trod_int Fahg.underlying5 g2
  obtain ⟨q4, e4, _, w4⟩ := DataW.trod_int Fahg.underlying5 g3
  obtain ⟨q5, e5, _, w5⟩ := DataW.trod_int Fahg.underlying5 g4
  obtain ⟨q6, e6, _, w6⟩ := DataW.trod_int Fahg.underlying76 g5
  simp [Value.cells, cells5, cells23, cells76] at e1 e2 e3 e4 e5 e6
  subst e1 e2 e3 e4 e5 e6
  have b1 := bnd_u8 w1
  have b2 := bnd_u16 w2
  have b3 := bnd_u8 w3
  have b4 := bnd_u8 w4
  have b5 := bnd_u8 w5
  have b6 := bnd_u32 w6
  exact ⟨q1, q2, q3, q4, q5, q6, rfl, ⟨b1.1, b1.2, b2.1, b2.2, b3.1, b3.2, b4.1, b4.2, b5.1, b5.2, b6.1, b6.2⟩⟩

/-- A slice of words that came in: it is nil; or it leads to a row. -/
def SliceRow (w : World) (a : Option Addr) (len cap : Nat) : Prop :=
  (a = none ∧ len = 0 ∧ cap = 0) ∨ ∃ b off z, a = some ⟨b, off, none⟩ ∧ len ≤ cap ∧ cap ≤ maxLen ∧ Row w b off cap z

theorem open_words {H : Type} {enc : TypeId × Value → H} {W : World} {base : Nat} {held : Bool} {a0 : Option Addr} {len cap : Nat} {d : DataW H} {p : List MemPlace}
    (h : DataW.Trod enc Fahg.prog W base (fun _ => true) held 38 (.slice a0 len cap) d p) : SliceRow W a0 len cap ∨ (∃ x, a0 = some x ∧ cap = 0 ∧ len = 0) := by
  obtain ⟨fuel, hf⟩ := h
  rcases open_ints Fahg.underlying38 Fahg.underlying67 cells67 hf with ⟨hcs, _⟩ | ⟨x, l, c, zs, hcs, _, hl, hm, hz, _, hcell, hwz⟩
  · simp [Value.cells] at hcs
    exact .inl (.inl hcs)
  · simp [Value.cells] at hcs
    obtain ⟨rfl, rfl, rfl⟩ := hcs
    simp only [if_true] at hz
    by_cases hc0 : cap = 0
    · exact .inr ⟨x, rfl, hc0, by omega⟩
    · obtain ⟨b, off, spot⟩ := x
      have hspot : spot = none := by simpa [Addr.add] using World.cell?_spot (hcell 0 (by omega))
      subst hspot
      refine .inl (.inr ⟨b, off, fun i => zs.getD i.toNat 0, rfl, hl, hm, ?_⟩)
      intro i h0 h1
      have hi : i.toNat < zs.length := by omega
      have e := hcell i.toNat hi
      refine ⟨by rw [add_plain] at e; exact e, ?_⟩
      have hmem : zs.getD i.toNat 0 ∈ zs := by rw [List.getD_eq_getElem?_getD, List.getElem?_eq_getElem hi]; simp
      exact bnd_u64 (hwz _ hmem)
end Go.Proofs.Ygcfah
