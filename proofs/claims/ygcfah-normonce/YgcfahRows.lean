/-
  No cell of these rows narrows 'for every input' (looked for: loops, veiled, ifaces, maps, wideKeys, modest, calm, conditions, laid).
  DERIVED. THE GIVEN ROWS OF THIS SEAT. 10 by the template 'for every input the law returns true; each argument reads behind the call as it read before'; 0 by the template 'total and deterministic' (their statements: YgcfahTotals.lean).
  GIVEN WITH THE SEED: the statements are not yours to turn. If you find one false, say at which input.
  Laid BY PROGRAM, IN A SANDBOX (cutbox-rows.mjs): the forced cells as the released guide's own fill.sh prints them over the translation a4005221e0b8831f… (all of the seat's roots in one cut). By AI agents, Wed Nov 11 2026. No macro, syntax, notation, axiom, sorry.
-/
import Derived.Test.YgcfahChecked
import GoSem.Claim
import GoSem.ClaimJoined
import GoSem.ClaimMapViews
import Derived.JoinedTies
import Derived.KernelRfl
namespace Go.Proofs.Ygcfah
/- THE CELL 'sum', in the pinned program and in every row, IS THE sha256 OF THE DUMP (.gsa) THAT YgcfahProg.lean LOADS. Nothing in Lean hashes anything: it is a label: what it is worth is what the hold of that sum in a sandbox is worth. -/
noncomputable def Fahg.pinned : Pinned := { name := "ygcfah", sum := "a4005221e0b8831f697c59bf30beeefc155078058dadd8a76ec6114c4ed32c6c", checked := Fahg.checked }
namespace Rows
def none {H : Type} : Left H := { results := [], args := [] }

/-- 'law.SegHostile': WHATEVER THE INPUT: true; the input reads as it did. -/
def segHostileSpec : ChangeSpec := { name := "segHostile", fn := fun _ => fun
  | [d1, d2, d3, d4] => { results := [.lit (.bool true)], args := [d1, d2, d3, d4] }
  | _ => none }
def segHostileRow : OpenClaim := { program := "ygcfah", sum := "a4005221e0b8831f697c59bf30beeefc155078058dadd8a76ec6114c4ed32c6c", func := "wordview/law.SegHostile", spec := "segHostile", apart := false }
def SegHostileSaid : Prop := segHostileRow.holds Fahg.pinned (OpenSpec.ofChange segHostileSpec)

/-- ITS FALSE NEIGHBOUR: 'it returns false'. Refute it at one input. -/
def segHostileWrong : ChangeSpec := { name := "segHostile", fn := fun _ => fun
  | [d1, d2, d3, d4] => { results := [.lit (.bool false)], args := [d1, d2, d3, d4] }
  | _ => none }
def SegHostileWrongFalsely : Prop := segHostileRow.holds Fahg.pinned (OpenSpec.ofChange segHostileWrong)

/-- 'law.EmptyNil': WHATEVER THE INPUT: true; the input reads as it did. -/
def emptyNilSpec : ChangeSpec := { name := "emptyNil", fn := fun _ => fun
  | [d] => { results := [.lit (.bool true)], args := [d] }
  | _ => none }
def emptyNilRow : OpenClaim := { program := "ygcfah", sum := "a4005221e0b8831f697c59bf30beeefc155078058dadd8a76ec6114c4ed32c6c", func := "wordview/law.EmptyNil", spec := "emptyNil", apart := false }
def EmptyNilSaid : Prop := emptyNilRow.holds Fahg.pinned (OpenSpec.ofChange emptyNilSpec)

/-- ITS FALSE NEIGHBOUR: 'it returns false'. Refute it at one input. -/
def emptyNilWrong : ChangeSpec := { name := "emptyNil", fn := fun _ => fun
  | [d] => { results := [.lit (.bool false)], args := [d] }
  | _ => none }
def EmptyNilWrongFalsely : Prop := emptyNilRow.holds Fahg.pinned (OpenSpec.ofChange emptyNilWrong)

/-- 'law.CheckMeans': WHATEVER THE INPUT: true; the input reads as it did. -/
def checkMeansSpec : ChangeSpec := { name := "checkMeans", fn := fun _ => fun
  | [d] => { results := [.lit (.bool true)], args := [d] }
  | _ => none }
def checkMeansRow : OpenClaim := { program := "ygcfah", sum := "a4005221e0b8831f697c59bf30beeefc155078058dadd8a76ec6114c4ed32c6c", func := "wordview/law.CheckMeans", spec := "checkMeans", recurses := true, apart := false }
def CheckMeansSaid : Prop := checkMeansRow.holds Fahg.pinned (OpenSpec.ofChange checkMeansSpec)

/-- ITS FALSE NEIGHBOUR: 'it returns false'. Refute it at one input. -/
def checkMeansWrong : ChangeSpec := { name := "checkMeans", fn := fun _ => fun
  | [d] => { results := [.lit (.bool false)], args := [d] }
  | _ => none }
def CheckMeansWrongFalsely : Prop := checkMeansRow.holds Fahg.pinned (OpenSpec.ofChange checkMeansWrong)

/-- 'law.NormOnce': WHATEVER THE INPUT: true; the input reads as it did. -/
def normOnceSpec : ChangeSpec := { name := "normOnce", fn := fun _ => fun
  | [d1, d2] => { results := [.lit (.bool true)], args := [d1, d2] }
  | _ => none }
def normOnceRow : OpenClaim := { program := "ygcfah", sum := "a4005221e0b8831f697c59bf30beeefc155078058dadd8a76ec6114c4ed32c6c", func := "wordview/law.NormOnce", spec := "normOnce", apart := false }
def NormOnceSaid : Prop := normOnceRow.holds Fahg.pinned (OpenSpec.ofChange normOnceSpec)

/-- ITS FALSE NEIGHBOUR: 'it returns false'. Refute it at one input. -/
def normOnceWrong : ChangeSpec := { name := "normOnce", fn := fun _ => fun
  | [d1, d2] => { results := [.lit (.bool false)], args := [d1, d2] }
  | _ => none }
def NormOnceWrongFalsely : Prop := normOnceRow.holds Fahg.pinned (OpenSpec.ofChange normOnceWrong)

/-- 'law.NormMeans': WHATEVER THE INPUT: true; the input reads as it did. -/
def normMeansSpec : ChangeSpec := { name := "normMeans", fn := fun _ => fun
  | [d] => { results := [.lit (.bool true)], args := [d] }
  | _ => none }
def normMeansRow : OpenClaim := { program := "ygcfah", sum := "a4005221e0b8831f697c59bf30beeefc155078058dadd8a76ec6114c4ed32c6c", func := "wordview/law.NormMeans", spec := "normMeans", recurses := true, apart := false }
def NormMeansSaid : Prop := normMeansRow.holds Fahg.pinned (OpenSpec.ofChange normMeansSpec)

/-- ITS FALSE NEIGHBOUR: 'it returns false'. Refute it at one input. -/
def normMeansWrong : ChangeSpec := { name := "normMeans", fn := fun _ => fun
  | [d] => { results := [.lit (.bool false)], args := [d] }
  | _ => none }
def NormMeansWrongFalsely : Prop := normMeansRow.holds Fahg.pinned (OpenSpec.ofChange normMeansWrong)

/-- 'law.ValidMeans': WHATEVER THE INPUT: true; the input reads as it did. -/
def validMeansSpec : ChangeSpec := { name := "validMeans", fn := fun _ => fun
  | [d] => { results := [.lit (.bool true)], args := [d] }
  | _ => none }
def validMeansRow : OpenClaim := { program := "ygcfah", sum := "a4005221e0b8831f697c59bf30beeefc155078058dadd8a76ec6114c4ed32c6c", func := "wordview/law.ValidMeans", spec := "validMeans", recurses := true, apart := false }
def ValidMeansSaid : Prop := validMeansRow.holds Fahg.pinned (OpenSpec.ofChange validMeansSpec)

/-- ITS FALSE NEIGHBOUR: 'it returns false'. Refute it at one input. -/
def validMeansWrong : ChangeSpec := { name := "validMeans", fn := fun _ => fun
  | [d] => { results := [.lit (.bool false)], args := [d] }
  | _ => none }
def ValidMeansWrongFalsely : Prop := validMeansRow.holds Fahg.pinned (OpenSpec.ofChange validMeansWrong)

/-- 'law.ClaimedRight': WHATEVER THE INPUT: true; the input reads as it did. -/
def claimedRightSpec : ChangeSpec := { name := "claimedRight", fn := fun _ => fun
  | [d] => { results := [.lit (.bool true)], args := [d] }
  | _ => none }
def claimedRightRow : OpenClaim := { program := "ygcfah", sum := "a4005221e0b8831f697c59bf30beeefc155078058dadd8a76ec6114c4ed32c6c", func := "wordview/law.ClaimedRight", spec := "claimedRight", recurses := true, apart := false }
def ClaimedRightSaid : Prop := claimedRightRow.holds Fahg.pinned (OpenSpec.ofChange claimedRightSpec)

/-- ITS FALSE NEIGHBOUR: 'it returns false'. Refute it at one input. -/
def claimedRightWrong : ChangeSpec := { name := "claimedRight", fn := fun _ => fun
  | [d] => { results := [.lit (.bool false)], args := [d] }
  | _ => none }
def ClaimedRightWrongFalsely : Prop := claimedRightRow.holds Fahg.pinned (OpenSpec.ofChange claimedRightWrong)

/-- 'law.WideBits': WHATEVER THE INPUT: true; the input reads as it did. -/
def wideBitsSpec : ChangeSpec := { name := "wideBits", fn := fun _ => fun
  | [d1, d2, d3] => { results := [.lit (.bool true)], args := [d1, d2, d3] }
  | _ => none }
def wideBitsRow : OpenClaim := { program := "ygcfah", sum := "a4005221e0b8831f697c59bf30beeefc155078058dadd8a76ec6114c4ed32c6c", func := "wordview/law.WideBits", spec := "wideBits", apart := false }
def WideBitsSaid : Prop := wideBitsRow.holds Fahg.pinned (OpenSpec.ofChange wideBitsSpec)

/-- ITS FALSE NEIGHBOUR: 'it returns false'. Refute it at one input. -/
def wideBitsWrong : ChangeSpec := { name := "wideBits", fn := fun _ => fun
  | [d1, d2, d3] => { results := [.lit (.bool false)], args := [d1, d2, d3] }
  | _ => none }
def WideBitsWrongFalsely : Prop := wideBitsRow.holds Fahg.pinned (OpenSpec.ofChange wideBitsWrong)

/-- 'law.WideReads': WHATEVER THE INPUT: true; the input reads as it did. -/
def wideReadsSpec : ChangeSpec := { name := "wideReads", fn := fun _ => fun
  | [d1, d2, d3, d4] => { results := [.lit (.bool true)], args := [d1, d2, d3, d4] }
  | _ => none }
def wideReadsRow : OpenClaim := { program := "ygcfah", sum := "a4005221e0b8831f697c59bf30beeefc155078058dadd8a76ec6114c4ed32c6c", func := "wordview/law.WideReads", spec := "wideReads", apart := false }
def WideReadsSaid : Prop := wideReadsRow.holds Fahg.pinned (OpenSpec.ofChange wideReadsSpec)

/-- ITS FALSE NEIGHBOUR: 'it returns false'. Refute it at one input. -/
def wideReadsWrong : ChangeSpec := { name := "wideReads", fn := fun _ => fun
  | [d1, d2, d3, d4] => { results := [.lit (.bool false)], args := [d1, d2, d3, d4] }
  | _ => none }
def WideReadsWrongFalsely : Prop := wideReadsRow.holds Fahg.pinned (OpenSpec.ofChange wideReadsWrong)

/-- 'law.WideMeans': WHATEVER THE INPUT: true; the input reads as it did. -/
def wideMeansSpec : ChangeSpec := { name := "wideMeans", fn := fun _ => fun
  | [d1, d2] => { results := [.lit (.bool true)], args := [d1, d2] }
  | _ => none }
def wideMeansRow : OpenClaim := { program := "ygcfah", sum := "a4005221e0b8831f697c59bf30beeefc155078058dadd8a76ec6114c4ed32c6c", func := "wordview/law.WideMeans", spec := "wideMeans", recurses := true, apart := false }
def WideMeansSaid : Prop := wideMeansRow.holds Fahg.pinned (OpenSpec.ofChange wideMeansSpec)

/-- ITS FALSE NEIGHBOUR: 'it returns false'. Refute it at one input. -/
def wideMeansWrong : ChangeSpec := { name := "wideMeans", fn := fun _ => fun
  | [d1, d2] => { results := [.lit (.bool false)], args := [d1, d2] }
  | _ => none }
def WideMeansWrongFalsely : Prop := wideMeansRow.holds Fahg.pinned (OpenSpec.ofChange wideMeansWrong)

end Rows
end Go.Proofs.Ygcfah
