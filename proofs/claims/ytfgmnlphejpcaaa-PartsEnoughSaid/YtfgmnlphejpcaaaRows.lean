/-
  No cell of these rows narrows 'for every input' (looked for: loops, veiled, ifaces, maps, wideKeys, modest, calm, conditions, laid).
  DERIVED. THE GIVEN ROWS OF THIS SEAT. 10 by the template 'for every input the law returns true; each argument reads behind the call as it read before'; 0 by the template 'total and deterministic' (their statements: YtfgmnlphejpcaaaTotals.lean).
  GIVEN WITH THE SEED: the statements are not yours to turn. If you find one false, say at which input.
  Laid BY PROGRAM, IN A SANDBOX (cutbox-rows.mjs): the forced cells as the released guide's own fill.sh prints them over the translation 63f112c5a856ae5f… (all of the seat's roots in one cut). By AI agents, Wed Nov 11 2026. No macro, syntax, notation, axiom, sorry.
-/
import Derived.Test.YtfgmnlphejpcaaaChecked
import GoSem.Claim
import GoSem.ClaimJoined
import GoSem.ClaimMapViews
import Derived.JoinedTies
import Derived.KernelRfl
namespace Go.Proofs.Ytfgmnlphejpcaaa
/- THE CELL 'sum', in the pinned program and in every row, IS THE sha256 OF THE DUMP (.gsa) THAT YtfgmnlphejpcaaaProg.lean LOADS. Nothing in Lean hashes anything: it is a label: what it is worth is what the hold of that sum in a sandbox is worth. -/
noncomputable def Try.pinned : Pinned := { name := "ytfgmnlphejpcaaa", sum := "63f112c5a856ae5fc0c12dce097ad23b43a74f4518d2e490e2e8e0889c4325c4", checked := Try.checked }
namespace Rows
def none {H : Type} : Left H := { results := [], args := [] }

/-- 'lockwrightkeep.PolyRoots': WHATEVER THE INPUT: true; the input reads as it did. -/
def polyRootsSpec : ChangeSpec := { name := "polyRoots", fn := fun _ => fun
  | [d1, d2] => { results := [.lit (.bool true)], args := [d1, d2] }
  | _ => none }
def polyRootsRow : OpenClaim := { program := "ytfgmnlphejpcaaa", sum := "63f112c5a856ae5fc0c12dce097ad23b43a74f4518d2e490e2e8e0889c4325c4", func := "lockwright/lockwrightkeep.PolyRoots", spec := "polyRoots", unfollowed := true, recurses := true, apart := false }
def PolyRootsSaid : Prop := polyRootsRow.holds Try.pinned (OpenSpec.ofChange polyRootsSpec)

/-- ITS FALSE NEIGHBOUR: 'it returns false'. Refute it at one input. -/
def polyRootsWrong : ChangeSpec := { name := "polyRoots", fn := fun _ => fun
  | [d1, d2] => { results := [.lit (.bool false)], args := [d1, d2] }
  | _ => none }
def PolyRootsWrongFalsely : Prop := polyRootsRow.holds Try.pinned (OpenSpec.ofChange polyRootsWrong)

/-- 'lockwrightkeep.PolyRing': WHATEVER THE INPUT: true; the input reads as it did. -/
def polyRingSpec : ChangeSpec := { name := "polyRing", fn := fun _ => fun
  | [d1, d2, d3, d4] => { results := [.lit (.bool true)], args := [d1, d2, d3, d4] }
  | _ => none }
def polyRingRow : OpenClaim := { program := "ytfgmnlphejpcaaa", sum := "63f112c5a856ae5fc0c12dce097ad23b43a74f4518d2e490e2e8e0889c4325c4", func := "lockwright/lockwrightkeep.PolyRing", spec := "polyRing", unfollowed := true, recurses := true, apart := false }
def PolyRingSaid : Prop := polyRingRow.holds Try.pinned (OpenSpec.ofChange polyRingSpec)

/-- ITS FALSE NEIGHBOUR: 'it returns false'. Refute it at one input. -/
def polyRingWrong : ChangeSpec := { name := "polyRing", fn := fun _ => fun
  | [d1, d2, d3, d4] => { results := [.lit (.bool false)], args := [d1, d2, d3, d4] }
  | _ => none }
def PolyRingWrongFalsely : Prop := polyRingRow.holds Try.pinned (OpenSpec.ofChange polyRingWrong)

/-- 'lockwrightkeep.PolyGreatest': WHATEVER THE INPUT: true; the input reads as it did. -/
def polyGreatestSpec : ChangeSpec := { name := "polyGreatest", fn := fun _ => fun
  | [d1, d2, d3, d4] => { results := [.lit (.bool true)], args := [d1, d2, d3, d4] }
  | _ => none }
def polyGreatestRow : OpenClaim := { program := "ytfgmnlphejpcaaa", sum := "63f112c5a856ae5fc0c12dce097ad23b43a74f4518d2e490e2e8e0889c4325c4", func := "lockwright/lockwrightkeep.PolyGreatest", spec := "polyGreatest", unfollowed := true, recurses := true, apart := false }
def PolyGreatestSaid : Prop := polyGreatestRow.holds Try.pinned (OpenSpec.ofChange polyGreatestSpec)

/-- ITS FALSE NEIGHBOUR: 'it returns false'. Refute it at one input. -/
def polyGreatestWrong : ChangeSpec := { name := "polyGreatest", fn := fun _ => fun
  | [d1, d2, d3, d4] => { results := [.lit (.bool false)], args := [d1, d2, d3, d4] }
  | _ => none }
def PolyGreatestWrongFalsely : Prop := polyGreatestRow.holds Try.pinned (OpenSpec.ofChange polyGreatestWrong)

/-- 'lockwrightkeep.PolyFactor': WHATEVER THE INPUT: true; the input reads as it did. -/
def polyFactorSpec : ChangeSpec := { name := "polyFactor", fn := fun _ => fun
  | [d1, d2, d3] => { results := [.lit (.bool true)], args := [d1, d2, d3] }
  | _ => none }
def polyFactorRow : OpenClaim := { program := "ytfgmnlphejpcaaa", sum := "63f112c5a856ae5fc0c12dce097ad23b43a74f4518d2e490e2e8e0889c4325c4", func := "lockwright/lockwrightkeep.PolyFactor", spec := "polyFactor", unfollowed := true, recurses := true, apart := false }
def PolyFactorSaid : Prop := polyFactorRow.holds Try.pinned (OpenSpec.ofChange polyFactorSpec)

/-- ITS FALSE NEIGHBOUR: 'it returns false'. Refute it at one input. -/
def polyFactorWrong : ChangeSpec := { name := "polyFactor", fn := fun _ => fun
  | [d1, d2, d3] => { results := [.lit (.bool false)], args := [d1, d2, d3] }
  | _ => none }
def PolyFactorWrongFalsely : Prop := polyFactorRow.holds Try.pinned (OpenSpec.ofChange polyFactorWrong)

/-- 'lockwrightkeep.PolyOne': WHATEVER THE INPUT: true; the input reads as it did. -/
def polyOneSpec : ChangeSpec := { name := "polyOne", fn := fun _ => fun
  | [d1, d2, d3] => { results := [.lit (.bool true)], args := [d1, d2, d3] }
  | _ => none }
def polyOneRow : OpenClaim := { program := "ytfgmnlphejpcaaa", sum := "63f112c5a856ae5fc0c12dce097ad23b43a74f4518d2e490e2e8e0889c4325c4", func := "lockwright/lockwrightkeep.PolyOne", spec := "polyOne", unfollowed := true, recurses := true, apart := false }
def PolyOneSaid : Prop := polyOneRow.holds Try.pinned (OpenSpec.ofChange polyOneSpec)

/-- ITS FALSE NEIGHBOUR: 'it returns false'. Refute it at one input. -/
def polyOneWrong : ChangeSpec := { name := "polyOne", fn := fun _ => fun
  | [d1, d2, d3] => { results := [.lit (.bool false)], args := [d1, d2, d3] }
  | _ => none }
def PolyOneWrongFalsely : Prop := polyOneRow.holds Try.pinned (OpenSpec.ofChange polyOneWrong)

/-- 'lockwrightkeep.ShareAdds': WHATEVER THE INPUT: true; the input reads as it did. -/
def shareAddsSpec : ChangeSpec := { name := "shareAdds", fn := fun _ => fun
  | [d1, d2, d3, d4, d5, d6] => { results := [.lit (.bool true)], args := [d1, d2, d3, d4, d5, d6] }
  | _ => none }
def shareAddsRow : OpenClaim := { program := "ytfgmnlphejpcaaa", sum := "63f112c5a856ae5fc0c12dce097ad23b43a74f4518d2e490e2e8e0889c4325c4", func := "lockwright/lockwrightkeep.ShareAdds", spec := "shareAdds", unfollowed := true, recurses := true, apart := false }
def ShareAddsSaid : Prop := shareAddsRow.holds Try.pinned (OpenSpec.ofChange shareAddsSpec)

/-- ITS FALSE NEIGHBOUR: 'it returns false'. Refute it at one input. -/
def shareAddsWrong : ChangeSpec := { name := "shareAdds", fn := fun _ => fun
  | [d1, d2, d3, d4, d5, d6] => { results := [.lit (.bool false)], args := [d1, d2, d3, d4, d5, d6] }
  | _ => none }
def ShareAddsWrongFalsely : Prop := shareAddsRow.holds Try.pinned (OpenSpec.ofChange shareAddsWrong)

/-- 'lockwrightkeep.ShareEnough': WHATEVER THE INPUT: true; the input reads as it did. -/
def shareEnoughSpec : ChangeSpec := { name := "shareEnough", fn := fun _ => fun
  | [d1, d2, d3, d4, d5] => { results := [.lit (.bool true)], args := [d1, d2, d3, d4, d5] }
  | _ => none }
def shareEnoughRow : OpenClaim := { program := "ytfgmnlphejpcaaa", sum := "63f112c5a856ae5fc0c12dce097ad23b43a74f4518d2e490e2e8e0889c4325c4", func := "lockwright/lockwrightkeep.ShareEnough", spec := "shareEnough", unfollowed := true, recurses := true, apart := false }
def ShareEnoughSaid : Prop := shareEnoughRow.holds Try.pinned (OpenSpec.ofChange shareEnoughSpec)

/-- ITS FALSE NEIGHBOUR: 'it returns false'. Refute it at one input. -/
def shareEnoughWrong : ChangeSpec := { name := "shareEnough", fn := fun _ => fun
  | [d1, d2, d3, d4, d5] => { results := [.lit (.bool false)], args := [d1, d2, d3, d4, d5] }
  | _ => none }
def ShareEnoughWrongFalsely : Prop := shareEnoughRow.holds Try.pinned (OpenSpec.ofChange shareEnoughWrong)

/-- 'lockwrightkeep.ShareHides': WHATEVER THE INPUT: true; the input reads as it did. -/
def shareHidesSpec : ChangeSpec := { name := "shareHides", fn := fun _ => fun
  | [d1, d2, d3, d4, d5, d6, d7] => { results := [.lit (.bool true)], args := [d1, d2, d3, d4, d5, d6, d7] }
  | _ => none }
def shareHidesRow : OpenClaim := { program := "ytfgmnlphejpcaaa", sum := "63f112c5a856ae5fc0c12dce097ad23b43a74f4518d2e490e2e8e0889c4325c4", func := "lockwright/lockwrightkeep.ShareHides", spec := "shareHides", unfollowed := true, recurses := true, apart := false }
def ShareHidesSaid : Prop := shareHidesRow.holds Try.pinned (OpenSpec.ofChange shareHidesSpec)

/-- ITS FALSE NEIGHBOUR: 'it returns false'. Refute it at one input. -/
def shareHidesWrong : ChangeSpec := { name := "shareHides", fn := fun _ => fun
  | [d1, d2, d3, d4, d5, d6, d7] => { results := [.lit (.bool false)], args := [d1, d2, d3, d4, d5, d6, d7] }
  | _ => none }
def ShareHidesWrongFalsely : Prop := shareHidesRow.holds Try.pinned (OpenSpec.ofChange shareHidesWrong)

/-- 'lockwrightkeep.PartsEnough': WHATEVER THE INPUT: true; the input reads as it did. -/
def partsEnoughSpec : ChangeSpec := { name := "partsEnough", fn := fun _ => fun
  | [d1, d2, d3, d4, d5, d6] => { results := [.lit (.bool true)], args := [d1, d2, d3, d4, d5, d6] }
  | _ => none }
def partsEnoughRow : OpenClaim := { program := "ytfgmnlphejpcaaa", sum := "63f112c5a856ae5fc0c12dce097ad23b43a74f4518d2e490e2e8e0889c4325c4", func := "lockwright/lockwrightkeep.PartsEnough", spec := "partsEnough", unfollowed := true, recurses := true, apart := false }
def PartsEnoughSaid : Prop := partsEnoughRow.holds Try.pinned (OpenSpec.ofChange partsEnoughSpec)

/-- ITS FALSE NEIGHBOUR: 'it returns false'. Refute it at one input. -/
def partsEnoughWrong : ChangeSpec := { name := "partsEnough", fn := fun _ => fun
  | [d1, d2, d3, d4, d5, d6] => { results := [.lit (.bool false)], args := [d1, d2, d3, d4, d5, d6] }
  | _ => none }
def PartsEnoughWrongFalsely : Prop := partsEnoughRow.holds Try.pinned (OpenSpec.ofChange partsEnoughWrong)

/-- 'lockwrightkeep.PartsRight': WHATEVER THE INPUT: true; the input reads as it did. -/
def partsRightSpec : ChangeSpec := { name := "partsRight", fn := fun _ => fun
  | [d1, d2, d3, d4, d5] => { results := [.lit (.bool true)], args := [d1, d2, d3, d4, d5] }
  | _ => none }
def partsRightRow : OpenClaim := { program := "ytfgmnlphejpcaaa", sum := "63f112c5a856ae5fc0c12dce097ad23b43a74f4518d2e490e2e8e0889c4325c4", func := "lockwright/lockwrightkeep.PartsRight", spec := "partsRight", unfollowed := true, recurses := true, apart := false }
def PartsRightSaid : Prop := partsRightRow.holds Try.pinned (OpenSpec.ofChange partsRightSpec)

/-- ITS FALSE NEIGHBOUR: 'it returns false'. Refute it at one input. -/
def partsRightWrong : ChangeSpec := { name := "partsRight", fn := fun _ => fun
  | [d1, d2, d3, d4, d5] => { results := [.lit (.bool false)], args := [d1, d2, d3, d4, d5] }
  | _ => none }
def PartsRightWrongFalsely : Prop := partsRightRow.holds Try.pinned (OpenSpec.ofChange partsRightWrong)

/- THE SECOND FORM. 'bulk': how many values and letters a reading holds, each counted each time it is reached (what is shared counts as often as it is met; a slice's spare places count too). A statement '..UptoSaid' is the law's where the arguments, and the package variables that the reading takes, are together of bulk at most 1048576: NARROWER than '..Said'. Prove '..Said' where nothing that the law and all that it calls make is longer than what came in: it says more and counts as full. Else prove '..UptoSaid'. A law counts once. -/
mutual
def uptoBulk {H : Type} : DataW H → Nat
  | .lit (.string bytes) => bytes.length + 1
  | .lit _ => 1
  | .nil => 1
  | .ptr d => uptoBulk d + 1
  | .slice elems spare => uptoBulkAll elems + uptoBulkAll spare + 1
  | .agg parts => uptoBulkAll parts + 1
  | .iface _ d => uptoBulk d + 1
  | .map entries => uptoBulkEntries entries + 1
  | .held _ => 1
def uptoBulkAll {H : Type} : List (DataW H) → Nat
  | [] => 0
  | d :: r => uptoBulk d + uptoBulkAll r
def uptoBulkEntries {H : Type} : List (Lit × DataW H) → Nat
  | [] => 0
  | x :: r => uptoBulkEntry x + uptoBulkEntries r
def uptoBulkEntry {H : Type} : Lit × DataW H → Nat
  | (.string bytes, d) => bytes.length + uptoBulk d + 1
  | (_, d) => uptoBulk d + 1
 end
def uptoSmall : (H : Type) → List (DataW H) → Bool := fun _ ds => decide (uptoBulkAll ds ≤ 1048576)
def OpenSpec.upto (s : _root_.Go.ChangeSpec) : _root_.Go.OpenSpec := { _root_.Go.OpenSpec.ofChange s with cond := some uptoSmall }

/-- 'lockwrightkeep.PolyRoots', WHERE WHAT IT READS IS OF BULK AT MOST 1048576: true; the input reads as it did. -/
def polyRootsUptoRow : OpenClaim := { program := "ytfgmnlphejpcaaa", sum := "63f112c5a856ae5fc0c12dce097ad23b43a74f4518d2e490e2e8e0889c4325c4", func := "lockwright/lockwrightkeep.PolyRoots", spec := "polyRoots", unfollowed := true, recurses := true, apart := false, narrowed := true }
def PolyRootsUptoSaid : Prop := polyRootsUptoRow.holds Try.pinned (OpenSpec.upto polyRootsSpec)

/-- 'lockwrightkeep.PolyRing', WHERE WHAT IT READS IS OF BULK AT MOST 1048576: true; the input reads as it did. -/
def polyRingUptoRow : OpenClaim := { program := "ytfgmnlphejpcaaa", sum := "63f112c5a856ae5fc0c12dce097ad23b43a74f4518d2e490e2e8e0889c4325c4", func := "lockwright/lockwrightkeep.PolyRing", spec := "polyRing", unfollowed := true, recurses := true, apart := false, narrowed := true }
def PolyRingUptoSaid : Prop := polyRingUptoRow.holds Try.pinned (OpenSpec.upto polyRingSpec)

/-- 'lockwrightkeep.PolyGreatest', WHERE WHAT IT READS IS OF BULK AT MOST 1048576: true; the input reads as it did. -/
def polyGreatestUptoRow : OpenClaim := { program := "ytfgmnlphejpcaaa", sum := "63f112c5a856ae5fc0c12dce097ad23b43a74f4518d2e490e2e8e0889c4325c4", func := "lockwright/lockwrightkeep.PolyGreatest", spec := "polyGreatest", unfollowed := true, recurses := true, apart := false, narrowed := true }
def PolyGreatestUptoSaid : Prop := polyGreatestUptoRow.holds Try.pinned (OpenSpec.upto polyGreatestSpec)

/-- 'lockwrightkeep.PolyFactor', WHERE WHAT IT READS IS OF BULK AT MOST 1048576: true; the input reads as it did. -/
def polyFactorUptoRow : OpenClaim := { program := "ytfgmnlphejpcaaa", sum := "63f112c5a856ae5fc0c12dce097ad23b43a74f4518d2e490e2e8e0889c4325c4", func := "lockwright/lockwrightkeep.PolyFactor", spec := "polyFactor", unfollowed := true, recurses := true, apart := false, narrowed := true }
def PolyFactorUptoSaid : Prop := polyFactorUptoRow.holds Try.pinned (OpenSpec.upto polyFactorSpec)

/-- 'lockwrightkeep.PolyOne', WHERE WHAT IT READS IS OF BULK AT MOST 1048576: true; the input reads as it did. -/
def polyOneUptoRow : OpenClaim := { program := "ytfgmnlphejpcaaa", sum := "63f112c5a856ae5fc0c12dce097ad23b43a74f4518d2e490e2e8e0889c4325c4", func := "lockwright/lockwrightkeep.PolyOne", spec := "polyOne", unfollowed := true, recurses := true, apart := false, narrowed := true }
def PolyOneUptoSaid : Prop := polyOneUptoRow.holds Try.pinned (OpenSpec.upto polyOneSpec)

/-- 'lockwrightkeep.ShareAdds', WHERE WHAT IT READS IS OF BULK AT MOST 1048576: true; the input reads as it did. -/
def shareAddsUptoRow : OpenClaim := { program := "ytfgmnlphejpcaaa", sum := "63f112c5a856ae5fc0c12dce097ad23b43a74f4518d2e490e2e8e0889c4325c4", func := "lockwright/lockwrightkeep.ShareAdds", spec := "shareAdds", unfollowed := true, recurses := true, apart := false, narrowed := true }
def ShareAddsUptoSaid : Prop := shareAddsUptoRow.holds Try.pinned (OpenSpec.upto shareAddsSpec)

/-- 'lockwrightkeep.ShareEnough', WHERE WHAT IT READS IS OF BULK AT MOST 1048576: true; the input reads as it did. -/
def shareEnoughUptoRow : OpenClaim := { program := "ytfgmnlphejpcaaa", sum := "63f112c5a856ae5fc0c12dce097ad23b43a74f4518d2e490e2e8e0889c4325c4", func := "lockwright/lockwrightkeep.ShareEnough", spec := "shareEnough", unfollowed := true, recurses := true, apart := false, narrowed := true }
def ShareEnoughUptoSaid : Prop := shareEnoughUptoRow.holds Try.pinned (OpenSpec.upto shareEnoughSpec)

/-- 'lockwrightkeep.ShareHides', WHERE WHAT IT READS IS OF BULK AT MOST 1048576: true; the input reads as it did. -/
def shareHidesUptoRow : OpenClaim := { program := "ytfgmnlphejpcaaa", sum := "63f112c5a856ae5fc0c12dce097ad23b43a74f4518d2e490e2e8e0889c4325c4", func := "lockwright/lockwrightkeep.ShareHides", spec := "shareHides", unfollowed := true, recurses := true, apart := false, narrowed := true }
def ShareHidesUptoSaid : Prop := shareHidesUptoRow.holds Try.pinned (OpenSpec.upto shareHidesSpec)

/-- 'lockwrightkeep.PartsEnough', WHERE WHAT IT READS IS OF BULK AT MOST 1048576: true; the input reads as it did. -/
def partsEnoughUptoRow : OpenClaim := { program := "ytfgmnlphejpcaaa", sum := "63f112c5a856ae5fc0c12dce097ad23b43a74f4518d2e490e2e8e0889c4325c4", func := "lockwright/lockwrightkeep.PartsEnough", spec := "partsEnough", unfollowed := true, recurses := true, apart := false, narrowed := true }
def PartsEnoughUptoSaid : Prop := partsEnoughUptoRow.holds Try.pinned (OpenSpec.upto partsEnoughSpec)

/-- 'lockwrightkeep.PartsRight', WHERE WHAT IT READS IS OF BULK AT MOST 1048576: true; the input reads as it did. -/
def partsRightUptoRow : OpenClaim := { program := "ytfgmnlphejpcaaa", sum := "63f112c5a856ae5fc0c12dce097ad23b43a74f4518d2e490e2e8e0889c4325c4", func := "lockwright/lockwrightkeep.PartsRight", spec := "partsRight", unfollowed := true, recurses := true, apart := false, narrowed := true }
def PartsRightUptoSaid : Prop := partsRightUptoRow.holds Try.pinned (OpenSpec.upto partsRightSpec)

end Rows
end Go.Proofs.Ytfgmnlphejpcaaa
