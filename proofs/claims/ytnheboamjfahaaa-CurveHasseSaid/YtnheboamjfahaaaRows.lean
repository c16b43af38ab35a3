/-
  No cell of these rows narrows 'for every input' (looked for: loops, veiled, ifaces, maps, wideKeys, modest, calm, conditions, laid).
  DERIVED. THE GIVEN ROWS OF THIS SEAT. 4 by the template 'for every input the law returns true; each argument reads behind the call as it read before'; 0 by the template 'total and deterministic' (their statements: YtnheboamjfahaaaTotals.lean).
  GIVEN WITH THE SEED: the statements are not yours to turn. If you find one false, say at which input.
  Laid BY PROGRAM, IN A SANDBOX (cutbox-rows.mjs): the forced cells as the released guide's own fill.sh prints them over the translation fb084fe2f5285865… (all of the seat's roots in one cut). By AI agents, Wed Nov 11 2026. No macro, syntax, notation, axiom, sorry.
-/
import Derived.Test.YtnheboamjfahaaaChecked
import GoSem.Claim
import GoSem.ClaimJoined
import GoSem.ClaimMapViews
import Derived.JoinedTies
import Derived.KernelRfl
namespace Go.Proofs.Ytnheboamjfahaaa
/- THE CELL 'sum', in the pinned program and in every row, IS THE sha256 OF THE DUMP (.gsa) THAT YtnheboamjfahaaaProg.lean LOADS. Nothing in Lean hashes anything: it is a label: what it is worth is what the hold of that sum in a sandbox is worth. -/
noncomputable def Try.pinned : Pinned := { name := "ytnheboamjfahaaa", sum := "fb084fe2f528586575d7fc5e08c769a2d36418f1deaa6d56e585ab694d80140a", checked := Try.checked }
namespace Rows
def none {H : Type} : Left H := { results := [], args := [] }

/-- 'lockwrightkeep.CurveHasse': WHATEVER THE INPUT: true; the input reads as it did. -/
def curveHasseSpec : ChangeSpec := { name := "curveHasse", fn := fun _ => fun
  | [d] => { results := [.lit (.bool true)], args := [d] }
  | _ => none }
def curveHasseRow : OpenClaim := { program := "ytnheboamjfahaaa", sum := "fb084fe2f528586575d7fc5e08c769a2d36418f1deaa6d56e585ab694d80140a", func := "lockwright/lockwrightkeep.CurveHasse", spec := "curveHasse", unfollowed := true, recurses := true, apart := false }
def CurveHasseSaid : Prop := curveHasseRow.holds Try.pinned (OpenSpec.ofChange curveHasseSpec)

/-- ITS FALSE NEIGHBOUR: 'it returns false'. Refute it at one input. -/
def curveHasseWrong : ChangeSpec := { name := "curveHasse", fn := fun _ => fun
  | [d] => { results := [.lit (.bool false)], args := [d] }
  | _ => none }
def CurveHasseWrongFalsely : Prop := curveHasseRow.holds Try.pinned (OpenSpec.ofChange curveHasseWrong)

/-- 'lockwrightkeep.CurveBrackets': WHATEVER THE INPUT: true; the input reads as it did. -/
def curveBracketsSpec : ChangeSpec := { name := "curveBrackets", fn := fun _ => fun
  | [d1, d2, d3, d4] => { results := [.lit (.bool true)], args := [d1, d2, d3, d4] }
  | _ => none }
def curveBracketsRow : OpenClaim := { program := "ytnheboamjfahaaa", sum := "fb084fe2f528586575d7fc5e08c769a2d36418f1deaa6d56e585ab694d80140a", func := "lockwright/lockwrightkeep.CurveBrackets", spec := "curveBrackets", unfollowed := true, recurses := true, apart := false }
def CurveBracketsSaid : Prop := curveBracketsRow.holds Try.pinned (OpenSpec.ofChange curveBracketsSpec)

/-- ITS FALSE NEIGHBOUR: 'it returns false'. Refute it at one input. -/
def curveBracketsWrong : ChangeSpec := { name := "curveBrackets", fn := fun _ => fun
  | [d1, d2, d3, d4] => { results := [.lit (.bool false)], args := [d1, d2, d3, d4] }
  | _ => none }
def CurveBracketsWrongFalsely : Prop := curveBracketsRow.holds Try.pinned (OpenSpec.ofChange curveBracketsWrong)

/-- 'lockwrightkeep.CurveGroup': WHATEVER THE INPUT: true; the input reads as it did. -/
def curveGroupSpec : ChangeSpec := { name := "curveGroup", fn := fun _ => fun
  | [d1, d2, d3] => { results := [.lit (.bool true)], args := [d1, d2, d3] }
  | _ => none }
def curveGroupRow : OpenClaim := { program := "ytnheboamjfahaaa", sum := "fb084fe2f528586575d7fc5e08c769a2d36418f1deaa6d56e585ab694d80140a", func := "lockwright/lockwrightkeep.CurveGroup", spec := "curveGroup", unfollowed := true, recurses := true, apart := false }
def CurveGroupSaid : Prop := curveGroupRow.holds Try.pinned (OpenSpec.ofChange curveGroupSpec)

/-- ITS FALSE NEIGHBOUR: 'it returns false'. Refute it at one input. -/
def curveGroupWrong : ChangeSpec := { name := "curveGroup", fn := fun _ => fun
  | [d1, d2, d3] => { results := [.lit (.bool false)], args := [d1, d2, d3] }
  | _ => none }
def CurveGroupWrongFalsely : Prop := curveGroupRow.holds Try.pinned (OpenSpec.ofChange curveGroupWrong)

/-- 'lockwrightkeep.CurveLagrange': WHATEVER THE INPUT: true; the input reads as it did. -/
def curveLagrangeSpec : ChangeSpec := { name := "curveLagrange", fn := fun _ => fun
  | [d1, d2, d3] => { results := [.lit (.bool true)], args := [d1, d2, d3] }
  | _ => none }
def curveLagrangeRow : OpenClaim := { program := "ytnheboamjfahaaa", sum := "fb084fe2f528586575d7fc5e08c769a2d36418f1deaa6d56e585ab694d80140a", func := "lockwright/lockwrightkeep.CurveLagrange", spec := "curveLagrange", unfollowed := true, recurses := true, apart := false }
def CurveLagrangeSaid : Prop := curveLagrangeRow.holds Try.pinned (OpenSpec.ofChange curveLagrangeSpec)

/-- ITS FALSE NEIGHBOUR: 'it returns false'. Refute it at one input. -/
def curveLagrangeWrong : ChangeSpec := { name := "curveLagrange", fn := fun _ => fun
  | [d1, d2, d3] => { results := [.lit (.bool false)], args := [d1, d2, d3] }
  | _ => none }
def CurveLagrangeWrongFalsely : Prop := curveLagrangeRow.holds Try.pinned (OpenSpec.ofChange curveLagrangeWrong)

/- THE SECOND FORM. 'bulk': how many values and letters a reading holds, each counted each time it is reached (what is shared counts as often as it is met; a slice's spare places count too). A statement '..UptoSaid' is the law's where the arguments, and the package variables that the reading takes, are together of bulk at most 1048576: NARROWER than '..Said'. Prove '..Said' where nothing that the law and all that it calls make is longer than what came in: it says more and counts as full. Else prove '..UptoSaid'. A law counts once. -/
mutual
def uptoBulk {H : Type} : DataW H → Nat
  | .lit (.string bytes) => bytes.length + 1
  | .lit _ => 1
  | .nil => 1
  | .ptr d => uptoBulk d + 1
  | .slice elems spare => uptoBulkAll elems + uptoBulkAll spare + 1
  | .agg parts => uptoBulkAll parts + 1
  | .iface _ d => uptoBulk d + 1
  | .map entries => uptoBulkEntries entries + 1
  | .held _ => 1
def uptoBulkAll {H : Type} : List (DataW H) → Nat
  | [] => 0
  | d :: r => uptoBulk d + uptoBulkAll r
def uptoBulkEntries {H : Type} : List (Lit × DataW H) → Nat
  | [] => 0
  | x :: r => uptoBulkEntry x + uptoBulkEntries r
def uptoBulkEntry {H : Type} : Lit × DataW H → Nat
  | (.string bytes, d) => bytes.length + uptoBulk d + 1
  | (_, d) => uptoBulk d + 1
 end
def uptoSmall : (H : Type) → List (DataW H) → Bool := fun _ ds => decide (uptoBulkAll ds ≤ 1048576)
def OpenSpec.upto (s : _root_.Go.ChangeSpec) : _root_.Go.OpenSpec := { _root_.Go.OpenSpec.ofChange s with cond := some uptoSmall }

/-- 'lockwrightkeep.CurveHasse', WHERE WHAT IT READS IS OF BULK AT MOST 1048576: true; the input reads as it did. -/
def curveHasseUptoRow : OpenClaim := { program := "ytnheboamjfahaaa", sum := "fb084fe2f528586575d7fc5e08c769a2d36418f1deaa6d56e585ab694d80140a", func := "lockwright/lockwrightkeep.CurveHasse", spec := "curveHasse", unfollowed := true, recurses := true, apart := false, narrowed := true }
def CurveHasseUptoSaid : Prop := curveHasseUptoRow.holds Try.pinned (OpenSpec.upto curveHasseSpec)

/-- 'lockwrightkeep.CurveBrackets', WHERE WHAT IT READS IS OF BULK AT MOST 1048576: true; the input reads as it did. -/
def curveBracketsUptoRow : OpenClaim := { program := "ytnheboamjfahaaa", sum := "fb084fe2f528586575d7fc5e08c769a2d36418f1deaa6d56e585ab694d80140a", func := "lockwright/lockwrightkeep.CurveBrackets", spec := "curveBrackets", unfollowed := true, recurses := true, apart := false, narrowed := true }
def CurveBracketsUptoSaid : Prop := curveBracketsUptoRow.holds Try.pinned (OpenSpec.upto curveBracketsSpec)

/-- 'lockwrightkeep.CurveGroup', WHERE WHAT IT READS IS OF BULK AT MOST 1048576: true; the input reads as it did. -/
def curveGroupUptoRow : OpenClaim := { program := "ytnheboamjfahaaa", sum := "fb084fe2f528586575d7fc5e08c769a2d36418f1deaa6d56e585ab694d80140a", func := "lockwright/lockwrightkeep.CurveGroup", spec := "curveGroup", unfollowed := true, recurses := true, apart := false, narrowed := true }
def CurveGroupUptoSaid : Prop := curveGroupUptoRow.holds Try.pinned (OpenSpec.upto curveGroupSpec)

/-- 'lockwrightkeep.CurveLagrange', WHERE WHAT IT READS IS OF BULK AT MOST 1048576: true; the input reads as it did. -/
def curveLagrangeUptoRow : OpenClaim := { program := "ytnheboamjfahaaa", sum := "fb084fe2f528586575d7fc5e08c769a2d36418f1deaa6d56e585ab694d80140a", func := "lockwright/lockwrightkeep.CurveLagrange", spec := "curveLagrange", unfollowed := true, recurses := true, apart := false, narrowed := true }
def CurveLagrangeUptoSaid : Prop := curveLagrangeUptoRow.holds Try.pinned (OpenSpec.upto curveLagrangeSpec)

end Rows
end Go.Proofs.Ytnheboamjfahaaa
