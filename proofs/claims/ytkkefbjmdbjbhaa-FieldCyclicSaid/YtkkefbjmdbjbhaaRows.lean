/-
  No cell of these rows narrows 'for every input' (looked for: loops, veiled, ifaces, maps, wideKeys, modest, calm, conditions, laid).
  DERIVED. THE GIVEN ROWS OF THIS SEAT. 5 by the template 'for every input the law returns true; each argument reads behind the call as it read before'; 0 by the template 'total and deterministic' (their statements: YtkkefbjmdbjbhaaTotals.lean).
  GIVEN WITH THE SEED: the statements are not yours to turn. If you find one false, say at which input.
  Laid BY PROGRAM, IN A SANDBOX (cutbox-rows.mjs): the forced cells as the released guide's own fill.sh prints them over the translation 29fbc638b0a20a5d… (all of the seat's roots in one cut). By AI agents, Wed Nov 11 2026. No macro, syntax, notation, axiom, sorry.
-/
import Derived.Test.YtkkefbjmdbjbhaaChecked
import GoSem.Claim
import GoSem.ClaimJoined
import GoSem.ClaimMapViews
import Derived.JoinedTies
import Derived.KernelRfl
namespace Go.Proofs.Ytkkefbjmdbjbhaa
/- THE CELL 'sum', in the pinned program and in every row, IS THE sha256 OF THE DUMP (.gsa) THAT YtkkefbjmdbjbhaaProg.lean LOADS. Nothing in Lean hashes anything: it is a label: what it is worth is what the hold of that sum in a sandbox is worth. -/
noncomputable def Try.pinned : Pinned := { name := "ytkkefbjmdbjbhaa", sum := "29fbc638b0a20a5df555511261644582f32aaf184f5f05a4ae2d7c25ed6f7f01", checked := Try.checked }
namespace Rows
def none {H : Type} : Left H := { results := [], args := [] }

/-- 'lockwrightkeep.FieldFermat': WHATEVER THE INPUT: true; the input reads as it did. -/
def fieldFermatSpec : ChangeSpec := { name := "fieldFermat", fn := fun _ => fun
  | [d1, d2, d3] => { results := [.lit (.bool true)], args := [d1, d2, d3] }
  | _ => none }
def fieldFermatRow : OpenClaim := { program := "ytkkefbjmdbjbhaa", sum := "29fbc638b0a20a5df555511261644582f32aaf184f5f05a4ae2d7c25ed6f7f01", func := "lockwright/lockwrightkeep.FieldFermat", spec := "fieldFermat", unfollowed := true, recurses := true, apart := false }
def FieldFermatSaid : Prop := fieldFermatRow.holds Try.pinned (OpenSpec.ofChange fieldFermatSpec)

/-- ITS FALSE NEIGHBOUR: 'it returns false'. Refute it at one input. -/
def fieldFermatWrong : ChangeSpec := { name := "fieldFermat", fn := fun _ => fun
  | [d1, d2, d3] => { results := [.lit (.bool false)], args := [d1, d2, d3] }
  | _ => none }
def FieldFermatWrongFalsely : Prop := fieldFermatRow.holds Try.pinned (OpenSpec.ofChange fieldFermatWrong)

/-- 'lockwrightkeep.FieldAlgebra': WHATEVER THE INPUT: true; the input reads as it did. -/
def fieldAlgebraSpec : ChangeSpec := { name := "fieldAlgebra", fn := fun _ => fun
  | [d1, d2, d3, d4, d5] => { results := [.lit (.bool true)], args := [d1, d2, d3, d4, d5] }
  | _ => none }
def fieldAlgebraRow : OpenClaim := { program := "ytkkefbjmdbjbhaa", sum := "29fbc638b0a20a5df555511261644582f32aaf184f5f05a4ae2d7c25ed6f7f01", func := "lockwright/lockwrightkeep.FieldAlgebra", spec := "fieldAlgebra", unfollowed := true, recurses := true, apart := false }
def FieldAlgebraSaid : Prop := fieldAlgebraRow.holds Try.pinned (OpenSpec.ofChange fieldAlgebraSpec)

/-- ITS FALSE NEIGHBOUR: 'it returns false'. Refute it at one input. -/
def fieldAlgebraWrong : ChangeSpec := { name := "fieldAlgebra", fn := fun _ => fun
  | [d1, d2, d3, d4, d5] => { results := [.lit (.bool false)], args := [d1, d2, d3, d4, d5] }
  | _ => none }
def FieldAlgebraWrongFalsely : Prop := fieldAlgebraRow.holds Try.pinned (OpenSpec.ofChange fieldAlgebraWrong)

/-- 'lockwrightkeep.FieldFrobenius': WHATEVER THE INPUT: true; the input reads as it did. -/
def fieldFrobeniusSpec : ChangeSpec := { name := "fieldFrobenius", fn := fun _ => fun
  | [d1, d2, d3, d4] => { results := [.lit (.bool true)], args := [d1, d2, d3, d4] }
  | _ => none }
def fieldFrobeniusRow : OpenClaim := { program := "ytkkefbjmdbjbhaa", sum := "29fbc638b0a20a5df555511261644582f32aaf184f5f05a4ae2d7c25ed6f7f01", func := "lockwright/lockwrightkeep.FieldFrobenius", spec := "fieldFrobenius", unfollowed := true, recurses := true, apart := false }
def FieldFrobeniusSaid : Prop := fieldFrobeniusRow.holds Try.pinned (OpenSpec.ofChange fieldFrobeniusSpec)

/-- ITS FALSE NEIGHBOUR: 'it returns false'. Refute it at one input. -/
def fieldFrobeniusWrong : ChangeSpec := { name := "fieldFrobenius", fn := fun _ => fun
  | [d1, d2, d3, d4] => { results := [.lit (.bool false)], args := [d1, d2, d3, d4] }
  | _ => none }
def FieldFrobeniusWrongFalsely : Prop := fieldFrobeniusRow.holds Try.pinned (OpenSpec.ofChange fieldFrobeniusWrong)

/-- 'lockwrightkeep.FieldInverse': WHATEVER THE INPUT: true; the input reads as it did. -/
def fieldInverseSpec : ChangeSpec := { name := "fieldInverse", fn := fun _ => fun
  | [d1, d2, d3] => { results := [.lit (.bool true)], args := [d1, d2, d3] }
  | _ => none }
def fieldInverseRow : OpenClaim := { program := "ytkkefbjmdbjbhaa", sum := "29fbc638b0a20a5df555511261644582f32aaf184f5f05a4ae2d7c25ed6f7f01", func := "lockwright/lockwrightkeep.FieldInverse", spec := "fieldInverse", unfollowed := true, recurses := true, apart := false }
def FieldInverseSaid : Prop := fieldInverseRow.holds Try.pinned (OpenSpec.ofChange fieldInverseSpec)

/-- ITS FALSE NEIGHBOUR: 'it returns false'. Refute it at one input. -/
def fieldInverseWrong : ChangeSpec := { name := "fieldInverse", fn := fun _ => fun
  | [d1, d2, d3] => { results := [.lit (.bool false)], args := [d1, d2, d3] }
  | _ => none }
def FieldInverseWrongFalsely : Prop := fieldInverseRow.holds Try.pinned (OpenSpec.ofChange fieldInverseWrong)

/-- 'lockwrightkeep.FieldCyclic': WHATEVER THE INPUT: true; the input reads as it did. -/
def fieldCyclicSpec : ChangeSpec := { name := "fieldCyclic", fn := fun _ => fun
  | [d1, d2] => { results := [.lit (.bool true)], args := [d1, d2] }
  | _ => none }
def fieldCyclicRow : OpenClaim := { program := "ytkkefbjmdbjbhaa", sum := "29fbc638b0a20a5df555511261644582f32aaf184f5f05a4ae2d7c25ed6f7f01", func := "lockwright/lockwrightkeep.FieldCyclic", spec := "fieldCyclic", unfollowed := true, recurses := true, apart := false }
def FieldCyclicSaid : Prop := fieldCyclicRow.holds Try.pinned (OpenSpec.ofChange fieldCyclicSpec)

/-- ITS FALSE NEIGHBOUR: 'it returns false'. Refute it at one input. -/
def fieldCyclicWrong : ChangeSpec := { name := "fieldCyclic", fn := fun _ => fun
  | [d1, d2] => { results := [.lit (.bool false)], args := [d1, d2] }
  | _ => none }
def FieldCyclicWrongFalsely : Prop := fieldCyclicRow.holds Try.pinned (OpenSpec.ofChange fieldCyclicWrong)

/- THE SECOND FORM. 'bulk': how many values and letters a reading holds, each counted each time it is reached (what is shared counts as often as it is met; a slice's spare places count too). A statement '..UptoSaid' is the law's where the arguments, and the package variables that the reading takes, are together of bulk at most 1048576: NARROWER than '..Said'. Prove '..Said' where nothing that the law and all that it calls make is longer than what came in: it says more and counts as full. Else prove '..UptoSaid'. A law counts once. -/
mutual
def uptoBulk {H : Type} : DataW H → Nat
  | .lit (.string bytes) => bytes.length + 1
  | .lit _ => 1
  | .nil => 1
  | .ptr d => uptoBulk d + 1
  | .slice elems spare => uptoBulkAll elems + uptoBulkAll spare + 1
  | .agg parts => uptoBulkAll parts + 1
  | .iface _ d => uptoBulk d + 1
  | .map entries => uptoBulkEntries entries + 1
  | .held _ => 1
def uptoBulkAll {H : Type} : List (DataW H) → Nat
  | [] => 0
  | d :: r => uptoBulk d + uptoBulkAll r
def uptoBulkEntries {H : Type} : List (Lit × DataW H) → Nat
  | [] => 0
  | x :: r => uptoBulkEntry x + uptoBulkEntries r
def uptoBulkEntry {H : Type} : Lit × DataW H → Nat
  | (.string bytes, d) => bytes.length + uptoBulk d + 1
  | (_, d) => uptoBulk d + 1
 end
def uptoSmall : (H : Type) → List (DataW H) → Bool := fun _ ds => decide (uptoBulkAll ds ≤ 1048576)
def OpenSpec.upto (s : _root_.Go.ChangeSpec) : _root_.Go.OpenSpec := { _root_.Go.OpenSpec.ofChange s with cond := some uptoSmall }

/-- 'lockwrightkeep.FieldFermat', WHERE WHAT IT READS IS OF BULK AT MOST 1048576: true; the input reads as it did. -/
def fieldFermatUptoRow : OpenClaim := { program := "ytkkefbjmdbjbhaa", sum := "29fbc638b0a20a5df555511261644582f32aaf184f5f05a4ae2d7c25ed6f7f01", func := "lockwright/lockwrightkeep.FieldFermat", spec := "fieldFermat", unfollowed := true, recurses := true, apart := false, narrowed := true }
def FieldFermatUptoSaid : Prop := fieldFermatUptoRow.holds Try.pinned (OpenSpec.upto fieldFermatSpec)

/-- 'lockwrightkeep.FieldAlgebra', WHERE WHAT IT READS IS OF BULK AT MOST 1048576: true; the input reads as it did. -/
def fieldAlgebraUptoRow : OpenClaim := { program := "ytkkefbjmdbjbhaa", sum := "29fbc638b0a20a5df555511261644582f32aaf184f5f05a4ae2d7c25ed6f7f01", func := "lockwright/lockwrightkeep.FieldAlgebra", spec := "fieldAlgebra", unfollowed := true, recurses := true, apart := false, narrowed := true }
def FieldAlgebraUptoSaid : Prop := fieldAlgebraUptoRow.holds Try.pinned (OpenSpec.upto fieldAlgebraSpec)

/-- 'lockwrightkeep.FieldFrobenius', WHERE WHAT IT READS IS OF BULK AT MOST 1048576: true; the input reads as it did. -/
def fieldFrobeniusUptoRow : OpenClaim := { program := "ytkkefbjmdbjbhaa", sum := "29fbc638b0a20a5df555511261644582f32aaf184f5f05a4ae2d7c25ed6f7f01", func := "lockwright/lockwrightkeep.FieldFrobenius", spec := "fieldFrobenius", unfollowed := true, recurses := true, apart := false, narrowed := true }
def FieldFrobeniusUptoSaid : Prop := fieldFrobeniusUptoRow.holds Try.pinned (OpenSpec.upto fieldFrobeniusSpec)

/-- 'lockwrightkeep.FieldInverse', WHERE WHAT IT READS IS OF BULK AT MOST 1048576: true; the input reads as it did. -/
def fieldInverseUptoRow : OpenClaim := { program := "ytkkefbjmdbjbhaa", sum := "29fbc638b0a20a5df555511261644582f32aaf184f5f05a4ae2d7c25ed6f7f01", func := "lockwright/lockwrightkeep.FieldInverse", spec := "fieldInverse", unfollowed := true, recurses := true, apart := false, narrowed := true }
def FieldInverseUptoSaid : Prop := fieldInverseUptoRow.holds Try.pinned (OpenSpec.upto fieldInverseSpec)

/-- 'lockwrightkeep.FieldCyclic', WHERE WHAT IT READS IS OF BULK AT MOST 1048576: true; the input reads as it did. -/
def fieldCyclicUptoRow : OpenClaim := { program := "ytkkefbjmdbjbhaa", sum := "29fbc638b0a20a5df555511261644582f32aaf184f5f05a4ae2d7c25ed6f7f01", func := "lockwright/lockwrightkeep.FieldCyclic", spec := "fieldCyclic", unfollowed := true, recurses := true, apart := false, narrowed := true }
def FieldCyclicUptoSaid : Prop := fieldCyclicUptoRow.holds Try.pinned (OpenSpec.upto fieldCyclicSpec)

end Rows
end Go.Proofs.Ytkkefbjmdbjbhaa
