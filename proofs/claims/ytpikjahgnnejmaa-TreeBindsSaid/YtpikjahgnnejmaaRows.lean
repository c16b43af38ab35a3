/-
  No cell of these rows narrows 'for every input' (looked for: loops, veiled, ifaces, maps, wideKeys, modest, calm, conditions, laid).
  DERIVED. THE GIVEN ROWS OF THIS SEAT. 10 by the template 'for every input the law returns true; each argument reads behind the call as it read before'; 0 by the template 'total and deterministic' (their statements: YtpikjahgnnejmaaTotals.lean).
  GIVEN WITH THE SEED: the statements are not yours to turn. If you find one false, say at which input.
  Laid BY PROGRAM, IN A SANDBOX (cutbox-rows.mjs): the forced cells as the released guide's own fill.sh prints them over the translation b6d4c7e363f2802b… (all of the seat's roots in one cut). By AI agents, Wed Nov 11 2026. No macro, syntax, notation, axiom, sorry.
-/
import Derived.Test.YtpikjahgnnejmaaChecked
import GoSem.Claim
import GoSem.ClaimJoined
import GoSem.ClaimMapViews
import Derived.JoinedTies
import Derived.KernelRfl
namespace Go.Proofs.Ytpikjahgnnejmaa
/- THE CELL 'sum', in the pinned program and in every row, IS THE sha256 OF THE DUMP (.gsa) THAT YtpikjahgnnejmaaProg.lean LOADS. Nothing in Lean hashes anything: it is a label: what it is worth is what the hold of that sum in a sandbox is worth. -/
noncomputable def Try.pinned : Pinned := { name := "ytpikjahgnnejmaa", sum := "b6d4c7e363f2802bf50e4fb09e077979e89ea5f387f19773b464dafc84d203eb", checked := Try.checked }
namespace Rows
def none {H : Type} : Left H := { results := [], args := [] }

/-- 'lockwrightkeep.HashStep': WHATEVER THE INPUT: true; the input reads as it did. -/
def hashStepSpec : ChangeSpec := { name := "hashStep", fn := fun _ => fun
  | [d1, d2, d3, d4] => { results := [.lit (.bool true)], args := [d1, d2, d3, d4] }
  | _ => none }
def hashStepRow : OpenClaim := { program := "ytpikjahgnnejmaa", sum := "b6d4c7e363f2802bf50e4fb09e077979e89ea5f387f19773b464dafc84d203eb", func := "lockwright/lockwrightkeep.HashStep", spec := "hashStep", apart := false }
def HashStepSaid : Prop := hashStepRow.holds Try.pinned (OpenSpec.ofChange hashStepSpec)

/-- ITS FALSE NEIGHBOUR: 'it returns false'. Refute it at one input. -/
def hashStepWrong : ChangeSpec := { name := "hashStep", fn := fun _ => fun
  | [d1, d2, d3, d4] => { results := [.lit (.bool false)], args := [d1, d2, d3, d4] }
  | _ => none }
def HashStepWrongFalsely : Prop := hashStepRow.holds Try.pinned (OpenSpec.ofChange hashStepWrong)

/-- 'lockwrightkeep.HashOne': WHATEVER THE INPUT: true; the input reads as it did. -/
def hashOneSpec : ChangeSpec := { name := "hashOne", fn := fun _ => fun
  | [d1, d2, d3] => { results := [.lit (.bool true)], args := [d1, d2, d3] }
  | _ => none }
def hashOneRow : OpenClaim := { program := "ytpikjahgnnejmaa", sum := "b6d4c7e363f2802bf50e4fb09e077979e89ea5f387f19773b464dafc84d203eb", func := "lockwright/lockwrightkeep.HashOne", spec := "hashOne", apart := false }
def HashOneSaid : Prop := hashOneRow.holds Try.pinned (OpenSpec.ofChange hashOneSpec)

/-- ITS FALSE NEIGHBOUR: 'it returns false'. Refute it at one input. -/
def hashOneWrong : ChangeSpec := { name := "hashOne", fn := fun _ => fun
  | [d1, d2, d3] => { results := [.lit (.bool false)], args := [d1, d2, d3] }
  | _ => none }
def HashOneWrongFalsely : Prop := hashOneRow.holds Try.pinned (OpenSpec.ofChange hashOneWrong)

/-- 'lockwrightkeep.HashClashes': WHATEVER THE INPUT: true; the input reads as it did. -/
def hashClashesSpec : ChangeSpec := { name := "hashClashes", fn := fun _ => fun
  | [d1, d2] => { results := [.lit (.bool true)], args := [d1, d2] }
  | _ => none }
def hashClashesRow : OpenClaim := { program := "ytpikjahgnnejmaa", sum := "b6d4c7e363f2802bf50e4fb09e077979e89ea5f387f19773b464dafc84d203eb", func := "lockwright/lockwrightkeep.HashClashes", spec := "hashClashes", apart := false }
def HashClashesSaid : Prop := hashClashesRow.holds Try.pinned (OpenSpec.ofChange hashClashesSpec)

/-- ITS FALSE NEIGHBOUR: 'it returns false'. Refute it at one input. -/
def hashClashesWrong : ChangeSpec := { name := "hashClashes", fn := fun _ => fun
  | [d1, d2] => { results := [.lit (.bool false)], args := [d1, d2] }
  | _ => none }
def HashClashesWrongFalsely : Prop := hashClashesRow.holds Try.pinned (OpenSpec.ofChange hashClashesWrong)

/-- 'lockwrightkeep.CellLayers': WHATEVER THE INPUT: true; the input reads as it did. -/
def cellLayersSpec : ChangeSpec := { name := "cellLayers", fn := fun _ => fun
  | [d1, d2, d3, d4, d5] => { results := [.lit (.bool true)], args := [d1, d2, d3, d4, d5] }
  | _ => none }
def cellLayersRow : OpenClaim := { program := "ytpikjahgnnejmaa", sum := "b6d4c7e363f2802bf50e4fb09e077979e89ea5f387f19773b464dafc84d203eb", func := "lockwright/lockwrightkeep.CellLayers", spec := "cellLayers", apart := false }
def CellLayersSaid : Prop := cellLayersRow.holds Try.pinned (OpenSpec.ofChange cellLayersSpec)

/-- ITS FALSE NEIGHBOUR: 'it returns false'. Refute it at one input. -/
def cellLayersWrong : ChangeSpec := { name := "cellLayers", fn := fun _ => fun
  | [d1, d2, d3, d4, d5] => { results := [.lit (.bool false)], args := [d1, d2, d3, d4, d5] }
  | _ => none }
def CellLayersWrongFalsely : Prop := cellLayersRow.holds Try.pinned (OpenSpec.ofChange cellLayersWrong)

/-- 'lockwrightkeep.CellBack': WHATEVER THE INPUT: true; the input reads as it did. -/
def cellBackSpec : ChangeSpec := { name := "cellBack", fn := fun _ => fun
  | [d1, d2, d3, d4] => { results := [.lit (.bool true)], args := [d1, d2, d3, d4] }
  | _ => none }
def cellBackRow : OpenClaim := { program := "ytpikjahgnnejmaa", sum := "b6d4c7e363f2802bf50e4fb09e077979e89ea5f387f19773b464dafc84d203eb", func := "lockwright/lockwrightkeep.CellBack", spec := "cellBack", unfollowed := true, recurses := true, apart := false }
def CellBackSaid : Prop := cellBackRow.holds Try.pinned (OpenSpec.ofChange cellBackSpec)

/-- ITS FALSE NEIGHBOUR: 'it returns false'. Refute it at one input. -/
def cellBackWrong : ChangeSpec := { name := "cellBack", fn := fun _ => fun
  | [d1, d2, d3, d4] => { results := [.lit (.bool false)], args := [d1, d2, d3, d4] }
  | _ => none }
def CellBackWrongFalsely : Prop := cellBackRow.holds Try.pinned (OpenSpec.ofChange cellBackWrong)

/-- 'lockwrightkeep.CellTurned': WHATEVER THE INPUT: true; the input reads as it did. -/
def cellTurnedSpec : ChangeSpec := { name := "cellTurned", fn := fun _ => fun
  | [d1, d2, d3, d4, d5] => { results := [.lit (.bool true)], args := [d1, d2, d3, d4, d5] }
  | _ => none }
def cellTurnedRow : OpenClaim := { program := "ytpikjahgnnejmaa", sum := "b6d4c7e363f2802bf50e4fb09e077979e89ea5f387f19773b464dafc84d203eb", func := "lockwright/lockwrightkeep.CellTurned", spec := "cellTurned", unfollowed := true, recurses := true, apart := false }
def CellTurnedSaid : Prop := cellTurnedRow.holds Try.pinned (OpenSpec.ofChange cellTurnedSpec)

/-- ITS FALSE NEIGHBOUR: 'it returns false'. Refute it at one input. -/
def cellTurnedWrong : ChangeSpec := { name := "cellTurned", fn := fun _ => fun
  | [d1, d2, d3, d4, d5] => { results := [.lit (.bool false)], args := [d1, d2, d3, d4, d5] }
  | _ => none }
def CellTurnedWrongFalsely : Prop := cellTurnedRow.holds Try.pinned (OpenSpec.ofChange cellTurnedWrong)

/-- 'lockwrightkeep.TreeProves': WHATEVER THE INPUT: true; the input reads as it did. -/
def treeProvesSpec : ChangeSpec := { name := "treeProves", fn := fun _ => fun
  | [d1, d2, d3] => { results := [.lit (.bool true)], args := [d1, d2, d3] }
  | _ => none }
def treeProvesRow : OpenClaim := { program := "ytpikjahgnnejmaa", sum := "b6d4c7e363f2802bf50e4fb09e077979e89ea5f387f19773b464dafc84d203eb", func := "lockwright/lockwrightkeep.TreeProves", spec := "treeProves", unfollowed := true, recurses := true, apart := false }
def TreeProvesSaid : Prop := treeProvesRow.holds Try.pinned (OpenSpec.ofChange treeProvesSpec)

/-- ITS FALSE NEIGHBOUR: 'it returns false'. Refute it at one input. -/
def treeProvesWrong : ChangeSpec := { name := "treeProves", fn := fun _ => fun
  | [d1, d2, d3] => { results := [.lit (.bool false)], args := [d1, d2, d3] }
  | _ => none }
def TreeProvesWrongFalsely : Prop := treeProvesRow.holds Try.pinned (OpenSpec.ofChange treeProvesWrong)

/-- 'lockwrightkeep.TreeBinds': WHATEVER THE INPUT: true; the input reads as it did. -/
def treeBindsSpec : ChangeSpec := { name := "treeBinds", fn := fun _ => fun
  | [d1, d2, d3, d4] => { results := [.lit (.bool true)], args := [d1, d2, d3, d4] }
  | _ => none }
def treeBindsRow : OpenClaim := { program := "ytpikjahgnnejmaa", sum := "b6d4c7e363f2802bf50e4fb09e077979e89ea5f387f19773b464dafc84d203eb", func := "lockwright/lockwrightkeep.TreeBinds", spec := "treeBinds", unfollowed := true, recurses := true, apart := false }
def TreeBindsSaid : Prop := treeBindsRow.holds Try.pinned (OpenSpec.ofChange treeBindsSpec)

/-- ITS FALSE NEIGHBOUR: 'it returns false'. Refute it at one input. -/
def treeBindsWrong : ChangeSpec := { name := "treeBinds", fn := fun _ => fun
  | [d1, d2, d3, d4] => { results := [.lit (.bool false)], args := [d1, d2, d3, d4] }
  | _ => none }
def TreeBindsWrongFalsely : Prop := treeBindsRow.holds Try.pinned (OpenSpec.ofChange treeBindsWrong)

/-- 'lockwrightkeep.RatchetRight': WHATEVER THE INPUT: true; the input reads as it did. -/
def ratchetRightSpec : ChangeSpec := { name := "ratchetRight", fn := fun _ => fun
  | [d1, d2, d3] => { results := [.lit (.bool true)], args := [d1, d2, d3] }
  | _ => none }
def ratchetRightRow : OpenClaim := { program := "ytpikjahgnnejmaa", sum := "b6d4c7e363f2802bf50e4fb09e077979e89ea5f387f19773b464dafc84d203eb", func := "lockwright/lockwrightkeep.RatchetRight", spec := "ratchetRight", apart := false }
def RatchetRightSaid : Prop := ratchetRightRow.holds Try.pinned (OpenSpec.ofChange ratchetRightSpec)

/-- ITS FALSE NEIGHBOUR: 'it returns false'. Refute it at one input. -/
def ratchetRightWrong : ChangeSpec := { name := "ratchetRight", fn := fun _ => fun
  | [d1, d2, d3] => { results := [.lit (.bool false)], args := [d1, d2, d3] }
  | _ => none }
def RatchetRightWrongFalsely : Prop := ratchetRightRow.holds Try.pinned (OpenSpec.ofChange ratchetRightWrong)

/-- 'lockwrightkeep.RatchetAny': WHATEVER THE INPUT: true; the input reads as it did. -/
def ratchetAnySpec : ChangeSpec := { name := "ratchetAny", fn := fun _ => fun
  | [d1, d2, d3] => { results := [.lit (.bool true)], args := [d1, d2, d3] }
  | _ => none }
def ratchetAnyRow : OpenClaim := { program := "ytpikjahgnnejmaa", sum := "b6d4c7e363f2802bf50e4fb09e077979e89ea5f387f19773b464dafc84d203eb", func := "lockwright/lockwrightkeep.RatchetAny", spec := "ratchetAny", apart := false }
def RatchetAnySaid : Prop := ratchetAnyRow.holds Try.pinned (OpenSpec.ofChange ratchetAnySpec)

/-- ITS FALSE NEIGHBOUR: 'it returns false'. Refute it at one input. -/
def ratchetAnyWrong : ChangeSpec := { name := "ratchetAny", fn := fun _ => fun
  | [d1, d2, d3] => { results := [.lit (.bool false)], args := [d1, d2, d3] }
  | _ => none }
def RatchetAnyWrongFalsely : Prop := ratchetAnyRow.holds Try.pinned (OpenSpec.ofChange ratchetAnyWrong)

/- THE SECOND FORM. 'bulk': how many values and letters a reading holds, each counted each time it is reached (what is shared counts as often as it is met; a slice's spare places count too). A statement '..UptoSaid' is the law's where the arguments, and the package variables that the reading takes, are together of bulk at most 1048576: NARROWER than '..Said'. Prove '..Said' where nothing that the law and all that it calls make is longer than what came in: it says more and counts as full. Else prove '..UptoSaid'. A law counts once. -/
mutual
def uptoBulk {H : Type} : DataW H → Nat
  | .lit (.string bytes) => bytes.length + 1
  | .lit _ => 1
  | .nil => 1
  | .ptr d => uptoBulk d + 1
  | .slice elems spare => uptoBulkAll elems + uptoBulkAll spare + 1
  | .agg parts => uptoBulkAll parts + 1
  | .iface _ d => uptoBulk d + 1
  | .map entries => uptoBulkEntries entries + 1
  | .held _ => 1
def uptoBulkAll {H : Type} : List (DataW H) → Nat
  | [] => 0
  | d :: r => uptoBulk d + uptoBulkAll r
def uptoBulkEntries {H : Type} : List (Lit × DataW H) → Nat
  | [] => 0
  | x :: r => uptoBulkEntry x + uptoBulkEntries r
def uptoBulkEntry {H : Type} : Lit × DataW H → Nat
  | (.string bytes, d) => bytes.length + uptoBulk d + 1
  | (_, d) => uptoBulk d + 1
 end
def uptoSmall : (H : Type) → List (DataW H) → Bool := fun _ ds => decide (uptoBulkAll ds ≤ 1048576)
def OpenSpec.upto (s : _root_.Go.ChangeSpec) : _root_.Go.OpenSpec := { _root_.Go.OpenSpec.ofChange s with cond := some uptoSmall }

/-- 'lockwrightkeep.HashStep', WHERE WHAT IT READS IS OF BULK AT MOST 1048576: true; the input reads as it did. -/
def hashStepUptoRow : OpenClaim := { program := "ytpikjahgnnejmaa", sum := "b6d4c7e363f2802bf50e4fb09e077979e89ea5f387f19773b464dafc84d203eb", func := "lockwright/lockwrightkeep.HashStep", spec := "hashStep", apart := false, narrowed := true }
def HashStepUptoSaid : Prop := hashStepUptoRow.holds Try.pinned (OpenSpec.upto hashStepSpec)

/-- 'lockwrightkeep.HashOne', WHERE WHAT IT READS IS OF BULK AT MOST 1048576: true; the input reads as it did. -/
def hashOneUptoRow : OpenClaim := { program := "ytpikjahgnnejmaa", sum := "b6d4c7e363f2802bf50e4fb09e077979e89ea5f387f19773b464dafc84d203eb", func := "lockwright/lockwrightkeep.HashOne", spec := "hashOne", apart := false, narrowed := true }
def HashOneUptoSaid : Prop := hashOneUptoRow.holds Try.pinned (OpenSpec.upto hashOneSpec)

/-- 'lockwrightkeep.HashClashes', WHERE WHAT IT READS IS OF BULK AT MOST 1048576: true; the input reads as it did. -/
def hashClashesUptoRow : OpenClaim := { program := "ytpikjahgnnejmaa", sum := "b6d4c7e363f2802bf50e4fb09e077979e89ea5f387f19773b464dafc84d203eb", func := "lockwright/lockwrightkeep.HashClashes", spec := "hashClashes", apart := false, narrowed := true }
def HashClashesUptoSaid : Prop := hashClashesUptoRow.holds Try.pinned (OpenSpec.upto hashClashesSpec)

/-- 'lockwrightkeep.CellLayers', WHERE WHAT IT READS IS OF BULK AT MOST 1048576: true; the input reads as it did. -/
def cellLayersUptoRow : OpenClaim := { program := "ytpikjahgnnejmaa", sum := "b6d4c7e363f2802bf50e4fb09e077979e89ea5f387f19773b464dafc84d203eb", func := "lockwright/lockwrightkeep.CellLayers", spec := "cellLayers", apart := false, narrowed := true }
def CellLayersUptoSaid : Prop := cellLayersUptoRow.holds Try.pinned (OpenSpec.upto cellLayersSpec)

/-- 'lockwrightkeep.CellBack', WHERE WHAT IT READS IS OF BULK AT MOST 1048576: true; the input reads as it did. -/
def cellBackUptoRow : OpenClaim := { program := "ytpikjahgnnejmaa", sum := "b6d4c7e363f2802bf50e4fb09e077979e89ea5f387f19773b464dafc84d203eb", func := "lockwright/lockwrightkeep.CellBack", spec := "cellBack", unfollowed := true, recurses := true, apart := false, narrowed := true }
def CellBackUptoSaid : Prop := cellBackUptoRow.holds Try.pinned (OpenSpec.upto cellBackSpec)

/-- 'lockwrightkeep.CellTurned', WHERE WHAT IT READS IS OF BULK AT MOST 1048576: true; the input reads as it did. -/
def cellTurnedUptoRow : OpenClaim := { program := "ytpikjahgnnejmaa", sum := "b6d4c7e363f2802bf50e4fb09e077979e89ea5f387f19773b464dafc84d203eb", func := "lockwright/lockwrightkeep.CellTurned", spec := "cellTurned", unfollowed := true, recurses := true, apart := false, narrowed := true }
def CellTurnedUptoSaid : Prop := cellTurnedUptoRow.holds Try.pinned (OpenSpec.upto cellTurnedSpec)

/-- 'lockwrightkeep.TreeProves', WHERE WHAT IT READS IS OF BULK AT MOST 1048576: true; the input reads as it did. -/
def treeProvesUptoRow : OpenClaim := { program := "ytpikjahgnnejmaa", sum := "b6d4c7e363f2802bf50e4fb09e077979e89ea5f387f19773b464dafc84d203eb", func := "lockwright/lockwrightkeep.TreeProves", spec := "treeProves", unfollowed := true, recurses := true, apart := false, narrowed := true }
def TreeProvesUptoSaid : Prop := treeProvesUptoRow.holds Try.pinned (OpenSpec.upto treeProvesSpec)

/-- 'lockwrightkeep.TreeBinds', WHERE WHAT IT READS IS OF BULK AT MOST 1048576: true; the input reads as it did. -/
def treeBindsUptoRow : OpenClaim := { program := "ytpikjahgnnejmaa", sum := "b6d4c7e363f2802bf50e4fb09e077979e89ea5f387f19773b464dafc84d203eb", func := "lockwright/lockwrightkeep.TreeBinds", spec := "treeBinds", unfollowed := true, recurses := true, apart := false, narrowed := true }
def TreeBindsUptoSaid : Prop := treeBindsUptoRow.holds Try.pinned (OpenSpec.upto treeBindsSpec)

/-- 'lockwrightkeep.RatchetRight', WHERE WHAT IT READS IS OF BULK AT MOST 1048576: true; the input reads as it did. -/
def ratchetRightUptoRow : OpenClaim := { program := "ytpikjahgnnejmaa", sum := "b6d4c7e363f2802bf50e4fb09e077979e89ea5f387f19773b464dafc84d203eb", func := "lockwright/lockwrightkeep.RatchetRight", spec := "ratchetRight", apart := false, narrowed := true }
def RatchetRightUptoSaid : Prop := ratchetRightUptoRow.holds Try.pinned (OpenSpec.upto ratchetRightSpec)

/-- 'lockwrightkeep.RatchetAny', WHERE WHAT IT READS IS OF BULK AT MOST 1048576: true; the input reads as it did. -/
def ratchetAnyUptoRow : OpenClaim := { program := "ytpikjahgnnejmaa", sum := "b6d4c7e363f2802bf50e4fb09e077979e89ea5f387f19773b464dafc84d203eb", func := "lockwright/lockwrightkeep.RatchetAny", spec := "ratchetAny", apart := false, narrowed := true }
def RatchetAnyUptoSaid : Prop := ratchetAnyUptoRow.holds Try.pinned (OpenSpec.upto ratchetAnySpec)

end Rows
end Go.Proofs.Ytpikjahgnnejmaa
