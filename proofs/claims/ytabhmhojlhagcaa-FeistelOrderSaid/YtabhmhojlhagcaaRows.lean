/-
  No cell of these rows narrows 'for every input' (looked for: loops, veiled, ifaces, maps, wideKeys, modest, calm, conditions, laid).
  DERIVED. THE GIVEN ROWS OF THIS SEAT. 8 by the template 'for every input the law returns true; each argument reads behind the call as it read before'; 0 by the template 'total and deterministic' (their statements: YtabhmhojlhagcaaTotals.lean).
  GIVEN WITH THE SEED: the statements are not yours to turn. If you find one false, say at which input.
  Laid BY PROGRAM, IN A SANDBOX (cutbox-rows.mjs): the forced cells as the released guide's own fill.sh prints them over the translation 4b565f61a72332e6… (all of the seat's roots in one cut). By AI agents, Wed Nov 11 2026. No macro, syntax, notation, axiom, sorry.
-/
import Derived.Test.YtabhmhojlhagcaaChecked
import GoSem.Claim
import GoSem.ClaimJoined
import GoSem.ClaimMapViews
import Derived.JoinedTies
import Derived.KernelRfl
namespace Go.Proofs.Ytabhmhojlhagcaa
/- THE CELL 'sum', in the pinned program and in every row, IS THE sha256 OF THE DUMP (.gsa) THAT YtabhmhojlhagcaaProg.lean LOADS. Nothing in Lean hashes anything: it is a label: what it is worth is what the hold of that sum in a sandbox is worth. -/
noncomputable def Try.pinned : Pinned := { name := "ytabhmhojlhagcaa", sum := "4b565f61a72332e639a1a607625720abadf86a4654e94556fbf27e6d1324b7f8", checked := Try.checked }
namespace Rows
def none {H : Type} : Left H := { results := [], args := [] }

/-- 'lockwrightkeep.WalshParseval': WHATEVER THE INPUT: true; the input reads as it did. -/
def walshParsevalSpec : ChangeSpec := { name := "walshParseval", fn := fun _ => fun
  | [d1, d2] => { results := [.lit (.bool true)], args := [d1, d2] }
  | _ => none }
def walshParsevalRow : OpenClaim := { program := "ytabhmhojlhagcaa", sum := "4b565f61a72332e639a1a607625720abadf86a4654e94556fbf27e6d1324b7f8", func := "lockwright/lockwrightkeep.WalshParseval", spec := "walshParseval", unfollowed := true, recurses := true, apart := false }
def WalshParsevalSaid : Prop := walshParsevalRow.holds Try.pinned (OpenSpec.ofChange walshParsevalSpec)

/-- ITS FALSE NEIGHBOUR: 'it returns false'. Refute it at one input. -/
def walshParsevalWrong : ChangeSpec := { name := "walshParseval", fn := fun _ => fun
  | [d1, d2] => { results := [.lit (.bool false)], args := [d1, d2] }
  | _ => none }
def WalshParsevalWrongFalsely : Prop := walshParsevalRow.holds Try.pinned (OpenSpec.ofChange walshParsevalWrong)

/-- 'lockwrightkeep.WalshBack': WHATEVER THE INPUT: true; the input reads as it did. -/
def walshBackSpec : ChangeSpec := { name := "walshBack", fn := fun _ => fun
  | [d1, d2] => { results := [.lit (.bool true)], args := [d1, d2] }
  | _ => none }
def walshBackRow : OpenClaim := { program := "ytabhmhojlhagcaa", sum := "4b565f61a72332e639a1a607625720abadf86a4654e94556fbf27e6d1324b7f8", func := "lockwright/lockwrightkeep.WalshBack", spec := "walshBack", unfollowed := true, recurses := true, apart := false }
def WalshBackSaid : Prop := walshBackRow.holds Try.pinned (OpenSpec.ofChange walshBackSpec)

/-- ITS FALSE NEIGHBOUR: 'it returns false'. Refute it at one input. -/
def walshBackWrong : ChangeSpec := { name := "walshBack", fn := fun _ => fun
  | [d1, d2] => { results := [.lit (.bool false)], args := [d1, d2] }
  | _ => none }
def WalshBackWrongFalsely : Prop := walshBackRow.holds Try.pinned (OpenSpec.ofChange walshBackWrong)

/-- 'lockwrightkeep.FeistelBack': WHATEVER THE INPUT: true; the input reads as it did. -/
def feistelBackSpec : ChangeSpec := { name := "feistelBack", fn := fun _ => fun
  | [d1, d2, d3] => { results := [.lit (.bool true)], args := [d1, d2, d3] }
  | _ => none }
def feistelBackRow : OpenClaim := { program := "ytabhmhojlhagcaa", sum := "4b565f61a72332e639a1a607625720abadf86a4654e94556fbf27e6d1324b7f8", func := "lockwright/lockwrightkeep.FeistelBack", spec := "feistelBack", unfollowed := true, recurses := true, apart := false }
def FeistelBackSaid : Prop := feistelBackRow.holds Try.pinned (OpenSpec.ofChange feistelBackSpec)

/-- ITS FALSE NEIGHBOUR: 'it returns false'. Refute it at one input. -/
def feistelBackWrong : ChangeSpec := { name := "feistelBack", fn := fun _ => fun
  | [d1, d2, d3] => { results := [.lit (.bool false)], args := [d1, d2, d3] }
  | _ => none }
def FeistelBackWrongFalsely : Prop := feistelBackRow.holds Try.pinned (OpenSpec.ofChange feistelBackWrong)

/-- 'lockwrightkeep.FeistelTurned': WHATEVER THE INPUT: true; the input reads as it did. -/
def feistelTurnedSpec : ChangeSpec := { name := "feistelTurned", fn := fun _ => fun
  | [d1, d2] => { results := [.lit (.bool true)], args := [d1, d2] }
  | _ => none }
def feistelTurnedRow : OpenClaim := { program := "ytabhmhojlhagcaa", sum := "4b565f61a72332e639a1a607625720abadf86a4654e94556fbf27e6d1324b7f8", func := "lockwright/lockwrightkeep.FeistelTurned", spec := "feistelTurned", unfollowed := true, recurses := true, apart := false }
def FeistelTurnedSaid : Prop := feistelTurnedRow.holds Try.pinned (OpenSpec.ofChange feistelTurnedSpec)

/-- ITS FALSE NEIGHBOUR: 'it returns false'. Refute it at one input. -/
def feistelTurnedWrong : ChangeSpec := { name := "feistelTurned", fn := fun _ => fun
  | [d1, d2] => { results := [.lit (.bool false)], args := [d1, d2] }
  | _ => none }
def FeistelTurnedWrongFalsely : Prop := feistelTurnedRow.holds Try.pinned (OpenSpec.ofChange feistelTurnedWrong)

/-- 'lockwrightkeep.FeistelOrder': WHATEVER THE INPUT: true; the input reads as it did. -/
def feistelOrderSpec : ChangeSpec := { name := "feistelOrder", fn := fun _ => fun
  | [d1, d2, d3] => { results := [.lit (.bool true)], args := [d1, d2, d3] }
  | _ => none }
def feistelOrderRow : OpenClaim := { program := "ytabhmhojlhagcaa", sum := "4b565f61a72332e639a1a607625720abadf86a4654e94556fbf27e6d1324b7f8", func := "lockwright/lockwrightkeep.FeistelOrder", spec := "feistelOrder", unfollowed := true, recurses := true, apart := false }
def FeistelOrderSaid : Prop := feistelOrderRow.holds Try.pinned (OpenSpec.ofChange feistelOrderSpec)

/-- ITS FALSE NEIGHBOUR: 'it returns false'. Refute it at one input. -/
def feistelOrderWrong : ChangeSpec := { name := "feistelOrder", fn := fun _ => fun
  | [d1, d2, d3] => { results := [.lit (.bool false)], args := [d1, d2, d3] }
  | _ => none }
def FeistelOrderWrongFalsely : Prop := feistelOrderRow.holds Try.pinned (OpenSpec.ofChange feistelOrderWrong)

/-- 'lockwrightkeep.PadFinds': WHATEVER THE INPUT: true; the input reads as it did. -/
def padFindsSpec : ChangeSpec := { name := "padFinds", fn := fun _ => fun
  | [d1, d2, d3] => { results := [.lit (.bool true)], args := [d1, d2, d3] }
  | _ => none }
def padFindsRow : OpenClaim := { program := "ytabhmhojlhagcaa", sum := "4b565f61a72332e639a1a607625720abadf86a4654e94556fbf27e6d1324b7f8", func := "lockwright/lockwrightkeep.PadFinds", spec := "padFinds", unfollowed := true, recurses := true, apart := false }
def PadFindsSaid : Prop := padFindsRow.holds Try.pinned (OpenSpec.ofChange padFindsSpec)

/-- ITS FALSE NEIGHBOUR: 'it returns false'. Refute it at one input. -/
def padFindsWrong : ChangeSpec := { name := "padFinds", fn := fun _ => fun
  | [d1, d2, d3] => { results := [.lit (.bool false)], args := [d1, d2, d3] }
  | _ => none }
def PadFindsWrongFalsely : Prop := padFindsRow.holds Try.pinned (OpenSpec.ofChange padFindsWrong)

/-- 'lockwrightkeep.PadShannon': WHATEVER THE INPUT: true; the input reads as it did. -/
def padShannonSpec : ChangeSpec := { name := "padShannon", fn := fun _ => fun
  | [d] => { results := [.lit (.bool true)], args := [d] }
  | _ => none }
def padShannonRow : OpenClaim := { program := "ytabhmhojlhagcaa", sum := "4b565f61a72332e639a1a607625720abadf86a4654e94556fbf27e6d1324b7f8", func := "lockwright/lockwrightkeep.PadShannon", spec := "padShannon", unfollowed := true, recurses := true, apart := false }
def PadShannonSaid : Prop := padShannonRow.holds Try.pinned (OpenSpec.ofChange padShannonSpec)

/-- ITS FALSE NEIGHBOUR: 'it returns false'. Refute it at one input. -/
def padShannonWrong : ChangeSpec := { name := "padShannon", fn := fun _ => fun
  | [d] => { results := [.lit (.bool false)], args := [d] }
  | _ => none }
def PadShannonWrongFalsely : Prop := padShannonRow.holds Try.pinned (OpenSpec.ofChange padShannonWrong)

/-- 'lockwrightkeep.PadVernam': WHATEVER THE INPUT: true; the input reads as it did. -/
def padVernamSpec : ChangeSpec := { name := "padVernam", fn := fun _ => fun
  | [d] => { results := [.lit (.bool true)], args := [d] }
  | _ => none }
def padVernamRow : OpenClaim := { program := "ytabhmhojlhagcaa", sum := "4b565f61a72332e639a1a607625720abadf86a4654e94556fbf27e6d1324b7f8", func := "lockwright/lockwrightkeep.PadVernam", spec := "padVernam", unfollowed := true, recurses := true, apart := false }
def PadVernamSaid : Prop := padVernamRow.holds Try.pinned (OpenSpec.ofChange padVernamSpec)

/-- ITS FALSE NEIGHBOUR: 'it returns false'. Refute it at one input. -/
def padVernamWrong : ChangeSpec := { name := "padVernam", fn := fun _ => fun
  | [d] => { results := [.lit (.bool false)], args := [d] }
  | _ => none }
def PadVernamWrongFalsely : Prop := padVernamRow.holds Try.pinned (OpenSpec.ofChange padVernamWrong)

/- THE SECOND FORM. 'bulk': how many values and letters a reading holds, each counted each time it is reached (what is shared counts as often as it is met; a slice's spare places count too). A statement '..UptoSaid' is the law's where the arguments, and the package variables that the reading takes, are together of bulk at most 1048576: NARROWER than '..Said'. Prove '..Said' where nothing that the law and all that it calls make is longer than what came in: it says more and counts as full. Else prove '..UptoSaid'. A law counts once. -/
mutual
def uptoBulk {H : Type} : DataW H → Nat
  | .lit (.string bytes) => bytes.length + 1
  | .lit _ => 1
  | .nil => 1
  | .ptr d => uptoBulk d + 1
  | .slice elems spare => uptoBulkAll elems + uptoBulkAll spare + 1
  | .agg parts => uptoBulkAll parts + 1
  | .iface _ d => uptoBulk d + 1
  | .map entries => uptoBulkEntries entries + 1
  | .held _ => 1
def uptoBulkAll {H : Type} : List (DataW H) → Nat
  | [] => 0
  | d :: r => uptoBulk d + uptoBulkAll r
def uptoBulkEntries {H : Type} : List (Lit × DataW H) → Nat
  | [] => 0
  | x :: r => uptoBulkEntry x + uptoBulkEntries r
def uptoBulkEntry {H : Type} : Lit × DataW H → Nat
  | (.string bytes, d) => bytes.length + uptoBulk d + 1
  | (_, d) => uptoBulk d + 1
 end
def uptoSmall : (H : Type) → List (DataW H) → Bool := fun _ ds => decide (uptoBulkAll ds ≤ 1048576)
def OpenSpec.upto (s : _root_.Go.ChangeSpec) : _root_.Go.OpenSpec := { _root_.Go.OpenSpec.ofChange s with cond := some uptoSmall }

/-- 'lockwrightkeep.WalshParseval', WHERE WHAT IT READS IS OF BULK AT MOST 1048576: true; the input reads as it did. -/
def walshParsevalUptoRow : OpenClaim := { program := "ytabhmhojlhagcaa", sum := "4b565f61a72332e639a1a607625720abadf86a4654e94556fbf27e6d1324b7f8", func := "lockwright/lockwrightkeep.WalshParseval", spec := "walshParseval", unfollowed := true, recurses := true, apart := false, narrowed := true }
def WalshParsevalUptoSaid : Prop := walshParsevalUptoRow.holds Try.pinned (OpenSpec.upto walshParsevalSpec)

/-- 'lockwrightkeep.WalshBack', WHERE WHAT IT READS IS OF BULK AT MOST 1048576: true; the input reads as it did. -/
def walshBackUptoRow : OpenClaim := { program := "ytabhmhojlhagcaa", sum := "4b565f61a72332e639a1a607625720abadf86a4654e94556fbf27e6d1324b7f8", func := "lockwright/lockwrightkeep.WalshBack", spec := "walshBack", unfollowed := true, recurses := true, apart := false, narrowed := true }
def WalshBackUptoSaid : Prop := walshBackUptoRow.holds Try.pinned (OpenSpec.upto walshBackSpec)

/-- 'lockwrightkeep.FeistelBack', WHERE WHAT IT READS IS OF BULK AT MOST 1048576: true; the input reads as it did. -/
def feistelBackUptoRow : OpenClaim := { program := "ytabhmhojlhagcaa", sum := "4b565f61a72332e639a1a607625720abadf86a4654e94556fbf27e6d1324b7f8", func := "lockwright/lockwrightkeep.FeistelBack", spec := "feistelBack", unfollowed := true, recurses := true, apart := false, narrowed := true }
def FeistelBackUptoSaid : Prop := feistelBackUptoRow.holds Try.pinned (OpenSpec.upto feistelBackSpec)

/-- 'lockwrightkeep.FeistelTurned', WHERE WHAT IT READS IS OF BULK AT MOST 1048576: true; the input reads as it did. -/
def feistelTurnedUptoRow : OpenClaim := { program := "ytabhmhojlhagcaa", sum := "4b565f61a72332e639a1a607625720abadf86a4654e94556fbf27e6d1324b7f8", func := "lockwright/lockwrightkeep.FeistelTurned", spec := "feistelTurned", unfollowed := true, recurses := true, apart := false, narrowed := true }
def FeistelTurnedUptoSaid : Prop := feistelTurnedUptoRow.holds Try.pinned (OpenSpec.upto feistelTurnedSpec)

/-- 'lockwrightkeep.FeistelOrder', WHERE WHAT IT READS IS OF BULK AT MOST 1048576: true; the input reads as it did. -/
def feistelOrderUptoRow : OpenClaim := { program := "ytabhmhojlhagcaa", sum := "4b565f61a72332e639a1a607625720abadf86a4654e94556fbf27e6d1324b7f8", func := "lockwright/lockwrightkeep.FeistelOrder", spec := "feistelOrder", unfollowed := true, recurses := true, apart := false, narrowed := true }
def FeistelOrderUptoSaid : Prop := feistelOrderUptoRow.holds Try.pinned (OpenSpec.upto feistelOrderSpec)

/-- 'lockwrightkeep.PadFinds', WHERE WHAT IT READS IS OF BULK AT MOST 1048576: true; the input reads as it did. -/
def padFindsUptoRow : OpenClaim := { program := "ytabhmhojlhagcaa", sum := "4b565f61a72332e639a1a607625720abadf86a4654e94556fbf27e6d1324b7f8", func := "lockwright/lockwrightkeep.PadFinds", spec := "padFinds", unfollowed := true, recurses := true, apart := false, narrowed := true }
def PadFindsUptoSaid : Prop := padFindsUptoRow.holds Try.pinned (OpenSpec.upto padFindsSpec)

/-- 'lockwrightkeep.PadShannon', WHERE WHAT IT READS IS OF BULK AT MOST 1048576: true; the input reads as it did. -/
def padShannonUptoRow : OpenClaim := { program := "ytabhmhojlhagcaa", sum := "4b565f61a72332e639a1a607625720abadf86a4654e94556fbf27e6d1324b7f8", func := "lockwright/lockwrightkeep.PadShannon", spec := "padShannon", unfollowed := true, recurses := true, apart := false, narrowed := true }
def PadShannonUptoSaid : Prop := padShannonUptoRow.holds Try.pinned (OpenSpec.upto padShannonSpec)

/-- 'lockwrightkeep.PadVernam', WHERE WHAT IT READS IS OF BULK AT MOST 1048576: true; the input reads as it did. -/
def padVernamUptoRow : OpenClaim := { program := "ytabhmhojlhagcaa", sum := "4b565f61a72332e639a1a607625720abadf86a4654e94556fbf27e6d1324b7f8", func := "lockwright/lockwrightkeep.PadVernam", spec := "padVernam", unfollowed := true, recurses := true, apart := false, narrowed := true }
def PadVernamUptoSaid : Prop := padVernamUptoRow.holds Try.pinned (OpenSpec.upto padVernamSpec)

end Rows
end Go.Proofs.Ytabhmhojlhagcaa
