/-
  No cell of these rows narrows 'for every input' (looked for: loops, veiled, ifaces, maps, wideKeys, modest, calm, conditions, laid).
  DERIVED. THE GIVEN ROWS OF THIS SEAT. 11 by the template 'for every input the law returns true; each argument reads behind the call as it read before'; 0 by the template 'total and deterministic' (their statements: YtgmkmlfppblpfaaTotals.lean).
  GIVEN WITH THE SEED: the statements are not yours to turn. If you find one false, say at which input.
  Laid BY PROGRAM, IN A SANDBOX (cutbox-rows.mjs): the forced cells as the released guide's own fill.sh prints them over the translation 07d4b6158935e7b9… (all of the seat's roots in one cut). By AI agents, Wed Nov 11 2026. No macro, syntax, notation, axiom, sorry.
-/
import Derived.Test.YtgmkmlfppblpfaaChecked
import GoSem.Claim
import GoSem.ClaimJoined
import GoSem.ClaimMapViews
import Derived.JoinedTies
import Derived.KernelRfl
namespace Go.Proofs.Ytgmkmlfppblpfaa
/- THE CELL 'sum', in the pinned program and in every row, IS THE sha256 OF THE DUMP (.gsa) THAT YtgmkmlfppblpfaaProg.lean LOADS. Nothing in Lean hashes anything: it is a label: what it is worth is what the hold of that sum in a sandbox is worth. -/
noncomputable def Try.pinned : Pinned := { name := "ytgmkmlfppblpfaa", sum := "07d4b6158935e7b9b24de32aec3494827a715b9b0e5b4d46d9fe3a7df6449656", checked := Try.checked }
namespace Rows
def none {H : Type} : Left H := { results := [], args := [] }

/-- 'lockwrightkeep.GroupShares': WHATEVER THE INPUT: true; the input reads as it did. -/
def groupSharesSpec : ChangeSpec := { name := "groupShares", fn := fun _ => fun
  | [d1, d2, d3] => { results := [.lit (.bool true)], args := [d1, d2, d3] }
  | _ => none }
def groupSharesRow : OpenClaim := { program := "ytgmkmlfppblpfaa", sum := "07d4b6158935e7b9b24de32aec3494827a715b9b0e5b4d46d9fe3a7df6449656", func := "lockwright/lockwrightkeep.GroupShares", spec := "groupShares", unfollowed := true, recurses := true, apart := false }
def GroupSharesSaid : Prop := groupSharesRow.holds Try.pinned (OpenSpec.ofChange groupSharesSpec)

/-- ITS FALSE NEIGHBOUR: 'it returns false'. Refute it at one input. -/
def groupSharesWrong : ChangeSpec := { name := "groupShares", fn := fun _ => fun
  | [d1, d2, d3] => { results := [.lit (.bool false)], args := [d1, d2, d3] }
  | _ => none }
def GroupSharesWrongFalsely : Prop := groupSharesRow.holds Try.pinned (OpenSpec.ofChange groupSharesWrong)

/-- 'lockwrightkeep.GroupOpens': WHATEVER THE INPUT: true; the input reads as it did. -/
def groupOpensSpec : ChangeSpec := { name := "groupOpens", fn := fun _ => fun
  | [d1, d2, d3, d4, d5] => { results := [.lit (.bool true)], args := [d1, d2, d3, d4, d5] }
  | _ => none }
def groupOpensRow : OpenClaim := { program := "ytgmkmlfppblpfaa", sum := "07d4b6158935e7b9b24de32aec3494827a715b9b0e5b4d46d9fe3a7df6449656", func := "lockwright/lockwrightkeep.GroupOpens", spec := "groupOpens", unfollowed := true, recurses := true, apart := false }
def GroupOpensSaid : Prop := groupOpensRow.holds Try.pinned (OpenSpec.ofChange groupOpensSpec)

/-- ITS FALSE NEIGHBOUR: 'it returns false'. Refute it at one input. -/
def groupOpensWrong : ChangeSpec := { name := "groupOpens", fn := fun _ => fun
  | [d1, d2, d3, d4, d5] => { results := [.lit (.bool false)], args := [d1, d2, d3, d4, d5] }
  | _ => none }
def GroupOpensWrongFalsely : Prop := groupOpensRow.holds Try.pinned (OpenSpec.ofChange groupOpensWrong)

/-- 'lockwrightkeep.GroupMuls': WHATEVER THE INPUT: true; the input reads as it did. -/
def groupMulsSpec : ChangeSpec := { name := "groupMuls", fn := fun _ => fun
  | [d1, d2, d3, d4, d5, d6] => { results := [.lit (.bool true)], args := [d1, d2, d3, d4, d5, d6] }
  | _ => none }
def groupMulsRow : OpenClaim := { program := "ytgmkmlfppblpfaa", sum := "07d4b6158935e7b9b24de32aec3494827a715b9b0e5b4d46d9fe3a7df6449656", func := "lockwright/lockwrightkeep.GroupMuls", spec := "groupMuls", unfollowed := true, recurses := true, apart := false }
def GroupMulsSaid : Prop := groupMulsRow.holds Try.pinned (OpenSpec.ofChange groupMulsSpec)

/-- ITS FALSE NEIGHBOUR: 'it returns false'. Refute it at one input. -/
def groupMulsWrong : ChangeSpec := { name := "groupMuls", fn := fun _ => fun
  | [d1, d2, d3, d4, d5, d6] => { results := [.lit (.bool false)], args := [d1, d2, d3, d4, d5, d6] }
  | _ => none }
def GroupMulsWrongFalsely : Prop := groupMulsRow.holds Try.pinned (OpenSpec.ofChange groupMulsWrong)

/-- 'lockwrightkeep.CommitAdds': WHATEVER THE INPUT: true; the input reads as it did. -/
def commitAddsSpec : ChangeSpec := { name := "commitAdds", fn := fun _ => fun
  | [d1, d2, d3, d4, d5] => { results := [.lit (.bool true)], args := [d1, d2, d3, d4, d5] }
  | _ => none }
def commitAddsRow : OpenClaim := { program := "ytgmkmlfppblpfaa", sum := "07d4b6158935e7b9b24de32aec3494827a715b9b0e5b4d46d9fe3a7df6449656", func := "lockwright/lockwrightkeep.CommitAdds", spec := "commitAdds", unfollowed := true, recurses := true, apart := false }
def CommitAddsSaid : Prop := commitAddsRow.holds Try.pinned (OpenSpec.ofChange commitAddsSpec)

/-- ITS FALSE NEIGHBOUR: 'it returns false'. Refute it at one input. -/
def commitAddsWrong : ChangeSpec := { name := "commitAdds", fn := fun _ => fun
  | [d1, d2, d3, d4, d5] => { results := [.lit (.bool false)], args := [d1, d2, d3, d4, d5] }
  | _ => none }
def CommitAddsWrongFalsely : Prop := commitAddsRow.holds Try.pinned (OpenSpec.ofChange commitAddsWrong)

/-- 'lockwrightkeep.CommitHides': WHATEVER THE INPUT: true; the input reads as it did. -/
def commitHidesSpec : ChangeSpec := { name := "commitHides", fn := fun _ => fun
  | [d1, d2, d3, d4, d5, d6] => { results := [.lit (.bool true)], args := [d1, d2, d3, d4, d5, d6] }
  | _ => none }
def commitHidesRow : OpenClaim := { program := "ytgmkmlfppblpfaa", sum := "07d4b6158935e7b9b24de32aec3494827a715b9b0e5b4d46d9fe3a7df6449656", func := "lockwright/lockwrightkeep.CommitHides", spec := "commitHides", unfollowed := true, recurses := true, apart := false }
def CommitHidesSaid : Prop := commitHidesRow.holds Try.pinned (OpenSpec.ofChange commitHidesSpec)

/-- ITS FALSE NEIGHBOUR: 'it returns false'. Refute it at one input. -/
def commitHidesWrong : ChangeSpec := { name := "commitHides", fn := fun _ => fun
  | [d1, d2, d3, d4, d5, d6] => { results := [.lit (.bool false)], args := [d1, d2, d3, d4, d5, d6] }
  | _ => none }
def CommitHidesWrongFalsely : Prop := commitHidesRow.holds Try.pinned (OpenSpec.ofChange commitHidesWrong)

/-- 'lockwrightkeep.CommitBinds': WHATEVER THE INPUT: true; the input reads as it did. -/
def commitBindsSpec : ChangeSpec := { name := "commitBinds", fn := fun _ => fun
  | [d1, d2, d3, d4, d5] => { results := [.lit (.bool true)], args := [d1, d2, d3, d4, d5] }
  | _ => none }
def commitBindsRow : OpenClaim := { program := "ytgmkmlfppblpfaa", sum := "07d4b6158935e7b9b24de32aec3494827a715b9b0e5b4d46d9fe3a7df6449656", func := "lockwright/lockwrightkeep.CommitBinds", spec := "commitBinds", unfollowed := true, recurses := true, apart := false }
def CommitBindsSaid : Prop := commitBindsRow.holds Try.pinned (OpenSpec.ofChange commitBindsSpec)

/-- ITS FALSE NEIGHBOUR: 'it returns false'. Refute it at one input. -/
def commitBindsWrong : ChangeSpec := { name := "commitBinds", fn := fun _ => fun
  | [d1, d2, d3, d4, d5] => { results := [.lit (.bool false)], args := [d1, d2, d3, d4, d5] }
  | _ => none }
def CommitBindsWrongFalsely : Prop := commitBindsRow.holds Try.pinned (OpenSpec.ofChange commitBindsWrong)

/-- 'lockwrightkeep.TalkFeigns': WHATEVER THE INPUT: true; the input reads as it did. -/
def talkFeignsSpec : ChangeSpec := { name := "talkFeigns", fn := fun _ => fun
  | [d1, d2, d3, d4] => { results := [.lit (.bool true)], args := [d1, d2, d3, d4] }
  | _ => none }
def talkFeignsRow : OpenClaim := { program := "ytgmkmlfppblpfaa", sum := "07d4b6158935e7b9b24de32aec3494827a715b9b0e5b4d46d9fe3a7df6449656", func := "lockwright/lockwrightkeep.TalkFeigns", spec := "talkFeigns", unfollowed := true, recurses := true, apart := false }
def TalkFeignsSaid : Prop := talkFeignsRow.holds Try.pinned (OpenSpec.ofChange talkFeignsSpec)

/-- ITS FALSE NEIGHBOUR: 'it returns false'. Refute it at one input. -/
def talkFeignsWrong : ChangeSpec := { name := "talkFeigns", fn := fun _ => fun
  | [d1, d2, d3, d4] => { results := [.lit (.bool false)], args := [d1, d2, d3, d4] }
  | _ => none }
def TalkFeignsWrongFalsely : Prop := talkFeignsRow.holds Try.pinned (OpenSpec.ofChange talkFeignsWrong)

/-- 'lockwrightkeep.TalkWhole': WHATEVER THE INPUT: true; the input reads as it did. -/
def talkWholeSpec : ChangeSpec := { name := "talkWhole", fn := fun _ => fun
  | [d1, d2, d3, d4] => { results := [.lit (.bool true)], args := [d1, d2, d3, d4] }
  | _ => none }
def talkWholeRow : OpenClaim := { program := "ytgmkmlfppblpfaa", sum := "07d4b6158935e7b9b24de32aec3494827a715b9b0e5b4d46d9fe3a7df6449656", func := "lockwright/lockwrightkeep.TalkWhole", spec := "talkWhole", unfollowed := true, recurses := true, apart := false }
def TalkWholeSaid : Prop := talkWholeRow.holds Try.pinned (OpenSpec.ofChange talkWholeSpec)

/-- ITS FALSE NEIGHBOUR: 'it returns false'. Refute it at one input. -/
def talkWholeWrong : ChangeSpec := { name := "talkWhole", fn := fun _ => fun
  | [d1, d2, d3, d4] => { results := [.lit (.bool false)], args := [d1, d2, d3, d4] }
  | _ => none }
def TalkWholeWrongFalsely : Prop := talkWholeRow.holds Try.pinned (OpenSpec.ofChange talkWholeWrong)

/-- 'lockwrightkeep.TalkSound': WHATEVER THE INPUT: true; the input reads as it did. -/
def talkSoundSpec : ChangeSpec := { name := "talkSound", fn := fun _ => fun
  | [d1, d2, d3, d4] => { results := [.lit (.bool true)], args := [d1, d2, d3, d4] }
  | _ => none }
def talkSoundRow : OpenClaim := { program := "ytgmkmlfppblpfaa", sum := "07d4b6158935e7b9b24de32aec3494827a715b9b0e5b4d46d9fe3a7df6449656", func := "lockwright/lockwrightkeep.TalkSound", spec := "talkSound", unfollowed := true, recurses := true, apart := false }
def TalkSoundSaid : Prop := talkSoundRow.holds Try.pinned (OpenSpec.ofChange talkSoundSpec)

/-- ITS FALSE NEIGHBOUR: 'it returns false'. Refute it at one input. -/
def talkSoundWrong : ChangeSpec := { name := "talkSound", fn := fun _ => fun
  | [d1, d2, d3, d4] => { results := [.lit (.bool false)], args := [d1, d2, d3, d4] }
  | _ => none }
def TalkSoundWrongFalsely : Prop := talkSoundRow.holds Try.pinned (OpenSpec.ofChange talkSoundWrong)

/-- 'lockwrightkeep.TalkSigns': WHATEVER THE INPUT: true; the input reads as it did. -/
def talkSignsSpec : ChangeSpec := { name := "talkSigns", fn := fun _ => fun
  | [d1, d2, d3, d4, d5, d6] => { results := [.lit (.bool true)], args := [d1, d2, d3, d4, d5, d6] }
  | _ => none }
def talkSignsRow : OpenClaim := { program := "ytgmkmlfppblpfaa", sum := "07d4b6158935e7b9b24de32aec3494827a715b9b0e5b4d46d9fe3a7df6449656", func := "lockwright/lockwrightkeep.TalkSigns", spec := "talkSigns", unfollowed := true, recurses := true, apart := false }
def TalkSignsSaid : Prop := talkSignsRow.holds Try.pinned (OpenSpec.ofChange talkSignsSpec)

/-- ITS FALSE NEIGHBOUR: 'it returns false'. Refute it at one input. -/
def talkSignsWrong : ChangeSpec := { name := "talkSigns", fn := fun _ => fun
  | [d1, d2, d3, d4, d5, d6] => { results := [.lit (.bool false)], args := [d1, d2, d3, d4, d5, d6] }
  | _ => none }
def TalkSignsWrongFalsely : Prop := talkSignsRow.holds Try.pinned (OpenSpec.ofChange talkSignsWrong)

/-- 'lockwrightkeep.ShakeSame': WHATEVER THE INPUT: true; the input reads as it did. -/
def shakeSameSpec : ChangeSpec := { name := "shakeSame", fn := fun _ => fun
  | [d1, d2, d3, d4, d5] => { results := [.lit (.bool true)], args := [d1, d2, d3, d4, d5] }
  | _ => none }
def shakeSameRow : OpenClaim := { program := "ytgmkmlfppblpfaa", sum := "07d4b6158935e7b9b24de32aec3494827a715b9b0e5b4d46d9fe3a7df6449656", func := "lockwright/lockwrightkeep.ShakeSame", spec := "shakeSame", unfollowed := true, recurses := true, apart := false }
def ShakeSameSaid : Prop := shakeSameRow.holds Try.pinned (OpenSpec.ofChange shakeSameSpec)

/-- ITS FALSE NEIGHBOUR: 'it returns false'. Refute it at one input. -/
def shakeSameWrong : ChangeSpec := { name := "shakeSame", fn := fun _ => fun
  | [d1, d2, d3, d4, d5] => { results := [.lit (.bool false)], args := [d1, d2, d3, d4, d5] }
  | _ => none }
def ShakeSameWrongFalsely : Prop := shakeSameRow.holds Try.pinned (OpenSpec.ofChange shakeSameWrong)

/- THE SECOND FORM. 'bulk': how many values and letters a reading holds, each counted each time it is reached (what is shared counts as often as it is met; a slice's spare places count too). A statement '..UptoSaid' is the law's where the arguments, and the package variables that the reading takes, are together of bulk at most 1048576: NARROWER than '..Said'. Prove '..Said' where nothing that the law and all that it calls make is longer than what came in: it says more and counts as full. Else prove '..UptoSaid'. A law counts once. -/
mutual
def uptoBulk {H : Type} : DataW H → Nat
  | .lit (.string bytes) => bytes.length + 1
  | .lit _ => 1
  | .nil => 1
  | .ptr d => uptoBulk d + 1
  | .slice elems spare => uptoBulkAll elems + uptoBulkAll spare + 1
  | .agg parts => uptoBulkAll parts + 1
  | .iface _ d => uptoBulk d + 1
  | .map entries => uptoBulkEntries entries + 1
  | .held _ => 1
def uptoBulkAll {H : Type} : List (DataW H) → Nat
  | [] => 0
  | d :: r => uptoBulk d + uptoBulkAll r
def uptoBulkEntries {H : Type} : List (Lit × DataW H) → Nat
  | [] => 0
  | x :: r => uptoBulkEntry x + uptoBulkEntries r
def uptoBulkEntry {H : Type} : Lit × DataW H → Nat
  | (.string bytes, d) => bytes.length + uptoBulk d + 1
  | (_, d) => uptoBulk d + 1
 end
def uptoSmall : (H : Type) → List (DataW H) → Bool := fun _ ds => decide (uptoBulkAll ds ≤ 1048576)
def OpenSpec.upto (s : _root_.Go.ChangeSpec) : _root_.Go.OpenSpec := { _root_.Go.OpenSpec.ofChange s with cond := some uptoSmall }

/-- 'lockwrightkeep.GroupShares', WHERE WHAT IT READS IS OF BULK AT MOST 1048576: true; the input reads as it did. -/
def groupSharesUptoRow : OpenClaim := { program := "ytgmkmlfppblpfaa", sum := "07d4b6158935e7b9b24de32aec3494827a715b9b0e5b4d46d9fe3a7df6449656", func := "lockwright/lockwrightkeep.GroupShares", spec := "groupShares", unfollowed := true, recurses := true, apart := false, narrowed := true }
def GroupSharesUptoSaid : Prop := groupSharesUptoRow.holds Try.pinned (OpenSpec.upto groupSharesSpec)

/-- 'lockwrightkeep.GroupOpens', WHERE WHAT IT READS IS OF BULK AT MOST 1048576: true; the input reads as it did. -/
def groupOpensUptoRow : OpenClaim := { program := "ytgmkmlfppblpfaa", sum := "07d4b6158935e7b9b24de32aec3494827a715b9b0e5b4d46d9fe3a7df6449656", func := "lockwright/lockwrightkeep.GroupOpens", spec := "groupOpens", unfollowed := true, recurses := true, apart := false, narrowed := true }
def GroupOpensUptoSaid : Prop := groupOpensUptoRow.holds Try.pinned (OpenSpec.upto groupOpensSpec)

/-- 'lockwrightkeep.GroupMuls', WHERE WHAT IT READS IS OF BULK AT MOST 1048576: true; the input reads as it did. -/
def groupMulsUptoRow : OpenClaim := { program := "ytgmkmlfppblpfaa", sum := "07d4b6158935e7b9b24de32aec3494827a715b9b0e5b4d46d9fe3a7df6449656", func := "lockwright/lockwrightkeep.GroupMuls", spec := "groupMuls", unfollowed := true, recurses := true, apart := false, narrowed := true }
def GroupMulsUptoSaid : Prop := groupMulsUptoRow.holds Try.pinned (OpenSpec.upto groupMulsSpec)

/-- 'lockwrightkeep.CommitAdds', WHERE WHAT IT READS IS OF BULK AT MOST 1048576: true; the input reads as it did. -/
def commitAddsUptoRow : OpenClaim := { program := "ytgmkmlfppblpfaa", sum := "07d4b6158935e7b9b24de32aec3494827a715b9b0e5b4d46d9fe3a7df6449656", func := "lockwright/lockwrightkeep.CommitAdds", spec := "commitAdds", unfollowed := true, recurses := true, apart := false, narrowed := true }
def CommitAddsUptoSaid : Prop := commitAddsUptoRow.holds Try.pinned (OpenSpec.upto commitAddsSpec)

/-- 'lockwrightkeep.CommitHides', WHERE WHAT IT READS IS OF BULK AT MOST 1048576: true; the input reads as it did. -/
def commitHidesUptoRow : OpenClaim := { program := "ytgmkmlfppblpfaa", sum := "07d4b6158935e7b9b24de32aec3494827a715b9b0e5b4d46d9fe3a7df6449656", func := "lockwright/lockwrightkeep.CommitHides", spec := "commitHides", unfollowed := true, recurses := true, apart := false, narrowed := true }
def CommitHidesUptoSaid : Prop := commitHidesUptoRow.holds Try.pinned (OpenSpec.upto commitHidesSpec)

/-- 'lockwrightkeep.CommitBinds', WHERE WHAT IT READS IS OF BULK AT MOST 1048576: true; the input reads as it did. -/
def commitBindsUptoRow : OpenClaim := { program := "ytgmkmlfppblpfaa", sum := "07d4b6158935e7b9b24de32aec3494827a715b9b0e5b4d46d9fe3a7df6449656", func := "lockwright/lockwrightkeep.CommitBinds", spec := "commitBinds", unfollowed := true, recurses := true, apart := false, narrowed := true }
def CommitBindsUptoSaid : Prop := commitBindsUptoRow.holds Try.pinned (OpenSpec.upto commitBindsSpec)

/-- 'lockwrightkeep.TalkFeigns', WHERE WHAT IT READS IS OF BULK AT MOST 1048576: true; the input reads as it did. -/
def talkFeignsUptoRow : OpenClaim := { program := "ytgmkmlfppblpfaa", sum := "07d4b6158935e7b9b24de32aec3494827a715b9b0e5b4d46d9fe3a7df6449656", func := "lockwright/lockwrightkeep.TalkFeigns", spec := "talkFeigns", unfollowed := true, recurses := true, apart := false, narrowed := true }
def TalkFeignsUptoSaid : Prop := talkFeignsUptoRow.holds Try.pinned (OpenSpec.upto talkFeignsSpec)

/-- 'lockwrightkeep.TalkWhole', WHERE WHAT IT READS IS OF BULK AT MOST 1048576: true; the input reads as it did. -/
def talkWholeUptoRow : OpenClaim := { program := "ytgmkmlfppblpfaa", sum := "07d4b6158935e7b9b24de32aec3494827a715b9b0e5b4d46d9fe3a7df6449656", func := "lockwright/lockwrightkeep.TalkWhole", spec := "talkWhole", unfollowed := true, recurses := true, apart := false, narrowed := true }
def TalkWholeUptoSaid : Prop := talkWholeUptoRow.holds Try.pinned (OpenSpec.upto talkWholeSpec)

/-- 'lockwrightkeep.TalkSound', WHERE WHAT IT READS IS OF BULK AT MOST 1048576: true; the input reads as it did. -/
def talkSoundUptoRow : OpenClaim := { program := "ytgmkmlfppblpfaa", sum := "07d4b6158935e7b9b24de32aec3494827a715b9b0e5b4d46d9fe3a7df6449656", func := "lockwright/lockwrightkeep.TalkSound", spec := "talkSound", unfollowed := true, recurses := true, apart := false, narrowed := true }
def TalkSoundUptoSaid : Prop := talkSoundUptoRow.holds Try.pinned (OpenSpec.upto talkSoundSpec)

/-- 'lockwrightkeep.TalkSigns', WHERE WHAT IT READS IS OF BULK AT MOST 1048576: true; the input reads as it did. -/
def talkSignsUptoRow : OpenClaim := { program := "ytgmkmlfppblpfaa", sum := "07d4b6158935e7b9b24de32aec3494827a715b9b0e5b4d46d9fe3a7df6449656", func := "lockwright/lockwrightkeep.TalkSigns", spec := "talkSigns", unfollowed := true, recurses := true, apart := false, narrowed := true }
def TalkSignsUptoSaid : Prop := talkSignsUptoRow.holds Try.pinned (OpenSpec.upto talkSignsSpec)

/-- 'lockwrightkeep.ShakeSame', WHERE WHAT IT READS IS OF BULK AT MOST 1048576: true; the input reads as it did. -/
def shakeSameUptoRow : OpenClaim := { program := "ytgmkmlfppblpfaa", sum := "07d4b6158935e7b9b24de32aec3494827a715b9b0e5b4d46d9fe3a7df6449656", func := "lockwright/lockwrightkeep.ShakeSame", spec := "shakeSame", unfollowed := true, recurses := true, apart := false, narrowed := true }
def ShakeSameUptoSaid : Prop := shakeSameUptoRow.holds Try.pinned (OpenSpec.upto shakeSameSpec)

end Rows
end Go.Proofs.Ytgmkmlfppblpfaa
