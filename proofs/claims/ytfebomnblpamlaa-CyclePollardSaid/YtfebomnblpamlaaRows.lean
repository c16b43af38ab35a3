/-
  No cell of these rows narrows 'for every input' (looked for: loops, veiled, ifaces, maps, wideKeys, modest, calm, conditions, laid).
  DERIVED. THE GIVEN ROWS OF THIS SEAT. 12 by the template 'for every input the law returns true; each argument reads behind the call as it read before'; 0 by the template 'total and deterministic' (their statements: YtfebomnblpamlaaTotals.lean).
  GIVEN WITH THE SEED: the statements are not yours to turn. If you find one false, say at which input.
  Laid BY PROGRAM, IN A SANDBOX (cutbox-rows.mjs): the forced cells as the released guide's own fill.sh prints them over the translation 811bf30c08339298… (all of the seat's roots in one cut). By AI agents, Wed Nov 11 2026. No macro, syntax, notation, axiom, sorry.
-/
import Derived.Test.YtfebomnblpamlaaChecked
import GoSem.Claim
import GoSem.ClaimJoined
import GoSem.ClaimMapViews
import Derived.JoinedTies
import Derived.KernelRfl
namespace Go.Proofs.Ytfebomnblpamlaa
/- THE CELL 'sum', in the pinned program and in every row, IS THE sha256 OF THE DUMP (.gsa) THAT YtfebomnblpamlaaProg.lean LOADS. Nothing in Lean hashes anything: it is a label: what it is worth is what the hold of that sum in a sandbox is worth. -/
noncomputable def Try.pinned : Pinned := { name := "ytfebomnblpamlaa", sum := "811bf30c08339298d1df873194ee09b5d5eb85957ddd633d234034bb1e45e4f6", checked := Try.checked }
namespace Rows
def none {H : Type} : Left H := { results := [], args := [] }

/-- 'lockwrightkeep.EuclidDivides': WHATEVER THE INPUT: true; the input reads as it did. -/
def euclidDividesSpec : ChangeSpec := { name := "euclidDivides", fn := fun _ => fun
  | [d1, d2, d3] => { results := [.lit (.bool true)], args := [d1, d2, d3] }
  | _ => none }
def euclidDividesRow : OpenClaim := { program := "ytfebomnblpamlaa", sum := "811bf30c08339298d1df873194ee09b5d5eb85957ddd633d234034bb1e45e4f6", func := "lockwright/lockwrightkeep.EuclidDivides", spec := "euclidDivides", apart := false }
def EuclidDividesSaid : Prop := euclidDividesRow.holds Try.pinned (OpenSpec.ofChange euclidDividesSpec)

/-- ITS FALSE NEIGHBOUR: 'it returns false'. Refute it at one input. -/
def euclidDividesWrong : ChangeSpec := { name := "euclidDivides", fn := fun _ => fun
  | [d1, d2, d3] => { results := [.lit (.bool false)], args := [d1, d2, d3] }
  | _ => none }
def EuclidDividesWrongFalsely : Prop := euclidDividesRow.holds Try.pinned (OpenSpec.ofChange euclidDividesWrong)

/-- 'lockwrightkeep.EuclidLcm': WHATEVER THE INPUT: true; the input reads as it did. -/
def euclidLcmSpec : ChangeSpec := { name := "euclidLcm", fn := fun _ => fun
  | [d1, d2] => { results := [.lit (.bool true)], args := [d1, d2] }
  | _ => none }
def euclidLcmRow : OpenClaim := { program := "ytfebomnblpamlaa", sum := "811bf30c08339298d1df873194ee09b5d5eb85957ddd633d234034bb1e45e4f6", func := "lockwright/lockwrightkeep.EuclidLcm", spec := "euclidLcm", apart := false }
def EuclidLcmSaid : Prop := euclidLcmRow.holds Try.pinned (OpenSpec.ofChange euclidLcmSpec)

/-- ITS FALSE NEIGHBOUR: 'it returns false'. Refute it at one input. -/
def euclidLcmWrong : ChangeSpec := { name := "euclidLcm", fn := fun _ => fun
  | [d1, d2] => { results := [.lit (.bool false)], args := [d1, d2] }
  | _ => none }
def EuclidLcmWrongFalsely : Prop := euclidLcmRow.holds Try.pinned (OpenSpec.ofChange euclidLcmWrong)

/-- 'lockwrightkeep.EuclidInverse': WHATEVER THE INPUT: true; the input reads as it did. -/
def euclidInverseSpec : ChangeSpec := { name := "euclidInverse", fn := fun _ => fun
  | [d1, d2] => { results := [.lit (.bool true)], args := [d1, d2] }
  | _ => none }
def euclidInverseRow : OpenClaim := { program := "ytfebomnblpamlaa", sum := "811bf30c08339298d1df873194ee09b5d5eb85957ddd633d234034bb1e45e4f6", func := "lockwright/lockwrightkeep.EuclidInverse", spec := "euclidInverse", apart := false }
def EuclidInverseSaid : Prop := euclidInverseRow.holds Try.pinned (OpenSpec.ofChange euclidInverseSpec)

/-- ITS FALSE NEIGHBOUR: 'it returns false'. Refute it at one input. -/
def euclidInverseWrong : ChangeSpec := { name := "euclidInverse", fn := fun _ => fun
  | [d1, d2] => { results := [.lit (.bool false)], args := [d1, d2] }
  | _ => none }
def EuclidInverseWrongFalsely : Prop := euclidInverseRow.holds Try.pinned (OpenSpec.ofChange euclidInverseWrong)

/-- 'lockwrightkeep.EuclidBezout': WHATEVER THE INPUT: true; the input reads as it did. -/
def euclidBezoutSpec : ChangeSpec := { name := "euclidBezout", fn := fun _ => fun
  | [d1, d2] => { results := [.lit (.bool true)], args := [d1, d2] }
  | _ => none }
def euclidBezoutRow : OpenClaim := { program := "ytfebomnblpamlaa", sum := "811bf30c08339298d1df873194ee09b5d5eb85957ddd633d234034bb1e45e4f6", func := "lockwright/lockwrightkeep.EuclidBezout", spec := "euclidBezout", apart := false }
def EuclidBezoutSaid : Prop := euclidBezoutRow.holds Try.pinned (OpenSpec.ofChange euclidBezoutSpec)

/-- ITS FALSE NEIGHBOUR: 'it returns false'. Refute it at one input. -/
def euclidBezoutWrong : ChangeSpec := { name := "euclidBezout", fn := fun _ => fun
  | [d1, d2] => { results := [.lit (.bool false)], args := [d1, d2] }
  | _ => none }
def EuclidBezoutWrongFalsely : Prop := euclidBezoutRow.holds Try.pinned (OpenSpec.ofChange euclidBezoutWrong)

/-- 'lockwrightkeep.PowerFermat': WHATEVER THE INPUT: true; the input reads as it did. -/
def powerFermatSpec : ChangeSpec := { name := "powerFermat", fn := fun _ => fun
  | [d1, d2] => { results := [.lit (.bool true)], args := [d1, d2] }
  | _ => none }
def powerFermatRow : OpenClaim := { program := "ytfebomnblpamlaa", sum := "811bf30c08339298d1df873194ee09b5d5eb85957ddd633d234034bb1e45e4f6", func := "lockwright/lockwrightkeep.PowerFermat", spec := "powerFermat", apart := false }
def PowerFermatSaid : Prop := powerFermatRow.holds Try.pinned (OpenSpec.ofChange powerFermatSpec)

/-- ITS FALSE NEIGHBOUR: 'it returns false'. Refute it at one input. -/
def powerFermatWrong : ChangeSpec := { name := "powerFermat", fn := fun _ => fun
  | [d1, d2] => { results := [.lit (.bool false)], args := [d1, d2] }
  | _ => none }
def PowerFermatWrongFalsely : Prop := powerFermatRow.holds Try.pinned (OpenSpec.ofChange powerFermatWrong)

/-- 'lockwrightkeep.PowerAdds': WHATEVER THE INPUT: true; the input reads as it did. -/
def powerAddsSpec : ChangeSpec := { name := "powerAdds", fn := fun _ => fun
  | [d1, d2, d3, d4] => { results := [.lit (.bool true)], args := [d1, d2, d3, d4] }
  | _ => none }
def powerAddsRow : OpenClaim := { program := "ytfebomnblpamlaa", sum := "811bf30c08339298d1df873194ee09b5d5eb85957ddd633d234034bb1e45e4f6", func := "lockwright/lockwrightkeep.PowerAdds", spec := "powerAdds", apart := false }
def PowerAddsSaid : Prop := powerAddsRow.holds Try.pinned (OpenSpec.ofChange powerAddsSpec)

/-- ITS FALSE NEIGHBOUR: 'it returns false'. Refute it at one input. -/
def powerAddsWrong : ChangeSpec := { name := "powerAdds", fn := fun _ => fun
  | [d1, d2, d3, d4] => { results := [.lit (.bool false)], args := [d1, d2, d3, d4] }
  | _ => none }
def PowerAddsWrongFalsely : Prop := powerAddsRow.holds Try.pinned (OpenSpec.ofChange powerAddsWrong)

/-- 'lockwrightkeep.RsaMuls': WHATEVER THE INPUT: true; the input reads as it did. -/
def rsaMulsSpec : ChangeSpec := { name := "rsaMuls", fn := fun _ => fun
  | [d1, d2, d3] => { results := [.lit (.bool true)], args := [d1, d2, d3] }
  | _ => none }
def rsaMulsRow : OpenClaim := { program := "ytfebomnblpamlaa", sum := "811bf30c08339298d1df873194ee09b5d5eb85957ddd633d234034bb1e45e4f6", func := "lockwright/lockwrightkeep.RsaMuls", spec := "rsaMuls", apart := false }
def RsaMulsSaid : Prop := rsaMulsRow.holds Try.pinned (OpenSpec.ofChange rsaMulsSpec)

/-- ITS FALSE NEIGHBOUR: 'it returns false'. Refute it at one input. -/
def rsaMulsWrong : ChangeSpec := { name := "rsaMuls", fn := fun _ => fun
  | [d1, d2, d3] => { results := [.lit (.bool false)], args := [d1, d2, d3] }
  | _ => none }
def RsaMulsWrongFalsely : Prop := rsaMulsRow.holds Try.pinned (OpenSpec.ofChange rsaMulsWrong)

/-- 'lockwrightkeep.SquaresReciprocity': WHATEVER THE INPUT: true; the input reads as it did. -/
def squaresReciprocitySpec : ChangeSpec := { name := "squaresReciprocity", fn := fun _ => fun
  | [d1, d2] => { results := [.lit (.bool true)], args := [d1, d2] }
  | _ => none }
def squaresReciprocityRow : OpenClaim := { program := "ytfebomnblpamlaa", sum := "811bf30c08339298d1df873194ee09b5d5eb85957ddd633d234034bb1e45e4f6", func := "lockwright/lockwrightkeep.SquaresReciprocity", spec := "squaresReciprocity", apart := false }
def SquaresReciprocitySaid : Prop := squaresReciprocityRow.holds Try.pinned (OpenSpec.ofChange squaresReciprocitySpec)

/-- ITS FALSE NEIGHBOUR: 'it returns false'. Refute it at one input. -/
def squaresReciprocityWrong : ChangeSpec := { name := "squaresReciprocity", fn := fun _ => fun
  | [d1, d2] => { results := [.lit (.bool false)], args := [d1, d2] }
  | _ => none }
def SquaresReciprocityWrongFalsely : Prop := squaresReciprocityRow.holds Try.pinned (OpenSpec.ofChange squaresReciprocityWrong)

/-- 'lockwrightkeep.SquaresMul': WHATEVER THE INPUT: true; the input reads as it did. -/
def squaresMulSpec : ChangeSpec := { name := "squaresMul", fn := fun _ => fun
  | [d1, d2, d3, d4] => { results := [.lit (.bool true)], args := [d1, d2, d3, d4] }
  | _ => none }
def squaresMulRow : OpenClaim := { program := "ytfebomnblpamlaa", sum := "811bf30c08339298d1df873194ee09b5d5eb85957ddd633d234034bb1e45e4f6", func := "lockwright/lockwrightkeep.SquaresMul", spec := "squaresMul", apart := false }
def SquaresMulSaid : Prop := squaresMulRow.holds Try.pinned (OpenSpec.ofChange squaresMulSpec)

/-- ITS FALSE NEIGHBOUR: 'it returns false'. Refute it at one input. -/
def squaresMulWrong : ChangeSpec := { name := "squaresMul", fn := fun _ => fun
  | [d1, d2, d3, d4] => { results := [.lit (.bool false)], args := [d1, d2, d3, d4] }
  | _ => none }
def SquaresMulWrongFalsely : Prop := squaresMulRow.holds Try.pinned (OpenSpec.ofChange squaresMulWrong)

/-- 'lockwrightkeep.LiarsRabin': WHATEVER THE INPUT: true; the input reads as it did. -/
def liarsRabinSpec : ChangeSpec := { name := "liarsRabin", fn := fun _ => fun
  | [d] => { results := [.lit (.bool true)], args := [d] }
  | _ => none }
def liarsRabinRow : OpenClaim := { program := "ytfebomnblpamlaa", sum := "811bf30c08339298d1df873194ee09b5d5eb85957ddd633d234034bb1e45e4f6", func := "lockwright/lockwrightkeep.LiarsRabin", spec := "liarsRabin", apart := false }
def LiarsRabinSaid : Prop := liarsRabinRow.holds Try.pinned (OpenSpec.ofChange liarsRabinSpec)

/-- ITS FALSE NEIGHBOUR: 'it returns false'. Refute it at one input. -/
def liarsRabinWrong : ChangeSpec := { name := "liarsRabin", fn := fun _ => fun
  | [d] => { results := [.lit (.bool false)], args := [d] }
  | _ => none }
def LiarsRabinWrongFalsely : Prop := liarsRabinRow.holds Try.pinned (OpenSpec.ofChange liarsRabinWrong)

/-- 'lockwrightkeep.CycleReturns': WHATEVER THE INPUT: true; the input reads as it did. -/
def cycleReturnsSpec : ChangeSpec := { name := "cycleReturns", fn := fun _ => fun
  | [d1, d2, d3] => { results := [.lit (.bool true)], args := [d1, d2, d3] }
  | _ => none }
def cycleReturnsRow : OpenClaim := { program := "ytfebomnblpamlaa", sum := "811bf30c08339298d1df873194ee09b5d5eb85957ddd633d234034bb1e45e4f6", func := "lockwright/lockwrightkeep.CycleReturns", spec := "cycleReturns", apart := false }
def CycleReturnsSaid : Prop := cycleReturnsRow.holds Try.pinned (OpenSpec.ofChange cycleReturnsSpec)

/-- ITS FALSE NEIGHBOUR: 'it returns false'. Refute it at one input. -/
def cycleReturnsWrong : ChangeSpec := { name := "cycleReturns", fn := fun _ => fun
  | [d1, d2, d3] => { results := [.lit (.bool false)], args := [d1, d2, d3] }
  | _ => none }
def CycleReturnsWrongFalsely : Prop := cycleReturnsRow.holds Try.pinned (OpenSpec.ofChange cycleReturnsWrong)

/-- 'lockwrightkeep.CyclePollard': WHATEVER THE INPUT: true; the input reads as it did. -/
def cyclePollardSpec : ChangeSpec := { name := "cyclePollard", fn := fun _ => fun
  | [d1, d2, d3] => { results := [.lit (.bool true)], args := [d1, d2, d3] }
  | _ => none }
def cyclePollardRow : OpenClaim := { program := "ytfebomnblpamlaa", sum := "811bf30c08339298d1df873194ee09b5d5eb85957ddd633d234034bb1e45e4f6", func := "lockwright/lockwrightkeep.CyclePollard", spec := "cyclePollard", apart := false }
def CyclePollardSaid : Prop := cyclePollardRow.holds Try.pinned (OpenSpec.ofChange cyclePollardSpec)

/-- ITS FALSE NEIGHBOUR: 'it returns false'. Refute it at one input. -/
def cyclePollardWrong : ChangeSpec := { name := "cyclePollard", fn := fun _ => fun
  | [d1, d2, d3] => { results := [.lit (.bool false)], args := [d1, d2, d3] }
  | _ => none }
def CyclePollardWrongFalsely : Prop := cyclePollardRow.holds Try.pinned (OpenSpec.ofChange cyclePollardWrong)

/- THE SECOND FORM. 'bulk': how many values and letters a reading holds, each counted each time it is reached (what is shared counts as often as it is met; a slice's spare places count too). A statement '..UptoSaid' is the law's where the arguments, and the package variables that the reading takes, are together of bulk at most 1048576: NARROWER than '..Said'. Prove '..Said' where nothing that the law and all that it calls make is longer than what came in: it says more and counts as full. Else prove '..UptoSaid'. A law counts once. -/
mutual
def uptoBulk {H : Type} : DataW H → Nat
  | .lit (.string bytes) => bytes.length + 1
  | .lit _ => 1
  | .nil => 1
  | .ptr d => uptoBulk d + 1
  | .slice elems spare => uptoBulkAll elems + uptoBulkAll spare + 1
  | .agg parts => uptoBulkAll parts + 1
  | .iface _ d => uptoBulk d + 1
  | .map entries => uptoBulkEntries entries + 1
  | .held _ => 1
def uptoBulkAll {H : Type} : List (DataW H) → Nat
  | [] => 0
  | d :: r => uptoBulk d + uptoBulkAll r
def uptoBulkEntries {H : Type} : List (Lit × DataW H) → Nat
  | [] => 0
  | x :: r => uptoBulkEntry x + uptoBulkEntries r
def uptoBulkEntry {H : Type} : Lit × DataW H → Nat
  | (.string bytes, d) => bytes.length + uptoBulk d + 1
  | (_, d) => uptoBulk d + 1
 end
def uptoSmall : (H : Type) → List (DataW H) → Bool := fun _ ds => decide (uptoBulkAll ds ≤ 1048576)
def OpenSpec.upto (s : _root_.Go.ChangeSpec) : _root_.Go.OpenSpec := { _root_.Go.OpenSpec.ofChange s with cond := some uptoSmall }

/-- 'lockwrightkeep.EuclidDivides', WHERE WHAT IT READS IS OF BULK AT MOST 1048576: true; the input reads as it did. -/
def euclidDividesUptoRow : OpenClaim := { program := "ytfebomnblpamlaa", sum := "811bf30c08339298d1df873194ee09b5d5eb85957ddd633d234034bb1e45e4f6", func := "lockwright/lockwrightkeep.EuclidDivides", spec := "euclidDivides", apart := false, narrowed := true }
def EuclidDividesUptoSaid : Prop := euclidDividesUptoRow.holds Try.pinned (OpenSpec.upto euclidDividesSpec)

/-- 'lockwrightkeep.EuclidLcm', WHERE WHAT IT READS IS OF BULK AT MOST 1048576: true; the input reads as it did. -/
def euclidLcmUptoRow : OpenClaim := { program := "ytfebomnblpamlaa", sum := "811bf30c08339298d1df873194ee09b5d5eb85957ddd633d234034bb1e45e4f6", func := "lockwright/lockwrightkeep.EuclidLcm", spec := "euclidLcm", apart := false, narrowed := true }
def EuclidLcmUptoSaid : Prop := euclidLcmUptoRow.holds Try.pinned (OpenSpec.upto euclidLcmSpec)

/-- 'lockwrightkeep.EuclidInverse', WHERE WHAT IT READS IS OF BULK AT MOST 1048576: true; the input reads as it did. -/
def euclidInverseUptoRow : OpenClaim := { program := "ytfebomnblpamlaa", sum := "811bf30c08339298d1df873194ee09b5d5eb85957ddd633d234034bb1e45e4f6", func := "lockwright/lockwrightkeep.EuclidInverse", spec := "euclidInverse", apart := false, narrowed := true }
def EuclidInverseUptoSaid : Prop := euclidInverseUptoRow.holds Try.pinned (OpenSpec.upto euclidInverseSpec)

/-- 'lockwrightkeep.EuclidBezout', WHERE WHAT IT READS IS OF BULK AT MOST 1048576: true; the input reads as it did. -/
def euclidBezoutUptoRow : OpenClaim := { program := "ytfebomnblpamlaa", sum := "811bf30c08339298d1df873194ee09b5d5eb85957ddd633d234034bb1e45e4f6", func := "lockwright/lockwrightkeep.EuclidBezout", spec := "euclidBezout", apart := false, narrowed := true }
def EuclidBezoutUptoSaid : Prop := euclidBezoutUptoRow.holds Try.pinned (OpenSpec.upto euclidBezoutSpec)

/-- 'lockwrightkeep.PowerFermat', WHERE WHAT IT READS IS OF BULK AT MOST 1048576: true; the input reads as it did. -/
def powerFermatUptoRow : OpenClaim := { program := "ytfebomnblpamlaa", sum := "811bf30c08339298d1df873194ee09b5d5eb85957ddd633d234034bb1e45e4f6", func := "lockwright/lockwrightkeep.PowerFermat", spec := "powerFermat", apart := false, narrowed := true }
def PowerFermatUptoSaid : Prop := powerFermatUptoRow.holds Try.pinned (OpenSpec.upto powerFermatSpec)

/-- 'lockwrightkeep.PowerAdds', WHERE WHAT IT READS IS OF BULK AT MOST 1048576: true; the input reads as it did. -/
def powerAddsUptoRow : OpenClaim := { program := "ytfebomnblpamlaa", sum := "811bf30c08339298d1df873194ee09b5d5eb85957ddd633d234034bb1e45e4f6", func := "lockwright/lockwrightkeep.PowerAdds", spec := "powerAdds", apart := false, narrowed := true }
def PowerAddsUptoSaid : Prop := powerAddsUptoRow.holds Try.pinned (OpenSpec.upto powerAddsSpec)

/-- 'lockwrightkeep.RsaMuls', WHERE WHAT IT READS IS OF BULK AT MOST 1048576: true; the input reads as it did. -/
def rsaMulsUptoRow : OpenClaim := { program := "ytfebomnblpamlaa", sum := "811bf30c08339298d1df873194ee09b5d5eb85957ddd633d234034bb1e45e4f6", func := "lockwright/lockwrightkeep.RsaMuls", spec := "rsaMuls", apart := false, narrowed := true }
def RsaMulsUptoSaid : Prop := rsaMulsUptoRow.holds Try.pinned (OpenSpec.upto rsaMulsSpec)

/-- 'lockwrightkeep.SquaresReciprocity', WHERE WHAT IT READS IS OF BULK AT MOST 1048576: true; the input reads as it did. -/
def squaresReciprocityUptoRow : OpenClaim := { program := "ytfebomnblpamlaa", sum := "811bf30c08339298d1df873194ee09b5d5eb85957ddd633d234034bb1e45e4f6", func := "lockwright/lockwrightkeep.SquaresReciprocity", spec := "squaresReciprocity", apart := false, narrowed := true }
def SquaresReciprocityUptoSaid : Prop := squaresReciprocityUptoRow.holds Try.pinned (OpenSpec.upto squaresReciprocitySpec)

/-- 'lockwrightkeep.SquaresMul', WHERE WHAT IT READS IS OF BULK AT MOST 1048576: true; the input reads as it did. -/
def squaresMulUptoRow : OpenClaim := { program := "ytfebomnblpamlaa", sum := "811bf30c08339298d1df873194ee09b5d5eb85957ddd633d234034bb1e45e4f6", func := "lockwright/lockwrightkeep.SquaresMul", spec := "squaresMul", apart := false, narrowed := true }
def SquaresMulUptoSaid : Prop := squaresMulUptoRow.holds Try.pinned (OpenSpec.upto squaresMulSpec)

/-- 'lockwrightkeep.LiarsRabin', WHERE WHAT IT READS IS OF BULK AT MOST 1048576: true; the input reads as it did. -/
def liarsRabinUptoRow : OpenClaim := { program := "ytfebomnblpamlaa", sum := "811bf30c08339298d1df873194ee09b5d5eb85957ddd633d234034bb1e45e4f6", func := "lockwright/lockwrightkeep.LiarsRabin", spec := "liarsRabin", apart := false, narrowed := true }
def LiarsRabinUptoSaid : Prop := liarsRabinUptoRow.holds Try.pinned (OpenSpec.upto liarsRabinSpec)

/-- 'lockwrightkeep.CycleReturns', WHERE WHAT IT READS IS OF BULK AT MOST 1048576: true; the input reads as it did. -/
def cycleReturnsUptoRow : OpenClaim := { program := "ytfebomnblpamlaa", sum := "811bf30c08339298d1df873194ee09b5d5eb85957ddd633d234034bb1e45e4f6", func := "lockwright/lockwrightkeep.CycleReturns", spec := "cycleReturns", apart := false, narrowed := true }
def CycleReturnsUptoSaid : Prop := cycleReturnsUptoRow.holds Try.pinned (OpenSpec.upto cycleReturnsSpec)

/-- 'lockwrightkeep.CyclePollard', WHERE WHAT IT READS IS OF BULK AT MOST 1048576: true; the input reads as it did. -/
def cyclePollardUptoRow : OpenClaim := { program := "ytfebomnblpamlaa", sum := "811bf30c08339298d1df873194ee09b5d5eb85957ddd633d234034bb1e45e4f6", func := "lockwright/lockwrightkeep.CyclePollard", spec := "cyclePollard", apart := false, narrowed := true }
def CyclePollardUptoSaid : Prop := cyclePollardUptoRow.holds Try.pinned (OpenSpec.upto cyclePollardSpec)

end Rows
end Go.Proofs.Ytfebomnblpamlaa
