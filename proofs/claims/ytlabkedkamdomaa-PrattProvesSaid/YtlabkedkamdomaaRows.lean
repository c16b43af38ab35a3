/-
  No cell of these rows narrows 'for every input' (looked for: loops, veiled, ifaces, maps, wideKeys, modest, calm, conditions, laid).
  DERIVED. THE GIVEN ROWS OF THIS SEAT. 12 by the template 'for every input the law returns true; each argument reads behind the call as it read before'; 0 by the template 'total and deterministic' (their statements: YtlabkedkamdomaaTotals.lean).
  GIVEN WITH THE SEED: the statements are not yours to turn. If you find one false, say at which input.
  Laid BY PROGRAM, IN A SANDBOX (cutbox-rows.mjs): the forced cells as the released guide's own fill.sh prints them over the translation 861f1cff4a2a7130… (all of the seat's roots in one cut). By AI agents, Wed Nov 11 2026. No macro, syntax, notation, axiom, sorry.
-/
import Derived.Test.YtlabkedkamdomaaChecked
import GoSem.Claim
import GoSem.ClaimJoined
import GoSem.ClaimMapViews
import Derived.JoinedTies
import Derived.KernelRfl
namespace Go.Proofs.Ytlabkedkamdomaa
/- THE CELL 'sum', in the pinned program and in every row, IS THE sha256 OF THE DUMP (.gsa) THAT YtlabkedkamdomaaProg.lean LOADS. Nothing in Lean hashes anything: it is a label: what it is worth is what the hold of that sum in a sandbox is worth. -/
noncomputable def Try.pinned : Pinned := { name := "ytlabkedkamdomaa", sum := "861f1cff4a2a713072a8d6a1dd1b6dba4b03d42a563015aeb83baad084de5570", checked := Try.checked }
namespace Rows
def none {H : Type} : Left H := { results := [], args := [] }

/-- 'lockwrightkeep.PrimesEuclid': WHATEVER THE INPUT: true; the input reads as it did. -/
def primesEuclidSpec : ChangeSpec := { name := "primesEuclid", fn := fun _ => fun
  | [d1, d2, d3] => { results := [.lit (.bool true)], args := [d1, d2, d3] }
  | _ => none }
def primesEuclidRow : OpenClaim := { program := "ytlabkedkamdomaa", sum := "861f1cff4a2a713072a8d6a1dd1b6dba4b03d42a563015aeb83baad084de5570", func := "lockwright/lockwrightkeep.PrimesEuclid", spec := "primesEuclid", unfollowed := true, recurses := true, apart := false }
def PrimesEuclidSaid : Prop := primesEuclidRow.holds Try.pinned (OpenSpec.ofChange primesEuclidSpec)

/-- ITS FALSE NEIGHBOUR: 'it returns false'. Refute it at one input. -/
def primesEuclidWrong : ChangeSpec := { name := "primesEuclid", fn := fun _ => fun
  | [d1, d2, d3] => { results := [.lit (.bool false)], args := [d1, d2, d3] }
  | _ => none }
def PrimesEuclidWrongFalsely : Prop := primesEuclidRow.holds Try.pinned (OpenSpec.ofChange primesEuclidWrong)

/-- 'lockwrightkeep.PrimesWilson': WHATEVER THE INPUT: true; the input reads as it did. -/
def primesWilsonSpec : ChangeSpec := { name := "primesWilson", fn := fun _ => fun
  | [d] => { results := [.lit (.bool true)], args := [d] }
  | _ => none }
def primesWilsonRow : OpenClaim := { program := "ytlabkedkamdomaa", sum := "861f1cff4a2a713072a8d6a1dd1b6dba4b03d42a563015aeb83baad084de5570", func := "lockwright/lockwrightkeep.PrimesWilson", spec := "primesWilson", unfollowed := true, recurses := true, apart := false }
def PrimesWilsonSaid : Prop := primesWilsonRow.holds Try.pinned (OpenSpec.ofChange primesWilsonSpec)

/-- ITS FALSE NEIGHBOUR: 'it returns false'. Refute it at one input. -/
def primesWilsonWrong : ChangeSpec := { name := "primesWilson", fn := fun _ => fun
  | [d] => { results := [.lit (.bool false)], args := [d] }
  | _ => none }
def PrimesWilsonWrongFalsely : Prop := primesWilsonRow.holds Try.pinned (OpenSpec.ofChange primesWilsonWrong)

/-- 'lockwrightkeep.PrimesBertrand': WHATEVER THE INPUT: true; the input reads as it did. -/
def primesBertrandSpec : ChangeSpec := { name := "primesBertrand", fn := fun _ => fun
  | [d] => { results := [.lit (.bool true)], args := [d] }
  | _ => none }
def primesBertrandRow : OpenClaim := { program := "ytlabkedkamdomaa", sum := "861f1cff4a2a713072a8d6a1dd1b6dba4b03d42a563015aeb83baad084de5570", func := "lockwright/lockwrightkeep.PrimesBertrand", spec := "primesBertrand", unfollowed := true, recurses := true, apart := false }
def PrimesBertrandSaid : Prop := primesBertrandRow.holds Try.pinned (OpenSpec.ofChange primesBertrandSpec)

/-- ITS FALSE NEIGHBOUR: 'it returns false'. Refute it at one input. -/
def primesBertrandWrong : ChangeSpec := { name := "primesBertrand", fn := fun _ => fun
  | [d] => { results := [.lit (.bool false)], args := [d] }
  | _ => none }
def PrimesBertrandWrongFalsely : Prop := primesBertrandRow.holds Try.pinned (OpenSpec.ofChange primesBertrandWrong)

/-- 'lockwrightkeep.PrimesEuler': WHATEVER THE INPUT: true; the input reads as it did. -/
def primesEulerSpec : ChangeSpec := { name := "primesEuler", fn := fun _ => fun
  | [d1, d2] => { results := [.lit (.bool true)], args := [d1, d2] }
  | _ => none }
def primesEulerRow : OpenClaim := { program := "ytlabkedkamdomaa", sum := "861f1cff4a2a713072a8d6a1dd1b6dba4b03d42a563015aeb83baad084de5570", func := "lockwright/lockwrightkeep.PrimesEuler", spec := "primesEuler", unfollowed := true, recurses := true, apart := false }
def PrimesEulerSaid : Prop := primesEulerRow.holds Try.pinned (OpenSpec.ofChange primesEulerSpec)

/-- ITS FALSE NEIGHBOUR: 'it returns false'. Refute it at one input. -/
def primesEulerWrong : ChangeSpec := { name := "primesEuler", fn := fun _ => fun
  | [d1, d2] => { results := [.lit (.bool false)], args := [d1, d2] }
  | _ => none }
def PrimesEulerWrongFalsely : Prop := primesEulerRow.holds Try.pinned (OpenSpec.ofChange primesEulerWrong)

/-- 'lockwrightkeep.PrimesUnique': WHATEVER THE INPUT: true; the input reads as it did. -/
def primesUniqueSpec : ChangeSpec := { name := "primesUnique", fn := fun _ => fun
  | [d1, d2] => { results := [.lit (.bool true)], args := [d1, d2] }
  | _ => none }
def primesUniqueRow : OpenClaim := { program := "ytlabkedkamdomaa", sum := "861f1cff4a2a713072a8d6a1dd1b6dba4b03d42a563015aeb83baad084de5570", func := "lockwright/lockwrightkeep.PrimesUnique", spec := "primesUnique", unfollowed := true, recurses := true, apart := false }
def PrimesUniqueSaid : Prop := primesUniqueRow.holds Try.pinned (OpenSpec.ofChange primesUniqueSpec)

/-- ITS FALSE NEIGHBOUR: 'it returns false'. Refute it at one input. -/
def primesUniqueWrong : ChangeSpec := { name := "primesUnique", fn := fun _ => fun
  | [d1, d2] => { results := [.lit (.bool false)], args := [d1, d2] }
  | _ => none }
def PrimesUniqueWrongFalsely : Prop := primesUniqueRow.holds Try.pinned (OpenSpec.ofChange primesUniqueWrong)

/-- 'lockwrightkeep.SquaresEuler': WHATEVER THE INPUT: true; the input reads as it did. -/
def squaresEulerSpec : ChangeSpec := { name := "squaresEuler", fn := fun _ => fun
  | [d1, d2] => { results := [.lit (.bool true)], args := [d1, d2] }
  | _ => none }
def squaresEulerRow : OpenClaim := { program := "ytlabkedkamdomaa", sum := "861f1cff4a2a713072a8d6a1dd1b6dba4b03d42a563015aeb83baad084de5570", func := "lockwright/lockwrightkeep.SquaresEuler", spec := "squaresEuler", apart := false }
def SquaresEulerSaid : Prop := squaresEulerRow.holds Try.pinned (OpenSpec.ofChange squaresEulerSpec)

/-- ITS FALSE NEIGHBOUR: 'it returns false'. Refute it at one input. -/
def squaresEulerWrong : ChangeSpec := { name := "squaresEuler", fn := fun _ => fun
  | [d1, d2] => { results := [.lit (.bool false)], args := [d1, d2] }
  | _ => none }
def SquaresEulerWrongFalsely : Prop := squaresEulerRow.holds Try.pinned (OpenSpec.ofChange squaresEulerWrong)

/-- 'lockwrightkeep.LiarsPrime': WHATEVER THE INPUT: true; the input reads as it did. -/
def liarsPrimeSpec : ChangeSpec := { name := "liarsPrime", fn := fun _ => fun
  | [d1, d2] => { results := [.lit (.bool true)], args := [d1, d2] }
  | _ => none }
def liarsPrimeRow : OpenClaim := { program := "ytlabkedkamdomaa", sum := "861f1cff4a2a713072a8d6a1dd1b6dba4b03d42a563015aeb83baad084de5570", func := "lockwright/lockwrightkeep.LiarsPrime", spec := "liarsPrime", unfollowed := true, recurses := true, apart := false }
def LiarsPrimeSaid : Prop := liarsPrimeRow.holds Try.pinned (OpenSpec.ofChange liarsPrimeSpec)

/-- ITS FALSE NEIGHBOUR: 'it returns false'. Refute it at one input. -/
def liarsPrimeWrong : ChangeSpec := { name := "liarsPrime", fn := fun _ => fun
  | [d1, d2] => { results := [.lit (.bool false)], args := [d1, d2] }
  | _ => none }
def LiarsPrimeWrongFalsely : Prop := liarsPrimeRow.holds Try.pinned (OpenSpec.ofChange liarsPrimeWrong)

/-- 'lockwrightkeep.LiarsChain': WHATEVER THE INPUT: true; the input reads as it did. -/
def liarsChainSpec : ChangeSpec := { name := "liarsChain", fn := fun _ => fun
  | [d1, d2] => { results := [.lit (.bool true)], args := [d1, d2] }
  | _ => none }
def liarsChainRow : OpenClaim := { program := "ytlabkedkamdomaa", sum := "861f1cff4a2a713072a8d6a1dd1b6dba4b03d42a563015aeb83baad084de5570", func := "lockwright/lockwrightkeep.LiarsChain", spec := "liarsChain", unfollowed := true, recurses := true, apart := false }
def LiarsChainSaid : Prop := liarsChainRow.holds Try.pinned (OpenSpec.ofChange liarsChainSpec)

/-- ITS FALSE NEIGHBOUR: 'it returns false'. Refute it at one input. -/
def liarsChainWrong : ChangeSpec := { name := "liarsChain", fn := fun _ => fun
  | [d1, d2] => { results := [.lit (.bool false)], args := [d1, d2] }
  | _ => none }
def LiarsChainWrongFalsely : Prop := liarsChainRow.holds Try.pinned (OpenSpec.ofChange liarsChainWrong)

/-- 'lockwrightkeep.LiarsSolovay': WHATEVER THE INPUT: true; the input reads as it did. -/
def liarsSolovaySpec : ChangeSpec := { name := "liarsSolovay", fn := fun _ => fun
  | [d] => { results := [.lit (.bool true)], args := [d] }
  | _ => none }
def liarsSolovayRow : OpenClaim := { program := "ytlabkedkamdomaa", sum := "861f1cff4a2a713072a8d6a1dd1b6dba4b03d42a563015aeb83baad084de5570", func := "lockwright/lockwrightkeep.LiarsSolovay", spec := "liarsSolovay", unfollowed := true, recurses := true, apart := false }
def LiarsSolovaySaid : Prop := liarsSolovayRow.holds Try.pinned (OpenSpec.ofChange liarsSolovaySpec)

/-- ITS FALSE NEIGHBOUR: 'it returns false'. Refute it at one input. -/
def liarsSolovayWrong : ChangeSpec := { name := "liarsSolovay", fn := fun _ => fun
  | [d] => { results := [.lit (.bool false)], args := [d] }
  | _ => none }
def LiarsSolovayWrongFalsely : Prop := liarsSolovayRow.holds Try.pinned (OpenSpec.ofChange liarsSolovayWrong)

/-- 'lockwrightkeep.SquaresRoot': WHATEVER THE INPUT: true; the input reads as it did. -/
def squaresRootSpec : ChangeSpec := { name := "squaresRoot", fn := fun _ => fun
  | [d1, d2, d3] => { results := [.lit (.bool true)], args := [d1, d2, d3] }
  | _ => none }
def squaresRootRow : OpenClaim := { program := "ytlabkedkamdomaa", sum := "861f1cff4a2a713072a8d6a1dd1b6dba4b03d42a563015aeb83baad084de5570", func := "lockwright/lockwrightkeep.SquaresRoot", spec := "squaresRoot", unfollowed := true, recurses := true, apart := false }
def SquaresRootSaid : Prop := squaresRootRow.holds Try.pinned (OpenSpec.ofChange squaresRootSpec)

/-- ITS FALSE NEIGHBOUR: 'it returns false'. Refute it at one input. -/
def squaresRootWrong : ChangeSpec := { name := "squaresRoot", fn := fun _ => fun
  | [d1, d2, d3] => { results := [.lit (.bool false)], args := [d1, d2, d3] }
  | _ => none }
def SquaresRootWrongFalsely : Prop := squaresRootRow.holds Try.pinned (OpenSpec.ofChange squaresRootWrong)

/-- 'lockwrightkeep.PrattProves': WHATEVER THE INPUT: true; the input reads as it did. -/
def prattProvesSpec : ChangeSpec := { name := "prattProves", fn := fun _ => fun
  | [d] => { results := [.lit (.bool true)], args := [d] }
  | _ => none }
def prattProvesRow : OpenClaim := { program := "ytlabkedkamdomaa", sum := "861f1cff4a2a713072a8d6a1dd1b6dba4b03d42a563015aeb83baad084de5570", func := "lockwright/lockwrightkeep.PrattProves", spec := "prattProves", unfollowed := true, recurses := true, apart := false }
def PrattProvesSaid : Prop := prattProvesRow.holds Try.pinned (OpenSpec.ofChange prattProvesSpec)

/-- ITS FALSE NEIGHBOUR: 'it returns false'. Refute it at one input. -/
def prattProvesWrong : ChangeSpec := { name := "prattProves", fn := fun _ => fun
  | [d] => { results := [.lit (.bool false)], args := [d] }
  | _ => none }
def PrattProvesWrongFalsely : Prop := prattProvesRow.holds Try.pinned (OpenSpec.ofChange prattProvesWrong)

/-- 'lockwrightkeep.PowerEuler': WHATEVER THE INPUT: true; the input reads as it did. -/
def powerEulerSpec : ChangeSpec := { name := "powerEuler", fn := fun _ => fun
  | [d1, d2, d3] => { results := [.lit (.bool true)], args := [d1, d2, d3] }
  | _ => none }
def powerEulerRow : OpenClaim := { program := "ytlabkedkamdomaa", sum := "861f1cff4a2a713072a8d6a1dd1b6dba4b03d42a563015aeb83baad084de5570", func := "lockwright/lockwrightkeep.PowerEuler", spec := "powerEuler", unfollowed := true, recurses := true, apart := false }
def PowerEulerSaid : Prop := powerEulerRow.holds Try.pinned (OpenSpec.ofChange powerEulerSpec)

/-- ITS FALSE NEIGHBOUR: 'it returns false'. Refute it at one input. -/
def powerEulerWrong : ChangeSpec := { name := "powerEuler", fn := fun _ => fun
  | [d1, d2, d3] => { results := [.lit (.bool false)], args := [d1, d2, d3] }
  | _ => none }
def PowerEulerWrongFalsely : Prop := powerEulerRow.holds Try.pinned (OpenSpec.ofChange powerEulerWrong)

/- THE SECOND FORM. 'bulk': how many values and letters a reading holds, each counted each time it is reached (what is shared counts as often as it is met; a slice's spare places count too). A statement '..UptoSaid' is the law's where the arguments, and the package variables that the reading takes, are together of bulk at most 1048576: NARROWER than '..Said'. Prove '..Said' where nothing that the law and all that it calls make is longer than what came in: it says more and counts as full. Else prove '..UptoSaid'. A law counts once. -/
mutual
def uptoBulk {H : Type} : DataW H → Nat
  | .lit (.string bytes) => bytes.length + 1
  | .lit _ => 1
  | .nil => 1
  | .ptr d => uptoBulk d + 1
  | .slice elems spare => uptoBulkAll elems + uptoBulkAll spare + 1
  | .agg parts => uptoBulkAll parts + 1
  | .iface _ d => uptoBulk d + 1
  | .map entries => uptoBulkEntries entries + 1
  | .held _ => 1
def uptoBulkAll {H : Type} : List (DataW H) → Nat
  | [] => 0
  | d :: r => uptoBulk d + uptoBulkAll r
def uptoBulkEntries {H : Type} : List (Lit × DataW H) → Nat
  | [] => 0
  | x :: r => uptoBulkEntry x + uptoBulkEntries r
def uptoBulkEntry {H : Type} : Lit × DataW H → Nat
  | (.string bytes, d) => bytes.length + uptoBulk d + 1
  | (_, d) => uptoBulk d + 1
 end
def uptoSmall : (H : Type) → List (DataW H) → Bool := fun _ ds => decide (uptoBulkAll ds ≤ 1048576)
def OpenSpec.upto (s : _root_.Go.ChangeSpec) : _root_.Go.OpenSpec := { _root_.Go.OpenSpec.ofChange s with cond := some uptoSmall }

/-- 'lockwrightkeep.PrimesEuclid', WHERE WHAT IT READS IS OF BULK AT MOST 1048576: true; the input reads as it did. -/
def primesEuclidUptoRow : OpenClaim := { program := "ytlabkedkamdomaa", sum := "861f1cff4a2a713072a8d6a1dd1b6dba4b03d42a563015aeb83baad084de5570", func := "lockwright/lockwrightkeep.PrimesEuclid", spec := "primesEuclid", unfollowed := true, recurses := true, apart := false, narrowed := true }
def PrimesEuclidUptoSaid : Prop := primesEuclidUptoRow.holds Try.pinned (OpenSpec.upto primesEuclidSpec)

/-- 'lockwrightkeep.PrimesWilson', WHERE WHAT IT READS IS OF BULK AT MOST 1048576: true; the input reads as it did. -/
def primesWilsonUptoRow : OpenClaim := { program := "ytlabkedkamdomaa", sum := "861f1cff4a2a713072a8d6a1dd1b6dba4b03d42a563015aeb83baad084de5570", func := "lockwright/lockwrightkeep.PrimesWilson", spec := "primesWilson", unfollowed := true, recurses := true, apart := false, narrowed := true }
def PrimesWilsonUptoSaid : Prop := primesWilsonUptoRow.holds Try.pinned (OpenSpec.upto primesWilsonSpec)

/-- 'lockwrightkeep.PrimesBertrand', WHERE WHAT IT READS IS OF BULK AT MOST 1048576: true; the input reads as it did. -/
def primesBertrandUptoRow : OpenClaim := { program := "ytlabkedkamdomaa", sum := "861f1cff4a2a713072a8d6a1dd1b6dba4b03d42a563015aeb83baad084de5570", func := "lockwright/lockwrightkeep.PrimesBertrand", spec := "primesBertrand", unfollowed := true, recurses := true, apart := false, narrowed := true }
def PrimesBertrandUptoSaid : Prop := primesBertrandUptoRow.holds Try.pinned (OpenSpec.upto primesBertrandSpec)

/-- 'lockwrightkeep.PrimesEuler', WHERE WHAT IT READS IS OF BULK AT MOST 1048576: true; the input reads as it did. -/
def primesEulerUptoRow : OpenClaim := { program := "ytlabkedkamdomaa", sum := "861f1cff4a2a713072a8d6a1dd1b6dba4b03d42a563015aeb83baad084de5570", func := "lockwright/lockwrightkeep.PrimesEuler", spec := "primesEuler", unfollowed := true, recurses := true, apart := false, narrowed := true }
def PrimesEulerUptoSaid : Prop := primesEulerUptoRow.holds Try.pinned (OpenSpec.upto primesEulerSpec)

/-- 'lockwrightkeep.PrimesUnique', WHERE WHAT IT READS IS OF BULK AT MOST 1048576: true; the input reads as it did. -/
def primesUniqueUptoRow : OpenClaim := { program := "ytlabkedkamdomaa", sum := "861f1cff4a2a713072a8d6a1dd1b6dba4b03d42a563015aeb83baad084de5570", func := "lockwright/lockwrightkeep.PrimesUnique", spec := "primesUnique", unfollowed := true, recurses := true, apart := false, narrowed := true }
def PrimesUniqueUptoSaid : Prop := primesUniqueUptoRow.holds Try.pinned (OpenSpec.upto primesUniqueSpec)

/-- 'lockwrightkeep.SquaresEuler', WHERE WHAT IT READS IS OF BULK AT MOST 1048576: true; the input reads as it did. -/
def squaresEulerUptoRow : OpenClaim := { program := "ytlabkedkamdomaa", sum := "861f1cff4a2a713072a8d6a1dd1b6dba4b03d42a563015aeb83baad084de5570", func := "lockwright/lockwrightkeep.SquaresEuler", spec := "squaresEuler", apart := false, narrowed := true }
def SquaresEulerUptoSaid : Prop := squaresEulerUptoRow.holds Try.pinned (OpenSpec.upto squaresEulerSpec)

/-- 'lockwrightkeep.LiarsPrime', WHERE WHAT IT READS IS OF BULK AT MOST 1048576: true; the input reads as it did. -/
def liarsPrimeUptoRow : OpenClaim := { program := "ytlabkedkamdomaa", sum := "861f1cff4a2a713072a8d6a1dd1b6dba4b03d42a563015aeb83baad084de5570", func := "lockwright/lockwrightkeep.LiarsPrime", spec := "liarsPrime", unfollowed := true, recurses := true, apart := false, narrowed := true }
def LiarsPrimeUptoSaid : Prop := liarsPrimeUptoRow.holds Try.pinned (OpenSpec.upto liarsPrimeSpec)

/-- 'lockwrightkeep.LiarsChain', WHERE WHAT IT READS IS OF BULK AT MOST 1048576: true; the input reads as it did. -/
def liarsChainUptoRow : OpenClaim := { program := "ytlabkedkamdomaa", sum := "861f1cff4a2a713072a8d6a1dd1b6dba4b03d42a563015aeb83baad084de5570", func := "lockwright/lockwrightkeep.LiarsChain", spec := "liarsChain", unfollowed := true, recurses := true, apart := false, narrowed := true }
def LiarsChainUptoSaid : Prop := liarsChainUptoRow.holds Try.pinned (OpenSpec.upto liarsChainSpec)

/-- 'lockwrightkeep.LiarsSolovay', WHERE WHAT IT READS IS OF BULK AT MOST 1048576: true; the input reads as it did. -/
def liarsSolovayUptoRow : OpenClaim := { program := "ytlabkedkamdomaa", sum := "861f1cff4a2a713072a8d6a1dd1b6dba4b03d42a563015aeb83baad084de5570", func := "lockwright/lockwrightkeep.LiarsSolovay", spec := "liarsSolovay", unfollowed := true, recurses := true, apart := false, narrowed := true }
def LiarsSolovayUptoSaid : Prop := liarsSolovayUptoRow.holds Try.pinned (OpenSpec.upto liarsSolovaySpec)

/-- 'lockwrightkeep.SquaresRoot', WHERE WHAT IT READS IS OF BULK AT MOST 1048576: true; the input reads as it did. -/
def squaresRootUptoRow : OpenClaim := { program := "ytlabkedkamdomaa", sum := "861f1cff4a2a713072a8d6a1dd1b6dba4b03d42a563015aeb83baad084de5570", func := "lockwright/lockwrightkeep.SquaresRoot", spec := "squaresRoot", unfollowed := true, recurses := true, apart := false, narrowed := true }
def SquaresRootUptoSaid : Prop := squaresRootUptoRow.holds Try.pinned (OpenSpec.upto squaresRootSpec)

/-- 'lockwrightkeep.PrattProves', WHERE WHAT IT READS IS OF BULK AT MOST 1048576: true; the input reads as it did. -/
def prattProvesUptoRow : OpenClaim := { program := "ytlabkedkamdomaa", sum := "861f1cff4a2a713072a8d6a1dd1b6dba4b03d42a563015aeb83baad084de5570", func := "lockwright/lockwrightkeep.PrattProves", spec := "prattProves", unfollowed := true, recurses := true, apart := false, narrowed := true }
def PrattProvesUptoSaid : Prop := prattProvesUptoRow.holds Try.pinned (OpenSpec.upto prattProvesSpec)

/-- 'lockwrightkeep.PowerEuler', WHERE WHAT IT READS IS OF BULK AT MOST 1048576: true; the input reads as it did. -/
def powerEulerUptoRow : OpenClaim := { program := "ytlabkedkamdomaa", sum := "861f1cff4a2a713072a8d6a1dd1b6dba4b03d42a563015aeb83baad084de5570", func := "lockwright/lockwrightkeep.PowerEuler", spec := "powerEuler", unfollowed := true, recurses := true, apart := false, narrowed := true }
def PowerEulerUptoSaid : Prop := powerEulerUptoRow.holds Try.pinned (OpenSpec.upto powerEulerSpec)

end Rows
end Go.Proofs.Ytlabkedkamdomaa
