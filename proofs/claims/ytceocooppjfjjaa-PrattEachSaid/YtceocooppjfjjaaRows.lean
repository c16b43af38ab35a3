/-
  No cell of these rows narrows 'for every input' (looked for: loops, veiled, ifaces, maps, wideKeys, modest, calm, conditions, laid).
  DERIVED. THE GIVEN ROWS OF THIS SEAT. 9 by the template 'for every input the law returns true; each argument reads behind the call as it read before'; 0 by the template 'total and deterministic' (their statements: YtceocooppjfjjaaTotals.lean).
  GIVEN WITH THE SEED: the statements are not yours to turn. If you find one false, say at which input.
  Laid BY PROGRAM, IN A SANDBOX (cutbox-rows.mjs): the forced cells as the released guide's own fill.sh prints them over the translation eabcf11c41e3dec7… (all of the seat's roots in one cut). By AI agents, Wed Nov 11 2026. No macro, syntax, notation, axiom, sorry.
-/
import Derived.Test.YtceocooppjfjjaaChecked
import GoSem.Claim
import GoSem.ClaimJoined
import GoSem.ClaimMapViews
import Derived.JoinedTies
import Derived.KernelRfl
namespace Go.Proofs.Ytceocooppjfjjaa
/- THE CELL 'sum', in the pinned program and in every row, IS THE sha256 OF THE DUMP (.gsa) THAT YtceocooppjfjjaaProg.lean LOADS. Nothing in Lean hashes anything: it is a label: what it is worth is what the hold of that sum in a sandbox is worth. -/
noncomputable def Try.pinned : Pinned := { name := "ytceocooppjfjjaa", sum := "eabcf11c41e3dec7b38fc2d43e48c5a6351670277edf0acc39314953a1256188", checked := Try.checked }
namespace Rows
def none {H : Type} : Left H := { results := [], args := [] }

/-- 'lockwrightkeep.PowerCarmichael': WHATEVER THE INPUT: true; the input reads as it did. -/
def powerCarmichaelSpec : ChangeSpec := { name := "powerCarmichael", fn := fun _ => fun
  | [d] => { results := [.lit (.bool true)], args := [d] }
  | _ => none }
def powerCarmichaelRow : OpenClaim := { program := "ytceocooppjfjjaa", sum := "eabcf11c41e3dec7b38fc2d43e48c5a6351670277edf0acc39314953a1256188", func := "lockwright/lockwrightkeep.PowerCarmichael", spec := "powerCarmichael", unfollowed := true, recurses := true, apart := false }
def PowerCarmichaelSaid : Prop := powerCarmichaelRow.holds Try.pinned (OpenSpec.ofChange powerCarmichaelSpec)

/-- ITS FALSE NEIGHBOUR: 'it returns false'. Refute it at one input. -/
def powerCarmichaelWrong : ChangeSpec := { name := "powerCarmichael", fn := fun _ => fun
  | [d] => { results := [.lit (.bool false)], args := [d] }
  | _ => none }
def PowerCarmichaelWrongFalsely : Prop := powerCarmichaelRow.holds Try.pinned (OpenSpec.ofChange powerCarmichaelWrong)

/-- 'lockwrightkeep.LogAdds': WHATEVER THE INPUT: true; the input reads as it did. -/
def logAddsSpec : ChangeSpec := { name := "logAdds", fn := fun _ => fun
  | [d1, d2, d3, d4] => { results := [.lit (.bool true)], args := [d1, d2, d3, d4] }
  | _ => none }
def logAddsRow : OpenClaim := { program := "ytceocooppjfjjaa", sum := "eabcf11c41e3dec7b38fc2d43e48c5a6351670277edf0acc39314953a1256188", func := "lockwright/lockwrightkeep.LogAdds", spec := "logAdds", unfollowed := true, recurses := true, apart := false }
def LogAddsSaid : Prop := logAddsRow.holds Try.pinned (OpenSpec.ofChange logAddsSpec)

/-- ITS FALSE NEIGHBOUR: 'it returns false'. Refute it at one input. -/
def logAddsWrong : ChangeSpec := { name := "logAdds", fn := fun _ => fun
  | [d1, d2, d3, d4] => { results := [.lit (.bool false)], args := [d1, d2, d3, d4] }
  | _ => none }
def LogAddsWrongFalsely : Prop := logAddsRow.holds Try.pinned (OpenSpec.ofChange logAddsWrong)

/-- 'lockwrightkeep.LogBase': WHATEVER THE INPUT: true; the input reads as it did. -/
def logBaseSpec : ChangeSpec := { name := "logBase", fn := fun _ => fun
  | [d1, d2] => { results := [.lit (.bool true)], args := [d1, d2] }
  | _ => none }
def logBaseRow : OpenClaim := { program := "ytceocooppjfjjaa", sum := "eabcf11c41e3dec7b38fc2d43e48c5a6351670277edf0acc39314953a1256188", func := "lockwright/lockwrightkeep.LogBase", spec := "logBase", unfollowed := true, recurses := true, apart := false }
def LogBaseSaid : Prop := logBaseRow.holds Try.pinned (OpenSpec.ofChange logBaseSpec)

/-- ITS FALSE NEIGHBOUR: 'it returns false'. Refute it at one input. -/
def logBaseWrong : ChangeSpec := { name := "logBase", fn := fun _ => fun
  | [d1, d2] => { results := [.lit (.bool false)], args := [d1, d2] }
  | _ => none }
def LogBaseWrongFalsely : Prop := logBaseRow.holds Try.pinned (OpenSpec.ofChange logBaseWrong)

/-- 'lockwrightkeep.PrimesGauss': WHATEVER THE INPUT: true; the input reads as it did. -/
def primesGaussSpec : ChangeSpec := { name := "primesGauss", fn := fun _ => fun
  | [d] => { results := [.lit (.bool true)], args := [d] }
  | _ => none }
def primesGaussRow : OpenClaim := { program := "ytceocooppjfjjaa", sum := "eabcf11c41e3dec7b38fc2d43e48c5a6351670277edf0acc39314953a1256188", func := "lockwright/lockwrightkeep.PrimesGauss", spec := "primesGauss", unfollowed := true, recurses := true, apart := false }
def PrimesGaussSaid : Prop := primesGaussRow.holds Try.pinned (OpenSpec.ofChange primesGaussSpec)

/-- ITS FALSE NEIGHBOUR: 'it returns false'. Refute it at one input. -/
def primesGaussWrong : ChangeSpec := { name := "primesGauss", fn := fun _ => fun
  | [d] => { results := [.lit (.bool false)], args := [d] }
  | _ => none }
def PrimesGaussWrongFalsely : Prop := primesGaussRow.holds Try.pinned (OpenSpec.ofChange primesGaussWrong)

/-- 'lockwrightkeep.PrimesMobius': WHATEVER THE INPUT: true; the input reads as it did. -/
def primesMobiusSpec : ChangeSpec := { name := "primesMobius", fn := fun _ => fun
  | [d] => { results := [.lit (.bool true)], args := [d] }
  | _ => none }
def primesMobiusRow : OpenClaim := { program := "ytceocooppjfjjaa", sum := "eabcf11c41e3dec7b38fc2d43e48c5a6351670277edf0acc39314953a1256188", func := "lockwright/lockwrightkeep.PrimesMobius", spec := "primesMobius", unfollowed := true, recurses := true, apart := false }
def PrimesMobiusSaid : Prop := primesMobiusRow.holds Try.pinned (OpenSpec.ofChange primesMobiusSpec)

/-- ITS FALSE NEIGHBOUR: 'it returns false'. Refute it at one input. -/
def primesMobiusWrong : ChangeSpec := { name := "primesMobius", fn := fun _ => fun
  | [d] => { results := [.lit (.bool false)], args := [d] }
  | _ => none }
def PrimesMobiusWrongFalsely : Prop := primesMobiusRow.holds Try.pinned (OpenSpec.ofChange primesMobiusWrong)

/-- 'lockwrightkeep.PrattEach': WHATEVER THE INPUT: true; the input reads as it did. -/
def prattEachSpec : ChangeSpec := { name := "prattEach", fn := fun _ => fun
  | [d] => { results := [.lit (.bool true)], args := [d] }
  | _ => none }
def prattEachRow : OpenClaim := { program := "ytceocooppjfjjaa", sum := "eabcf11c41e3dec7b38fc2d43e48c5a6351670277edf0acc39314953a1256188", func := "lockwright/lockwrightkeep.PrattEach", spec := "prattEach", unfollowed := true, recurses := true, apart := false }
def PrattEachSaid : Prop := prattEachRow.holds Try.pinned (OpenSpec.ofChange prattEachSpec)

/-- ITS FALSE NEIGHBOUR: 'it returns false'. Refute it at one input. -/
def prattEachWrong : ChangeSpec := { name := "prattEach", fn := fun _ => fun
  | [d] => { results := [.lit (.bool false)], args := [d] }
  | _ => none }
def PrattEachWrongFalsely : Prop := prattEachRow.holds Try.pinned (OpenSpec.ofChange prattEachWrong)

/-- 'lockwrightkeep.CrtUnique': WHATEVER THE INPUT: true; the input reads as it did. -/
def crtUniqueSpec : ChangeSpec := { name := "crtUnique", fn := fun _ => fun
  | [d1, d2] => { results := [.lit (.bool true)], args := [d1, d2] }
  | _ => none }
def crtUniqueRow : OpenClaim := { program := "ytceocooppjfjjaa", sum := "eabcf11c41e3dec7b38fc2d43e48c5a6351670277edf0acc39314953a1256188", func := "lockwright/lockwrightkeep.CrtUnique", spec := "crtUnique", apart := false }
def CrtUniqueSaid : Prop := crtUniqueRow.holds Try.pinned (OpenSpec.ofChange crtUniqueSpec)

/-- ITS FALSE NEIGHBOUR: 'it returns false'. Refute it at one input. -/
def crtUniqueWrong : ChangeSpec := { name := "crtUnique", fn := fun _ => fun
  | [d1, d2] => { results := [.lit (.bool false)], args := [d1, d2] }
  | _ => none }
def CrtUniqueWrongFalsely : Prop := crtUniqueRow.holds Try.pinned (OpenSpec.ofChange crtUniqueWrong)

/-- 'lockwrightkeep.CrtOrder': WHATEVER THE INPUT: true; the input reads as it did. -/
def crtOrderSpec : ChangeSpec := { name := "crtOrder", fn := fun _ => fun
  | [d1, d2] => { results := [.lit (.bool true)], args := [d1, d2] }
  | _ => none }
def crtOrderRow : OpenClaim := { program := "ytceocooppjfjjaa", sum := "eabcf11c41e3dec7b38fc2d43e48c5a6351670277edf0acc39314953a1256188", func := "lockwright/lockwrightkeep.CrtOrder", spec := "crtOrder", apart := false }
def CrtOrderSaid : Prop := crtOrderRow.holds Try.pinned (OpenSpec.ofChange crtOrderSpec)

/-- ITS FALSE NEIGHBOUR: 'it returns false'. Refute it at one input. -/
def crtOrderWrong : ChangeSpec := { name := "crtOrder", fn := fun _ => fun
  | [d1, d2] => { results := [.lit (.bool false)], args := [d1, d2] }
  | _ => none }
def CrtOrderWrongFalsely : Prop := crtOrderRow.holds Try.pinned (OpenSpec.ofChange crtOrderWrong)

/-- 'lockwrightkeep.RsaOpens': WHATEVER THE INPUT: true; the input reads as it did. -/
def rsaOpensSpec : ChangeSpec := { name := "rsaOpens", fn := fun _ => fun
  | [d1, d2, d3, d4] => { results := [.lit (.bool true)], args := [d1, d2, d3, d4] }
  | _ => none }
def rsaOpensRow : OpenClaim := { program := "ytceocooppjfjjaa", sum := "eabcf11c41e3dec7b38fc2d43e48c5a6351670277edf0acc39314953a1256188", func := "lockwright/lockwrightkeep.RsaOpens", spec := "rsaOpens", unfollowed := true, recurses := true, apart := false }
def RsaOpensSaid : Prop := rsaOpensRow.holds Try.pinned (OpenSpec.ofChange rsaOpensSpec)

/-- ITS FALSE NEIGHBOUR: 'it returns false'. Refute it at one input. -/
def rsaOpensWrong : ChangeSpec := { name := "rsaOpens", fn := fun _ => fun
  | [d1, d2, d3, d4] => { results := [.lit (.bool false)], args := [d1, d2, d3, d4] }
  | _ => none }
def RsaOpensWrongFalsely : Prop := rsaOpensRow.holds Try.pinned (OpenSpec.ofChange rsaOpensWrong)

/- THE SECOND FORM. 'bulk': how many values and letters a reading holds, each counted each time it is reached (what is shared counts as often as it is met; a slice's spare places count too). A statement '..UptoSaid' is the law's where the arguments, and the package variables that the reading takes, are together of bulk at most 1048576: NARROWER than '..Said'. Prove '..Said' where nothing that the law and all that it calls make is longer than what came in: it says more and counts as full. Else prove '..UptoSaid'. A law counts once. -/
mutual
def uptoBulk {H : Type} : DataW H → Nat
  | .lit (.string bytes) => bytes.length + 1
  | .lit _ => 1
  | .nil => 1
  | .ptr d => uptoBulk d + 1
  | .slice elems spare => uptoBulkAll elems + uptoBulkAll spare + 1
  | .agg parts => uptoBulkAll parts + 1
  | .iface _ d => uptoBulk d + 1
  | .map entries => uptoBulkEntries entries + 1
  | .held _ => 1
def uptoBulkAll {H : Type} : List (DataW H) → Nat
  | [] => 0
  | d :: r => uptoBulk d + uptoBulkAll r
def uptoBulkEntries {H : Type} : List (Lit × DataW H) → Nat
  | [] => 0
  | x :: r => uptoBulkEntry x + uptoBulkEntries r
def uptoBulkEntry {H : Type} : Lit × DataW H → Nat
  | (.string bytes, d) => bytes.length + uptoBulk d + 1
  | (_, d) => uptoBulk d + 1
 end
def uptoSmall : (H : Type) → List (DataW H) → Bool := fun _ ds => decide (uptoBulkAll ds ≤ 1048576)
def OpenSpec.upto (s : _root_.Go.ChangeSpec) : _root_.Go.OpenSpec := { _root_.Go.OpenSpec.ofChange s with cond := some uptoSmall }

/-- 'lockwrightkeep.PowerCarmichael', WHERE WHAT IT READS IS OF BULK AT MOST 1048576: true; the input reads as it did. -/
def powerCarmichaelUptoRow : OpenClaim := { program := "ytceocooppjfjjaa", sum := "eabcf11c41e3dec7b38fc2d43e48c5a6351670277edf0acc39314953a1256188", func := "lockwright/lockwrightkeep.PowerCarmichael", spec := "powerCarmichael", unfollowed := true, recurses := true, apart := false, narrowed := true }
def PowerCarmichaelUptoSaid : Prop := powerCarmichaelUptoRow.holds Try.pinned (OpenSpec.upto powerCarmichaelSpec)

/-- 'lockwrightkeep.LogAdds', WHERE WHAT IT READS IS OF BULK AT MOST 1048576: true; the input reads as it did. -/
def logAddsUptoRow : OpenClaim := { program := "ytceocooppjfjjaa", sum := "eabcf11c41e3dec7b38fc2d43e48c5a6351670277edf0acc39314953a1256188", func := "lockwright/lockwrightkeep.LogAdds", spec := "logAdds", unfollowed := true, recurses := true, apart := false, narrowed := true }
def LogAddsUptoSaid : Prop := logAddsUptoRow.holds Try.pinned (OpenSpec.upto logAddsSpec)

/-- 'lockwrightkeep.LogBase', WHERE WHAT IT READS IS OF BULK AT MOST 1048576: true; the input reads as it did. -/
def logBaseUptoRow : OpenClaim := { program := "ytceocooppjfjjaa", sum := "eabcf11c41e3dec7b38fc2d43e48c5a6351670277edf0acc39314953a1256188", func := "lockwright/lockwrightkeep.LogBase", spec := "logBase", unfollowed := true, recurses := true, apart := false, narrowed := true }
def LogBaseUptoSaid : Prop := logBaseUptoRow.holds Try.pinned (OpenSpec.upto logBaseSpec)

/-- 'lockwrightkeep.PrimesGauss', WHERE WHAT IT READS IS OF BULK AT MOST 1048576: true; the input reads as it did. -/
def primesGaussUptoRow : OpenClaim := { program := "ytceocooppjfjjaa", sum := "eabcf11c41e3dec7b38fc2d43e48c5a6351670277edf0acc39314953a1256188", func := "lockwright/lockwrightkeep.PrimesGauss", spec := "primesGauss", unfollowed := true, recurses := true, apart := false, narrowed := true }
def PrimesGaussUptoSaid : Prop := primesGaussUptoRow.holds Try.pinned (OpenSpec.upto primesGaussSpec)

/-- 'lockwrightkeep.PrimesMobius', WHERE WHAT IT READS IS OF BULK AT MOST 1048576: true; the input reads as it did. -/
def primesMobiusUptoRow : OpenClaim := { program := "ytceocooppjfjjaa", sum := "eabcf11c41e3dec7b38fc2d43e48c5a6351670277edf0acc39314953a1256188", func := "lockwright/lockwrightkeep.PrimesMobius", spec := "primesMobius", unfollowed := true, recurses := true, apart := false, narrowed := true }
def PrimesMobiusUptoSaid : Prop := primesMobiusUptoRow.holds Try.pinned (OpenSpec.upto primesMobiusSpec)

/-- 'lockwrightkeep.PrattEach', WHERE WHAT IT READS IS OF BULK AT MOST 1048576: true; the input reads as it did. -/
def prattEachUptoRow : OpenClaim := { program := "ytceocooppjfjjaa", sum := "eabcf11c41e3dec7b38fc2d43e48c5a6351670277edf0acc39314953a1256188", func := "lockwright/lockwrightkeep.PrattEach", spec := "prattEach", unfollowed := true, recurses := true, apart := false, narrowed := true }
def PrattEachUptoSaid : Prop := prattEachUptoRow.holds Try.pinned (OpenSpec.upto prattEachSpec)

/-- 'lockwrightkeep.CrtUnique', WHERE WHAT IT READS IS OF BULK AT MOST 1048576: true; the input reads as it did. -/
def crtUniqueUptoRow : OpenClaim := { program := "ytceocooppjfjjaa", sum := "eabcf11c41e3dec7b38fc2d43e48c5a6351670277edf0acc39314953a1256188", func := "lockwright/lockwrightkeep.CrtUnique", spec := "crtUnique", apart := false, narrowed := true }
def CrtUniqueUptoSaid : Prop := crtUniqueUptoRow.holds Try.pinned (OpenSpec.upto crtUniqueSpec)

/-- 'lockwrightkeep.CrtOrder', WHERE WHAT IT READS IS OF BULK AT MOST 1048576: true; the input reads as it did. -/
def crtOrderUptoRow : OpenClaim := { program := "ytceocooppjfjjaa", sum := "eabcf11c41e3dec7b38fc2d43e48c5a6351670277edf0acc39314953a1256188", func := "lockwright/lockwrightkeep.CrtOrder", spec := "crtOrder", apart := false, narrowed := true }
def CrtOrderUptoSaid : Prop := crtOrderUptoRow.holds Try.pinned (OpenSpec.upto crtOrderSpec)

/-- 'lockwrightkeep.RsaOpens', WHERE WHAT IT READS IS OF BULK AT MOST 1048576: true; the input reads as it did. -/
def rsaOpensUptoRow : OpenClaim := { program := "ytceocooppjfjjaa", sum := "eabcf11c41e3dec7b38fc2d43e48c5a6351670277edf0acc39314953a1256188", func := "lockwright/lockwrightkeep.RsaOpens", spec := "rsaOpens", unfollowed := true, recurses := true, apart := false, narrowed := true }
def RsaOpensUptoSaid : Prop := rsaOpensUptoRow.holds Try.pinned (OpenSpec.upto rsaOpensSpec)

end Rows
end Go.Proofs.Ytceocooppjfjjaa
