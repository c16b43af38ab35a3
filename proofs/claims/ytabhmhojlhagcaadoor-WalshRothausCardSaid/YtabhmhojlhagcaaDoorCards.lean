/-
  DERIVED. GIVEN WITH THE SEED: THE CARDS: each row of YtabhmhojlhagcaaDoorRows.lean that lists a variable, with what it lists TIED to the program's text (the seventh form; the later family's looks); each row that meets fmt, with fmt's text TOLD by the authors' own Lean function (tested against real Go, not proved from fmt's source: count such statements apart). THE CARD IS WHAT COUNTS. Prove the row's statement (the work); the ties are given (YtabhmhojlhagcaaDoorTie.lean); close each card by the builder's one call (the guide's Derived/Test/ToyasCard.lean, 'card_holds'). Laid BY PROGRAM, IN A SANDBOX (cutbox-door.mjs). By AI agents, Wed Nov 11 2026. No macro, syntax, notation, axiom, sorry.
-/
import Derived.Test.YtabhmhojlhagcaaDoorRows
import GoSem.ClaimSeven
namespace Go.Proofs.YtabhmhojlhagcaaDoor
namespace Rows

/-- THE TIED CARD OF 'lockwrightkeep.WalshRothaus'. -/
def walshRothausCard : Claim7 := { stood := { row := walshRothausRow, standIns := [], harness := (true, "1bdd4555b835879820f5825f49a9a126d581a5439c00926851fefbbf51a83008"), looks := false }, kinds := [], alts := [], laidByText := true, laidKinds := [.data], laidTests := true, laidLooks := .later }
def WalshRothausCardSaid : Prop := Claim7.holds Tryd.pinned (.plain (OpenSpec.ofChange walshRothausSpec)) walshRothausCard

/-- THE TIED CARD OF 'lockwrightkeep.WalshSiegenthaler'. -/
def walshSiegenthalerCard : Claim7 := { stood := { row := walshSiegenthalerRow, standIns := [], harness := (true, "1bdd4555b835879820f5825f49a9a126d581a5439c00926851fefbbf51a83008"), looks := false }, kinds := [], alts := [], laidByText := true, laidKinds := [.data], laidTests := true, laidLooks := .later }
def WalshSiegenthalerCardSaid : Prop := Claim7.holds Tryd.pinned (.plain (OpenSpec.ofChange walshSiegenthalerSpec)) walshSiegenthalerCard

/-- THE SECOND FORM's CARD OF 'lockwrightkeep.WalshRothaus'. -/
def walshRothausUptoCard : Claim7 := { stood := { row := walshRothausUptoRow, standIns := [], harness := (true, "1bdd4555b835879820f5825f49a9a126d581a5439c00926851fefbbf51a83008"), looks := false }, kinds := [], alts := [], laidByText := true, laidKinds := [.data], laidTests := true, laidLooks := .later }
def WalshRothausUptoCardSaid : Prop := Claim7.holds Tryd.pinned (.plain (OpenSpec.upto walshRothausSpec)) walshRothausUptoCard

/-- THE SECOND FORM's CARD OF 'lockwrightkeep.WalshSiegenthaler'. -/
def walshSiegenthalerUptoCard : Claim7 := { stood := { row := walshSiegenthalerUptoRow, standIns := [], harness := (true, "1bdd4555b835879820f5825f49a9a126d581a5439c00926851fefbbf51a83008"), looks := false }, kinds := [], alts := [], laidByText := true, laidKinds := [.data], laidTests := true, laidLooks := .later }
def WalshSiegenthalerUptoCardSaid : Prop := Claim7.holds Tryd.pinned (.plain (OpenSpec.upto walshSiegenthalerSpec)) walshSiegenthalerUptoCard
end Rows
end Go.Proofs.YtabhmhojlhagcaaDoor
