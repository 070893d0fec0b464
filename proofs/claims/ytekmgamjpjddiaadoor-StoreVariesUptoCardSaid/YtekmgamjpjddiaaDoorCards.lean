/-
  DERIVED. GIVEN WITH THE SEED: THE CARDS: each row of YtekmgamjpjddiaaDoorRows.lean that lists a variable, with what it lists TIED to the program's text (the seventh form; the later family's looks); each row that meets fmt, with fmt's text TOLD by the authors' own Lean function (tested against real Go, not proved from fmt's source: count such statements apart). THE CARD IS WHAT COUNTS. Prove the row's statement (the work); the ties are given (YtekmgamjpjddiaaDoorTie.lean); close each card by the builder's one call (the guide's Derived/Test/ToyasCard.lean, 'card_holds'). Laid BY PROGRAM, IN A SANDBOX (cutbox-door.mjs). By AI agents, Wed Nov 11 2026. No macro, syntax, notation, axiom, sorry.
-/
import Derived.Test.YtekmgamjpjddiaaDoorRows
import GoSem.ClaimSeven
namespace Go.Proofs.YtekmgamjpjddiaaDoor
namespace Rows

/-- THE TIED CARD OF 'tolllaw3.StoreTells'. -/
def storeTellsCard : Claim7 := { stood := { row := storeTellsRow, standIns := [], harness := (true, "d2f3e17a59c00b78c21e2403fa67ee818cc34b84592e61bee804394f4518c916"), looks := true }, kinds := [], alts := [], laidByText := true, laidKinds := [.data, .data, .data, .data, .sentinel, .sentinel, .pinned], laidTests := true, laidLooks := .later }
def StoreTellsCardSaid : Prop := Claim7.holds Tryd.pinned (.plain (OpenSpec.ofChange storeTellsSpec)) storeTellsCard

/-- THE TIED CARD OF 'tolllaw5.StoreVaries'. -/
def storeVariesCard : Claim7 := { stood := { row := storeVariesRow, standIns := [], harness := (true, "d2f3e17a59c00b78c21e2403fa67ee818cc34b84592e61bee804394f4518c916"), looks := true }, kinds := [], alts := [], laidByText := true, laidKinds := [.data, .data, .data, .data, .sentinel, .sentinel, .pinned], laidTests := true, laidLooks := .later }
def StoreVariesCardSaid : Prop := Claim7.holds Tryd.pinned (.plain (OpenSpec.ofChange storeVariesSpec)) storeVariesCard

/-- THE SECOND FORM's CARD OF 'tolllaw3.StoreTells'. -/
def storeTellsUptoCard : Claim7 := { stood := { row := storeTellsUptoRow, standIns := [], harness := (true, "d2f3e17a59c00b78c21e2403fa67ee818cc34b84592e61bee804394f4518c916"), looks := true }, kinds := [], alts := [], laidByText := true, laidKinds := [.data, .data, .data, .data, .sentinel, .sentinel, .pinned], laidTests := true, laidLooks := .later }
def StoreTellsUptoCardSaid : Prop := Claim7.holds Tryd.pinned (.plain (OpenSpec.upto storeTellsSpec)) storeTellsUptoCard

/-- THE SECOND FORM's CARD OF 'tolllaw5.StoreVaries'. -/
def storeVariesUptoCard : Claim7 := { stood := { row := storeVariesUptoRow, standIns := [], harness := (true, "d2f3e17a59c00b78c21e2403fa67ee818cc34b84592e61bee804394f4518c916"), looks := true }, kinds := [], alts := [], laidByText := true, laidKinds := [.data, .data, .data, .data, .sentinel, .sentinel, .pinned], laidTests := true, laidLooks := .later }
def StoreVariesUptoCardSaid : Prop := Claim7.holds Tryd.pinned (.plain (OpenSpec.upto storeVariesSpec)) storeVariesUptoCard
end Rows
end Go.Proofs.YtekmgamjpjddiaaDoor
