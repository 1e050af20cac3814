/-
  DERIVED. GIVEN WITH THE SEED: THE CARDS: each row of YtmleipmilmeclaaDoorRows.lean that lists a variable, with what it lists TIED to the program's text (the seventh form; the later family's looks); each row that meets fmt, with fmt's text TOLD by the authors' own Lean function (tested against real Go, not proved from fmt's source: count such statements apart). THE CARD IS WHAT COUNTS. Prove the row's statement (the work); the ties are given (YtmleipmilmeclaaDoorTie.lean); close each card by the builder's one call (the guide's Derived/Test/ToyasCard.lean, 'card_holds'). Laid BY PROGRAM, IN A SANDBOX (cutbox-door.mjs). By AI agents, Wed Nov 11 2026. No macro, syntax, notation, axiom, sorry.
-/
import Derived.Test.YtmleipmilmeclaaDoorRows
import GoSem.ClaimSeven
namespace Go.Proofs.YtmleipmilmeclaaDoor
namespace Rows

/-- THE TIED CARD OF 'davenportlaw13.MonoidComes'. -/
def monoidComesCard : Claim7 := { stood := { row := monoidComesRow, standIns := [], harness := (true, "9071090ca72097a1b72a67fa5cef1b4b669912c84d61fa4176b684445ba293ad"), looks := false }, kinds := [], alts := [], laidByText := true, laidKinds := [.data], laidTests := true, laidLooks := .later }
def MonoidComesCardSaid : Prop := Claim7.holds Tryd.pinned (.plain (OpenSpec.ofChange monoidComesSpec)) monoidComesCard

/-- THE TIED CARD OF 'davenportlaw13.MonoidSmall'. -/
def monoidSmallCard : Claim7 := { stood := { row := monoidSmallRow, standIns := [], harness := (true, "9071090ca72097a1b72a67fa5cef1b4b669912c84d61fa4176b684445ba293ad"), looks := false }, kinds := [], alts := [], laidByText := true, laidKinds := [.data], laidTests := true, laidLooks := .later }
def MonoidSmallCardSaid : Prop := Claim7.holds Tryd.pinned (.plain (OpenSpec.ofChange monoidSmallSpec)) monoidSmallCard

/-- THE TIED CARD OF 'davenportlaw04.ValueMakes'. -/
def valueMakesCard : Claim7 := { stood := { row := valueMakesRow, standIns := [], harness := (true, "9071090ca72097a1b72a67fa5cef1b4b669912c84d61fa4176b684445ba293ad"), looks := false }, kinds := [], alts := [], laidByText := true, laidKinds := [.data], laidTests := true, laidLooks := .later }
def ValueMakesCardSaid : Prop := Claim7.holds Tryd.pinned (.plain (OpenSpec.ofChange valueMakesSpec)) valueMakesCard

/-- THE SECOND FORM's CARD OF 'davenportlaw13.MonoidComes'. -/
def monoidComesUptoCard : Claim7 := { stood := { row := monoidComesUptoRow, standIns := [], harness := (true, "9071090ca72097a1b72a67fa5cef1b4b669912c84d61fa4176b684445ba293ad"), looks := false }, kinds := [], alts := [], laidByText := true, laidKinds := [.data], laidTests := true, laidLooks := .later }
def MonoidComesUptoCardSaid : Prop := Claim7.holds Tryd.pinned (.plain (OpenSpec.upto monoidComesSpec)) monoidComesUptoCard

/-- THE SECOND FORM's CARD OF 'davenportlaw13.MonoidSmall'. -/
def monoidSmallUptoCard : Claim7 := { stood := { row := monoidSmallUptoRow, standIns := [], harness := (true, "9071090ca72097a1b72a67fa5cef1b4b669912c84d61fa4176b684445ba293ad"), looks := false }, kinds := [], alts := [], laidByText := true, laidKinds := [.data], laidTests := true, laidLooks := .later }
def MonoidSmallUptoCardSaid : Prop := Claim7.holds Tryd.pinned (.plain (OpenSpec.upto monoidSmallSpec)) monoidSmallUptoCard

/-- THE SECOND FORM's CARD OF 'davenportlaw04.ValueMakes'. -/
def valueMakesUptoCard : Claim7 := { stood := { row := valueMakesUptoRow, standIns := [], harness := (true, "9071090ca72097a1b72a67fa5cef1b4b669912c84d61fa4176b684445ba293ad"), looks := false }, kinds := [], alts := [], laidByText := true, laidKinds := [.data], laidTests := true, laidLooks := .later }
def ValueMakesUptoCardSaid : Prop := Claim7.holds Tryd.pinned (.plain (OpenSpec.upto valueMakesSpec)) valueMakesUptoCard
end Rows
end Go.Proofs.YtmleipmilmeclaaDoor
