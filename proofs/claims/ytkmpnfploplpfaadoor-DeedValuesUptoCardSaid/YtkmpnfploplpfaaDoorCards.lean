/-
  DERIVED. GIVEN WITH THE SEED: THE CARDS: each row of YtkmpnfploplpfaaDoorRows.lean that lists a variable, with what it lists TIED to the program's text (the seventh form; the later family's looks); each row that meets fmt, with fmt's text TOLD by the authors' own Lean function (tested against real Go, not proved from fmt's source: count such statements apart). THE CARD IS WHAT COUNTS. Prove the row's statement (the work); the ties are given (YtkmpnfploplpfaaDoorTie.lean); close each card by the builder's one call (the guide's Derived/Test/ToyasCard.lean, 'card_holds'). Laid BY PROGRAM, IN A SANDBOX (cutbox-door.mjs). By AI agents, Wed Nov 11 2026. No macro, syntax, notation, axiom, sorry.
-/
import Derived.Test.YtkmpnfploplpfaaDoorRows
import GoSem.ClaimSeven
namespace Go.Proofs.YtkmpnfploplpfaaDoor
namespace Rows

/-- THE TIED CARD OF 'roadkeep1.DeedBack'. -/
def deedBackCard : Claim7 := { stood := { row := deedBackRow, standIns := [], harness := (true, "3c965e4afd748d9d8a816f7e7373e3fc13a3731e14ccc6046d3e8e68ff9f3908"), looks := true }, kinds := [], alts := [], laidByText := true, laidKinds := [.data, .data, .data, .sentinel, .sentinel], laidTests := true, laidLooks := .later }
def DeedBackCardSaid : Prop := Claim7.holds Tryd.pinned (.plain (OpenSpec.ofChange deedBackSpec)) deedBackCard

/-- THE TIED CARD OF 'roadkeep1.DeedOnly'. -/
def deedOnlyCard : Claim7 := { stood := { row := deedOnlyRow, standIns := [], harness := (true, "3c965e4afd748d9d8a816f7e7373e3fc13a3731e14ccc6046d3e8e68ff9f3908"), looks := true }, kinds := [], alts := [], laidByText := true, laidKinds := [.data, .data, .data, .sentinel, .sentinel], laidTests := true, laidLooks := .later }
def DeedOnlyCardSaid : Prop := Claim7.holds Tryd.pinned (.plain (OpenSpec.ofChange deedOnlySpec)) deedOnlyCard

/-- THE TIED CARD OF 'roadkeep1.DeedValues'. -/
def deedValuesCard : Claim7 := { stood := { row := deedValuesRow, standIns := [], harness := (true, "3c965e4afd748d9d8a816f7e7373e3fc13a3731e14ccc6046d3e8e68ff9f3908"), looks := true }, kinds := [], alts := [], laidByText := true, laidKinds := [.data, .data, .data, .sentinel, .sentinel], laidTests := true, laidLooks := .later }
def DeedValuesCardSaid : Prop := Claim7.holds Tryd.pinned (.plain (OpenSpec.ofChange deedValuesSpec)) deedValuesCard

/-- THE SECOND FORM's CARD OF 'roadkeep1.DeedBack'. -/
def deedBackUptoCard : Claim7 := { stood := { row := deedBackUptoRow, standIns := [], harness := (true, "3c965e4afd748d9d8a816f7e7373e3fc13a3731e14ccc6046d3e8e68ff9f3908"), looks := true }, kinds := [], alts := [], laidByText := true, laidKinds := [.data, .data, .data, .sentinel, .sentinel], laidTests := true, laidLooks := .later }
def DeedBackUptoCardSaid : Prop := Claim7.holds Tryd.pinned (.plain (OpenSpec.upto deedBackSpec)) deedBackUptoCard

/-- THE SECOND FORM's CARD OF 'roadkeep1.DeedOnly'. -/
def deedOnlyUptoCard : Claim7 := { stood := { row := deedOnlyUptoRow, standIns := [], harness := (true, "3c965e4afd748d9d8a816f7e7373e3fc13a3731e14ccc6046d3e8e68ff9f3908"), looks := true }, kinds := [], alts := [], laidByText := true, laidKinds := [.data, .data, .data, .sentinel, .sentinel], laidTests := true, laidLooks := .later }
def DeedOnlyUptoCardSaid : Prop := Claim7.holds Tryd.pinned (.plain (OpenSpec.upto deedOnlySpec)) deedOnlyUptoCard

/-- THE SECOND FORM's CARD OF 'roadkeep1.DeedValues'. -/
def deedValuesUptoCard : Claim7 := { stood := { row := deedValuesUptoRow, standIns := [], harness := (true, "3c965e4afd748d9d8a816f7e7373e3fc13a3731e14ccc6046d3e8e68ff9f3908"), looks := true }, kinds := [], alts := [], laidByText := true, laidKinds := [.data, .data, .data, .sentinel, .sentinel], laidTests := true, laidLooks := .later }
def DeedValuesUptoCardSaid : Prop := Claim7.holds Tryd.pinned (.plain (OpenSpec.upto deedValuesSpec)) deedValuesUptoCard
end Rows
end Go.Proofs.YtkmpnfploplpfaaDoor
