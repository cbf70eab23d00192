/-
  DERIVED. GIVEN WITH THE SEED: THE CARDS: each row of YtmcifcmlojonnaaGreatDoorRows.lean that lists a variable, with what it lists TIED to the program's text (the seventh form; the later family's looks); each row that meets fmt, with fmt's text TOLD by the authors' own Lean function (tested against real Go, not proved from fmt's source: count such statements apart). THE CARD IS WHAT COUNTS. Prove the row's statement (the work); the ties are given (YtmcifcmlojonnaaGreatDoorTie.lean); close each card by the builder's one call (the guide's Derived/Test/ToyasCard.lean, 'card_holds'). Laid BY PROGRAM, IN A SANDBOX (cutbox-door.mjs). By AI agents, Wed Nov 11 2026. No macro, syntax, notation, axiom, sorry.
-/
import Derived.Test.YtmcifcmlojonnaaGreatDoorRows
import GoSem.ClaimSeven
namespace Go.Proofs.YtmcifcmlojonnaaGreatDoor
namespace Rows

/-- THE TIED CARD OF 'pantomimelaw33.ArrayLength'. -/
def arrayLengthCard : Claim7 := { stood := { row := arrayLengthRow, standIns := [], harness := (true, "8fc4081e70bb5996687453d3cb1d4762edd71ca6124e00e1c00d80897b3a306e"), looks := false }, kinds := [], alts := [], laidByText := true, laidKinds := [.data], laidTests := true, laidLooks := .later }
def ArrayLengthCardSaid : Prop := Claim7.holds Tryz.pinned (.plain (OpenSpec.ofChange arrayLengthSpec)) arrayLengthCard

/-- THE TIED CARD OF 'pantomimelaw33.ArrayOrder'. -/
def arrayOrderCard : Claim7 := { stood := { row := arrayOrderRow, standIns := [], harness := (true, "8fc4081e70bb5996687453d3cb1d4762edd71ca6124e00e1c00d80897b3a306e"), looks := false }, kinds := [], alts := [], laidByText := true, laidKinds := [.data], laidTests := true, laidLooks := .later }
def ArrayOrderCardSaid : Prop := Claim7.holds Tryz.pinned (.plain (OpenSpec.ofChange arrayOrderSpec)) arrayOrderCard

/-- THE TIED CARD OF 'pantomimelaw33.ArrayPlays'. -/
def arrayPlaysCard : Claim7 := { stood := { row := arrayPlaysRow, standIns := [], harness := (true, "8fc4081e70bb5996687453d3cb1d4762edd71ca6124e00e1c00d80897b3a306e"), looks := false }, kinds := [], alts := [], laidByText := true, laidKinds := [.data], laidTests := true, laidLooks := .later }
def ArrayPlaysCardSaid : Prop := Claim7.holds Tryz.pinned (.plain (OpenSpec.ofChange arrayPlaysSpec)) arrayPlaysCard

/-- THE SECOND FORM's CARD OF 'pantomimelaw33.ArrayLength'. -/
def arrayLengthUptoCard : Claim7 := { stood := { row := arrayLengthUptoRow, standIns := [], harness := (true, "8fc4081e70bb5996687453d3cb1d4762edd71ca6124e00e1c00d80897b3a306e"), looks := false }, kinds := [], alts := [], laidByText := true, laidKinds := [.data], laidTests := true, laidLooks := .later }
def ArrayLengthUptoCardSaid : Prop := Claim7.holds Tryz.pinned (.plain (OpenSpec.upto arrayLengthSpec)) arrayLengthUptoCard

/-- THE SECOND FORM's CARD OF 'pantomimelaw33.ArrayOrder'. -/
def arrayOrderUptoCard : Claim7 := { stood := { row := arrayOrderUptoRow, standIns := [], harness := (true, "8fc4081e70bb5996687453d3cb1d4762edd71ca6124e00e1c00d80897b3a306e"), looks := false }, kinds := [], alts := [], laidByText := true, laidKinds := [.data], laidTests := true, laidLooks := .later }
def ArrayOrderUptoCardSaid : Prop := Claim7.holds Tryz.pinned (.plain (OpenSpec.upto arrayOrderSpec)) arrayOrderUptoCard

/-- THE SECOND FORM's CARD OF 'pantomimelaw33.ArrayPlays'. -/
def arrayPlaysUptoCard : Claim7 := { stood := { row := arrayPlaysUptoRow, standIns := [], harness := (true, "8fc4081e70bb5996687453d3cb1d4762edd71ca6124e00e1c00d80897b3a306e"), looks := false }, kinds := [], alts := [], laidByText := true, laidKinds := [.data], laidTests := true, laidLooks := .later }
def ArrayPlaysUptoCardSaid : Prop := Claim7.holds Tryz.pinned (.plain (OpenSpec.upto arrayPlaysSpec)) arrayPlaysUptoCard
end Rows
end Go.Proofs.YtmcifcmlojonnaaGreatDoor
