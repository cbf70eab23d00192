/-
  DERIVED. GIVEN WITH THE SEED: THE CARDS: each row of YtanojiedimeegaaGreatDoorRows.lean that lists a variable, with what it lists TIED to the program's text (the seventh form; the later family's looks); each row that meets fmt, with fmt's text TOLD by the authors' own Lean function (tested against real Go, not proved from fmt's source: count such statements apart). THE CARD IS WHAT COUNTS. Prove the row's statement (the work); the ties are given (YtanojiedimeegaaGreatDoorTie.lean); close each card by the builder's one call (the guide's Derived/Test/ToyasCard.lean, 'card_holds'). Laid BY PROGRAM, IN A SANDBOX (cutbox-door.mjs). By AI agents, Wed Nov 11 2026. No macro, syntax, notation, axiom, sorry.
-/
import Derived.Test.YtanojiedimeegaaGreatDoorRows
import GoSem.ClaimSeven
namespace Go.Proofs.YtanojiedimeegaaGreatDoor
namespace Rows

/-- THE TIED CARD OF 'pantomimelaw34.LookupReveals'. -/
def lookupRevealsCard : Claim7 := { stood := { row := lookupRevealsRow, standIns := [], harness := (true, "e7e1e7431076a73998c07bb4cbfdb4e3cab7964ba4666738c74b5ee9a220ac5f"), looks := false }, kinds := [], alts := [], laidByText := true, laidKinds := [.data], laidTests := true, laidLooks := .later }
def LookupRevealsCardSaid : Prop := Claim7.holds Tryz.pinned (.plain (OpenSpec.ofChange lookupRevealsSpec)) lookupRevealsCard

/-- THE TIED CARD OF 'pantomimelaw33.ArrayOthers'. -/
def arrayOthersCard : Claim7 := { stood := { row := arrayOthersRow, standIns := [], harness := (true, "e7e1e7431076a73998c07bb4cbfdb4e3cab7964ba4666738c74b5ee9a220ac5f"), looks := false }, kinds := [], alts := [], laidByText := true, laidKinds := [.data], laidTests := true, laidLooks := .later }
def ArrayOthersCardSaid : Prop := Claim7.holds Tryz.pinned (.plain (OpenSpec.ofChange arrayOthersSpec)) arrayOthersCard

/-- THE TIED CARD OF 'pantomimelaw33.ArrayNames'. -/
def arrayNamesCard : Claim7 := { stood := { row := arrayNamesRow, standIns := [], harness := (true, "e7e1e7431076a73998c07bb4cbfdb4e3cab7964ba4666738c74b5ee9a220ac5f"), looks := false }, kinds := [], alts := [], laidByText := true, laidKinds := [.data], laidTests := true, laidLooks := .later }
def ArrayNamesCardSaid : Prop := Claim7.holds Tryz.pinned (.plain (OpenSpec.ofChange arrayNamesSpec)) arrayNamesCard

/-- THE TIED CARD OF 'pantomimelaw35.IntegrityNobody'. -/
def integrityNobodyCard : Claim7 := { stood := { row := integrityNobodyRow, standIns := [], harness := (true, "e7e1e7431076a73998c07bb4cbfdb4e3cab7964ba4666738c74b5ee9a220ac5f"), looks := false }, kinds := [], alts := [], laidByText := true, laidKinds := [.data], laidTests := true, laidLooks := .later }
def IntegrityNobodyCardSaid : Prop := Claim7.holds Tryz.pinned (.plain (OpenSpec.ofChange integrityNobodySpec)) integrityNobodyCard

/-- THE TIED CARD OF 'pantomimelaw35.IntegrityOrder'. -/
def integrityOrderCard : Claim7 := { stood := { row := integrityOrderRow, standIns := [], harness := (true, "e7e1e7431076a73998c07bb4cbfdb4e3cab7964ba4666738c74b5ee9a220ac5f"), looks := false }, kinds := [], alts := [], laidByText := true, laidKinds := [.data], laidTests := true, laidLooks := .later }
def IntegrityOrderCardSaid : Prop := Claim7.holds Tryz.pinned (.plain (OpenSpec.ofChange integrityOrderSpec)) integrityOrderCard

/-- THE TIED CARD OF 'pantomimelaw35.IntegrityTells'. -/
def integrityTellsCard : Claim7 := { stood := { row := integrityTellsRow, standIns := [], harness := (true, "e7e1e7431076a73998c07bb4cbfdb4e3cab7964ba4666738c74b5ee9a220ac5f"), looks := false }, kinds := [], alts := [], laidByText := true, laidKinds := [.data], laidTests := true, laidLooks := .later }
def IntegrityTellsCardSaid : Prop := Claim7.holds Tryz.pinned (.plain (OpenSpec.ofChange integrityTellsSpec)) integrityTellsCard

/-- THE TIED CARD OF 'pantomimelaw35.IntegrityStays'. -/
def integrityStaysCard : Claim7 := { stood := { row := integrityStaysRow, standIns := [], harness := (true, "e7e1e7431076a73998c07bb4cbfdb4e3cab7964ba4666738c74b5ee9a220ac5f"), looks := false }, kinds := [], alts := [], laidByText := true, laidKinds := [.data], laidTests := true, laidLooks := .later }
def IntegrityStaysCardSaid : Prop := Claim7.holds Tryz.pinned (.plain (OpenSpec.ofChange integrityStaysSpec)) integrityStaysCard

/-- THE TIED CARD OF 'pantomimelaw34.LookupSets'. -/
def lookupSetsCard : Claim7 := { stood := { row := lookupSetsRow, standIns := [], harness := (true, "e7e1e7431076a73998c07bb4cbfdb4e3cab7964ba4666738c74b5ee9a220ac5f"), looks := false }, kinds := [], alts := [], laidByText := true, laidKinds := [.data], laidTests := true, laidLooks := .later }
def LookupSetsCardSaid : Prop := Claim7.holds Tryz.pinned (.plain (OpenSpec.ofChange lookupSetsSpec)) lookupSetsCard

/-- THE TIED CARD OF 'pantomimelaw34.LookupNone'. -/
def lookupNoneCard : Claim7 := { stood := { row := lookupNoneRow, standIns := [], harness := (true, "e7e1e7431076a73998c07bb4cbfdb4e3cab7964ba4666738c74b5ee9a220ac5f"), looks := false }, kinds := [], alts := [], laidByText := true, laidKinds := [.data, .data, .data, .data], laidTests := true, laidLooks := .later }
def LookupNoneCardSaid : Prop := Claim7.holds Tryz.pinned (.plain (OpenSpec.ofChange lookupNoneSpec)) lookupNoneCard

/-- THE SECOND FORM's CARD OF 'pantomimelaw34.LookupReveals'. -/
def lookupRevealsUptoCard : Claim7 := { stood := { row := lookupRevealsUptoRow, standIns := [], harness := (true, "e7e1e7431076a73998c07bb4cbfdb4e3cab7964ba4666738c74b5ee9a220ac5f"), looks := false }, kinds := [], alts := [], laidByText := true, laidKinds := [.data], laidTests := true, laidLooks := .later }
def LookupRevealsUptoCardSaid : Prop := Claim7.holds Tryz.pinned (.plain (OpenSpec.upto lookupRevealsSpec)) lookupRevealsUptoCard

/-- THE SECOND FORM's CARD OF 'pantomimelaw33.ArrayOthers'. -/
def arrayOthersUptoCard : Claim7 := { stood := { row := arrayOthersUptoRow, standIns := [], harness := (true, "e7e1e7431076a73998c07bb4cbfdb4e3cab7964ba4666738c74b5ee9a220ac5f"), looks := false }, kinds := [], alts := [], laidByText := true, laidKinds := [.data], laidTests := true, laidLooks := .later }
def ArrayOthersUptoCardSaid : Prop := Claim7.holds Tryz.pinned (.plain (OpenSpec.upto arrayOthersSpec)) arrayOthersUptoCard

/-- THE SECOND FORM's CARD OF 'pantomimelaw33.ArrayNames'. -/
def arrayNamesUptoCard : Claim7 := { stood := { row := arrayNamesUptoRow, standIns := [], harness := (true, "e7e1e7431076a73998c07bb4cbfdb4e3cab7964ba4666738c74b5ee9a220ac5f"), looks := false }, kinds := [], alts := [], laidByText := true, laidKinds := [.data], laidTests := true, laidLooks := .later }
def ArrayNamesUptoCardSaid : Prop := Claim7.holds Tryz.pinned (.plain (OpenSpec.upto arrayNamesSpec)) arrayNamesUptoCard

/-- THE SECOND FORM's CARD OF 'pantomimelaw35.IntegrityNobody'. -/
def integrityNobodyUptoCard : Claim7 := { stood := { row := integrityNobodyUptoRow, standIns := [], harness := (true, "e7e1e7431076a73998c07bb4cbfdb4e3cab7964ba4666738c74b5ee9a220ac5f"), looks := false }, kinds := [], alts := [], laidByText := true, laidKinds := [.data], laidTests := true, laidLooks := .later }
def IntegrityNobodyUptoCardSaid : Prop := Claim7.holds Tryz.pinned (.plain (OpenSpec.upto integrityNobodySpec)) integrityNobodyUptoCard

/-- THE SECOND FORM's CARD OF 'pantomimelaw35.IntegrityOrder'. -/
def integrityOrderUptoCard : Claim7 := { stood := { row := integrityOrderUptoRow, standIns := [], harness := (true, "e7e1e7431076a73998c07bb4cbfdb4e3cab7964ba4666738c74b5ee9a220ac5f"), looks := false }, kinds := [], alts := [], laidByText := true, laidKinds := [.data], laidTests := true, laidLooks := .later }
def IntegrityOrderUptoCardSaid : Prop := Claim7.holds Tryz.pinned (.plain (OpenSpec.upto integrityOrderSpec)) integrityOrderUptoCard

/-- THE SECOND FORM's CARD OF 'pantomimelaw35.IntegrityTells'. -/
def integrityTellsUptoCard : Claim7 := { stood := { row := integrityTellsUptoRow, standIns := [], harness := (true, "e7e1e7431076a73998c07bb4cbfdb4e3cab7964ba4666738c74b5ee9a220ac5f"), looks := false }, kinds := [], alts := [], laidByText := true, laidKinds := [.data], laidTests := true, laidLooks := .later }
def IntegrityTellsUptoCardSaid : Prop := Claim7.holds Tryz.pinned (.plain (OpenSpec.upto integrityTellsSpec)) integrityTellsUptoCard

/-- THE SECOND FORM's CARD OF 'pantomimelaw35.IntegrityStays'. -/
def integrityStaysUptoCard : Claim7 := { stood := { row := integrityStaysUptoRow, standIns := [], harness := (true, "e7e1e7431076a73998c07bb4cbfdb4e3cab7964ba4666738c74b5ee9a220ac5f"), looks := false }, kinds := [], alts := [], laidByText := true, laidKinds := [.data], laidTests := true, laidLooks := .later }
def IntegrityStaysUptoCardSaid : Prop := Claim7.holds Tryz.pinned (.plain (OpenSpec.upto integrityStaysSpec)) integrityStaysUptoCard

/-- THE SECOND FORM's CARD OF 'pantomimelaw34.LookupSets'. -/
def lookupSetsUptoCard : Claim7 := { stood := { row := lookupSetsUptoRow, standIns := [], harness := (true, "e7e1e7431076a73998c07bb4cbfdb4e3cab7964ba4666738c74b5ee9a220ac5f"), looks := false }, kinds := [], alts := [], laidByText := true, laidKinds := [.data], laidTests := true, laidLooks := .later }
def LookupSetsUptoCardSaid : Prop := Claim7.holds Tryz.pinned (.plain (OpenSpec.upto lookupSetsSpec)) lookupSetsUptoCard

/-- THE SECOND FORM's CARD OF 'pantomimelaw34.LookupNone'. -/
def lookupNoneUptoCard : Claim7 := { stood := { row := lookupNoneUptoRow, standIns := [], harness := (true, "e7e1e7431076a73998c07bb4cbfdb4e3cab7964ba4666738c74b5ee9a220ac5f"), looks := false }, kinds := [], alts := [], laidByText := true, laidKinds := [.data, .data, .data, .data], laidTests := true, laidLooks := .later }
def LookupNoneUptoCardSaid : Prop := Claim7.holds Tryz.pinned (.plain (OpenSpec.upto lookupNoneSpec)) lookupNoneUptoCard
end Rows
end Go.Proofs.YtanojiedimeegaaGreatDoor
