/-
  DERIVED. GIVEN WITH THE SEED: THE CARDS: each row of YtalmkfikfmpmoaaGreatDoorRows.lean that lists a variable, with what it lists TIED to the program's text (the seventh form; the later family's looks); each row that meets fmt, with fmt's text TOLD by the authors' own Lean function (tested against real Go, not proved from fmt's source: count such statements apart). THE CARD IS WHAT COUNTS. Prove the row's statement (the work); the ties are given (YtalmkfikfmpmoaaGreatDoorTie.lean); close each card by the builder's one call (the guide's Derived/Test/ToyasCard.lean, 'card_holds'). Laid BY PROGRAM, IN A SANDBOX (cutbox-door.mjs). By AI agents, Wed Nov 11 2026. No macro, syntax, notation, axiom, sorry.
-/
import Derived.Test.YtalmkfikfmpmoaaGreatDoorRows
import GoSem.ClaimSeven
namespace Go.Proofs.YtalmkfikfmpmoaaGreatDoor
namespace Rows

/-- THE TIED CARD OF 'stencillaw03.XmlscanEntities'. -/
def xmlscanEntitiesCard : Claim7 := { stood := { row := xmlscanEntitiesRow, standIns := [], harness := (true, "395e17ad2ad75ea804007376e94cfcf367dd90c1c2c86892d96dac7dce29863d"), looks := true }, kinds := [], alts := [], laidByText := true, laidKinds := [.data, .data, .data, .data, .sentinel, .sentinel, .data, .data, .pinned, .pinned], laidTests := true, laidLooks := .later }
def XmlscanEntitiesCardSaid : Prop := Claim7.holds Tryz.pinned (.plain (OpenSpec.ofChange xmlscanEntitiesSpec)) xmlscanEntitiesCard

/-- THE TIED CARD OF 'stencillaw03.XmlscanCdata'. -/
def xmlscanCdataCard : Claim7 := { stood := { row := xmlscanCdataRow, standIns := [], harness := (true, "395e17ad2ad75ea804007376e94cfcf367dd90c1c2c86892d96dac7dce29863d"), looks := true }, kinds := [], alts := [], laidByText := true, laidKinds := [.data, .data, .data, .data, .sentinel, .sentinel, .data, .data, .pinned, .pinned], laidTests := true, laidLooks := .later }
def XmlscanCdataCardSaid : Prop := Claim7.holds Tryz.pinned (.plain (OpenSpec.ofChange xmlscanCdataSpec)) xmlscanCdataCard

/-- THE TIED CARD OF 'stencillaw03.XmlscanOwn'. -/
def xmlscanOwnCard : Claim7 := { stood := { row := xmlscanOwnRow, standIns := [], harness := (true, "395e17ad2ad75ea804007376e94cfcf367dd90c1c2c86892d96dac7dce29863d"), looks := true }, kinds := [], alts := [], laidByText := true, laidKinds := [.data, .data, .data, .data, .sentinel, .sentinel, .data, .data, .pinned, .pinned], laidTests := true, laidLooks := .later }
def XmlscanOwnCardSaid : Prop := Claim7.holds Tryz.pinned (.plain (OpenSpec.ofChange xmlscanOwnSpec)) xmlscanOwnCard

/-- THE TIED CARD OF 'stencillaw03.XmlscanTexts'. -/
def xmlscanTextsCard : Claim7 := { stood := { row := xmlscanTextsRow, standIns := [], harness := (true, "395e17ad2ad75ea804007376e94cfcf367dd90c1c2c86892d96dac7dce29863d"), looks := true }, kinds := [], alts := [], laidByText := true, laidKinds := [.data, .data, .data, .data, .sentinel, .sentinel, .data, .data, .pinned, .pinned], laidTests := true, laidLooks := .later }
def XmlscanTextsCardSaid : Prop := Claim7.holds Tryz.pinned (.plain (OpenSpec.ofChange xmlscanTextsSpec)) xmlscanTextsCard

/-- THE TIED CARD OF 'stencillaw03.XmlscanWrites'. -/
def xmlscanWritesCard : Claim7 := { stood := { row := xmlscanWritesRow, standIns := [], harness := (true, "395e17ad2ad75ea804007376e94cfcf367dd90c1c2c86892d96dac7dce29863d"), looks := true }, kinds := [], alts := [], laidByText := true, laidKinds := [.data, .data, .data, .data, .sentinel, .sentinel, .data, .data, .pinned, .pinned], laidTests := true, laidLooks := .later }
def XmlscanWritesCardSaid : Prop := Claim7.holds Tryz.pinned (.plain (OpenSpec.ofChange xmlscanWritesSpec)) xmlscanWritesCard

/-- THE TIED CARD OF 'stencillaw03.XmlscanBack'. -/
def xmlscanBackCard : Claim7 := { stood := { row := xmlscanBackRow, standIns := [], harness := (true, "395e17ad2ad75ea804007376e94cfcf367dd90c1c2c86892d96dac7dce29863d"), looks := true }, kinds := [], alts := [], laidByText := true, laidKinds := [.data, .data, .data, .data, .sentinel, .sentinel, .data, .data, .pinned, .pinned], laidTests := true, laidLooks := .later }
def XmlscanBackCardSaid : Prop := Claim7.holds Tryz.pinned (.plain (OpenSpec.ofChange xmlscanBackSpec)) xmlscanBackCard

/-- THE TIED CARD OF 'stencillaw03.XmlscanAgain'. -/
def xmlscanAgainCard : Claim7 := { stood := { row := xmlscanAgainRow, standIns := [], harness := (true, "395e17ad2ad75ea804007376e94cfcf367dd90c1c2c86892d96dac7dce29863d"), looks := true }, kinds := [], alts := [], laidByText := true, laidKinds := [.data, .data, .data, .data, .sentinel, .sentinel, .data, .data, .pinned, .pinned], laidTests := true, laidLooks := .later }
def XmlscanAgainCardSaid : Prop := Claim7.holds Tryz.pinned (.plain (OpenSpec.ofChange xmlscanAgainSpec)) xmlscanAgainCard

/-- THE TIED CARD OF 'stencillaw03.XmlscanCuts'. -/
def xmlscanCutsCard : Claim7 := { stood := { row := xmlscanCutsRow, standIns := [], harness := (true, "395e17ad2ad75ea804007376e94cfcf367dd90c1c2c86892d96dac7dce29863d"), looks := true }, kinds := [], alts := [], laidByText := true, laidKinds := [.data, .data, .data, .data, .sentinel, .sentinel, .data, .data, .pinned, .pinned], laidTests := true, laidLooks := .later }
def XmlscanCutsCardSaid : Prop := Claim7.holds Tryz.pinned (.plain (OpenSpec.ofChange xmlscanCutsSpec)) xmlscanCutsCard

/-- THE SECOND FORM's CARD OF 'stencillaw03.XmlscanEntities'. -/
def xmlscanEntitiesUptoCard : Claim7 := { stood := { row := xmlscanEntitiesUptoRow, standIns := [], harness := (true, "395e17ad2ad75ea804007376e94cfcf367dd90c1c2c86892d96dac7dce29863d"), looks := true }, kinds := [], alts := [], laidByText := true, laidKinds := [.data, .data, .data, .data, .sentinel, .sentinel, .data, .data, .pinned, .pinned], laidTests := true, laidLooks := .later }
def XmlscanEntitiesUptoCardSaid : Prop := Claim7.holds Tryz.pinned (.plain (OpenSpec.upto xmlscanEntitiesSpec)) xmlscanEntitiesUptoCard

/-- THE SECOND FORM's CARD OF 'stencillaw03.XmlscanCdata'. -/
def xmlscanCdataUptoCard : Claim7 := { stood := { row := xmlscanCdataUptoRow, standIns := [], harness := (true, "395e17ad2ad75ea804007376e94cfcf367dd90c1c2c86892d96dac7dce29863d"), looks := true }, kinds := [], alts := [], laidByText := true, laidKinds := [.data, .data, .data, .data, .sentinel, .sentinel, .data, .data, .pinned, .pinned], laidTests := true, laidLooks := .later }
def XmlscanCdataUptoCardSaid : Prop := Claim7.holds Tryz.pinned (.plain (OpenSpec.upto xmlscanCdataSpec)) xmlscanCdataUptoCard

/-- THE SECOND FORM's CARD OF 'stencillaw03.XmlscanOwn'. -/
def xmlscanOwnUptoCard : Claim7 := { stood := { row := xmlscanOwnUptoRow, standIns := [], harness := (true, "395e17ad2ad75ea804007376e94cfcf367dd90c1c2c86892d96dac7dce29863d"), looks := true }, kinds := [], alts := [], laidByText := true, laidKinds := [.data, .data, .data, .data, .sentinel, .sentinel, .data, .data, .pinned, .pinned], laidTests := true, laidLooks := .later }
def XmlscanOwnUptoCardSaid : Prop := Claim7.holds Tryz.pinned (.plain (OpenSpec.upto xmlscanOwnSpec)) xmlscanOwnUptoCard

/-- THE SECOND FORM's CARD OF 'stencillaw03.XmlscanTexts'. -/
def xmlscanTextsUptoCard : Claim7 := { stood := { row := xmlscanTextsUptoRow, standIns := [], harness := (true, "395e17ad2ad75ea804007376e94cfcf367dd90c1c2c86892d96dac7dce29863d"), looks := true }, kinds := [], alts := [], laidByText := true, laidKinds := [.data, .data, .data, .data, .sentinel, .sentinel, .data, .data, .pinned, .pinned], laidTests := true, laidLooks := .later }
def XmlscanTextsUptoCardSaid : Prop := Claim7.holds Tryz.pinned (.plain (OpenSpec.upto xmlscanTextsSpec)) xmlscanTextsUptoCard

/-- THE SECOND FORM's CARD OF 'stencillaw03.XmlscanWrites'. -/
def xmlscanWritesUptoCard : Claim7 := { stood := { row := xmlscanWritesUptoRow, standIns := [], harness := (true, "395e17ad2ad75ea804007376e94cfcf367dd90c1c2c86892d96dac7dce29863d"), looks := true }, kinds := [], alts := [], laidByText := true, laidKinds := [.data, .data, .data, .data, .sentinel, .sentinel, .data, .data, .pinned, .pinned], laidTests := true, laidLooks := .later }
def XmlscanWritesUptoCardSaid : Prop := Claim7.holds Tryz.pinned (.plain (OpenSpec.upto xmlscanWritesSpec)) xmlscanWritesUptoCard

/-- THE SECOND FORM's CARD OF 'stencillaw03.XmlscanBack'. -/
def xmlscanBackUptoCard : Claim7 := { stood := { row := xmlscanBackUptoRow, standIns := [], harness := (true, "395e17ad2ad75ea804007376e94cfcf367dd90c1c2c86892d96dac7dce29863d"), looks := true }, kinds := [], alts := [], laidByText := true, laidKinds := [.data, .data, .data, .data, .sentinel, .sentinel, .data, .data, .pinned, .pinned], laidTests := true, laidLooks := .later }
def XmlscanBackUptoCardSaid : Prop := Claim7.holds Tryz.pinned (.plain (OpenSpec.upto xmlscanBackSpec)) xmlscanBackUptoCard

/-- THE SECOND FORM's CARD OF 'stencillaw03.XmlscanAgain'. -/
def xmlscanAgainUptoCard : Claim7 := { stood := { row := xmlscanAgainUptoRow, standIns := [], harness := (true, "395e17ad2ad75ea804007376e94cfcf367dd90c1c2c86892d96dac7dce29863d"), looks := true }, kinds := [], alts := [], laidByText := true, laidKinds := [.data, .data, .data, .data, .sentinel, .sentinel, .data, .data, .pinned, .pinned], laidTests := true, laidLooks := .later }
def XmlscanAgainUptoCardSaid : Prop := Claim7.holds Tryz.pinned (.plain (OpenSpec.upto xmlscanAgainSpec)) xmlscanAgainUptoCard

/-- THE SECOND FORM's CARD OF 'stencillaw03.XmlscanCuts'. -/
def xmlscanCutsUptoCard : Claim7 := { stood := { row := xmlscanCutsUptoRow, standIns := [], harness := (true, "395e17ad2ad75ea804007376e94cfcf367dd90c1c2c86892d96dac7dce29863d"), looks := true }, kinds := [], alts := [], laidByText := true, laidKinds := [.data, .data, .data, .data, .sentinel, .sentinel, .data, .data, .pinned, .pinned], laidTests := true, laidLooks := .later }
def XmlscanCutsUptoCardSaid : Prop := Claim7.holds Tryz.pinned (.plain (OpenSpec.upto xmlscanCutsSpec)) xmlscanCutsUptoCard
end Rows
end Go.Proofs.YtalmkfikfmpmoaaGreatDoor
