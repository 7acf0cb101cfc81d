/-
  DERIVED. GIVEN WITH THE SEED: THE CARDS: each row of YtahfcgjlcdbnjaaGreatDoorRows.lean that lists a variable, with what it lists TIED to the program's text (the seventh form; the later family's looks); each row that meets fmt, with fmt's text TOLD by the authors' own Lean function (tested against real Go, not proved from fmt's source: count such statements apart). THE CARD IS WHAT COUNTS. Prove the row's statement (the work); the ties are given (YtahfcgjlcdbnjaaGreatDoorTie.lean); close each card by the builder's one call (the guide's Derived/Test/ToyasCard.lean, 'card_holds'). Laid BY PROGRAM, IN A SANDBOX (cutbox-door.mjs). By AI agents, Wed Nov 11 2026. No macro, syntax, notation, axiom, sorry.
-/
import Derived.Test.YtahfcgjlcdbnjaaGreatDoorRows
import GoSem.ClaimSeven
namespace Go.Proofs.YtahfcgjlcdbnjaaGreatDoor
namespace Rows

/-- THE TIED CARD OF 'stencillaw04.XdmPrefixes'. -/
def xdmPrefixesCard : Claim7 := { stood := { row := xdmPrefixesRow, standIns := [], harness := (true, "bcab81350f6baa36f143e372a24114eec5a89880371d1c5513708d406c696b0f"), looks := true }, kinds := [], alts := [], laidByText := true, laidKinds := [.data, .data, .data, .data, .sentinel, .sentinel, .data, .data, .pinned, .pinned], laidTests := true, laidLooks := .later }
def XdmPrefixesCardSaid : Prop := Claim7.holds Tryz.pinned (.plain (OpenSpec.ofChange xdmPrefixesSpec)) xdmPrefixesCard

/-- THE TIED CARD OF 'stencillaw04.XdmBuilds'. -/
def xdmBuildsCard : Claim7 := { stood := { row := xdmBuildsRow, standIns := [], harness := (true, "bcab81350f6baa36f143e372a24114eec5a89880371d1c5513708d406c696b0f"), looks := true }, kinds := [], alts := [], laidByText := true, laidKinds := [.data, .data, .data, .data, .sentinel, .sentinel, .data, .data, .pinned, .pinned], laidTests := true, laidLooks := .later }
def XdmBuildsCardSaid : Prop := Claim7.holds Tryz.pinned (.plain (OpenSpec.ofChange xdmBuildsSpec)) xdmBuildsCard

/-- THE TIED CARD OF 'stenciltop.TopEntities'. -/
def topEntitiesCard : Claim7 := { stood := { row := topEntitiesRow, standIns := [], harness := (true, "bcab81350f6baa36f143e372a24114eec5a89880371d1c5513708d406c696b0f"), looks := true }, kinds := [], alts := [], laidByText := true, laidKinds := [.data, .data, .data, .data, .sentinel, .sentinel, .data, .data, .pinned, .pinned], laidTests := true, laidLooks := .later }
def TopEntitiesCardSaid : Prop := Claim7.holds Tryz.pinned (.plain (OpenSpec.ofChange topEntitiesSpec)) topEntitiesCard

/-- THE TIED CARD OF 'stencillaw04.XdmNone'. -/
def xdmNoneCard : Claim7 := { stood := { row := xdmNoneRow, standIns := [], harness := (true, "bcab81350f6baa36f143e372a24114eec5a89880371d1c5513708d406c696b0f"), looks := true }, kinds := [], alts := [], laidByText := true, laidKinds := [.data, .data, .data, .data, .sentinel, .sentinel, .data, .data, .pinned, .pinned], laidTests := true, laidLooks := .later }
def XdmNoneCardSaid : Prop := Claim7.holds Tryz.pinned (.plain (OpenSpec.ofChange xdmNoneSpec)) xdmNoneCard

/-- THE SECOND FORM's CARD OF 'stencillaw04.XdmPrefixes'. -/
def xdmPrefixesUptoCard : Claim7 := { stood := { row := xdmPrefixesUptoRow, standIns := [], harness := (true, "bcab81350f6baa36f143e372a24114eec5a89880371d1c5513708d406c696b0f"), looks := true }, kinds := [], alts := [], laidByText := true, laidKinds := [.data, .data, .data, .data, .sentinel, .sentinel, .data, .data, .pinned, .pinned], laidTests := true, laidLooks := .later }
def XdmPrefixesUptoCardSaid : Prop := Claim7.holds Tryz.pinned (.plain (OpenSpec.upto xdmPrefixesSpec)) xdmPrefixesUptoCard

/-- THE SECOND FORM's CARD OF 'stencillaw04.XdmBuilds'. -/
def xdmBuildsUptoCard : Claim7 := { stood := { row := xdmBuildsUptoRow, standIns := [], harness := (true, "bcab81350f6baa36f143e372a24114eec5a89880371d1c5513708d406c696b0f"), looks := true }, kinds := [], alts := [], laidByText := true, laidKinds := [.data, .data, .data, .data, .sentinel, .sentinel, .data, .data, .pinned, .pinned], laidTests := true, laidLooks := .later }
def XdmBuildsUptoCardSaid : Prop := Claim7.holds Tryz.pinned (.plain (OpenSpec.upto xdmBuildsSpec)) xdmBuildsUptoCard

/-- THE SECOND FORM's CARD OF 'stenciltop.TopEntities'. -/
def topEntitiesUptoCard : Claim7 := { stood := { row := topEntitiesUptoRow, standIns := [], harness := (true, "bcab81350f6baa36f143e372a24114eec5a89880371d1c5513708d406c696b0f"), looks := true }, kinds := [], alts := [], laidByText := true, laidKinds := [.data, .data, .data, .data, .sentinel, .sentinel, .data, .data, .pinned, .pinned], laidTests := true, laidLooks := .later }
def TopEntitiesUptoCardSaid : Prop := Claim7.holds Tryz.pinned (.plain (OpenSpec.upto topEntitiesSpec)) topEntitiesUptoCard

/-- THE SECOND FORM's CARD OF 'stencillaw04.XdmNone'. -/
def xdmNoneUptoCard : Claim7 := { stood := { row := xdmNoneUptoRow, standIns := [], harness := (true, "bcab81350f6baa36f143e372a24114eec5a89880371d1c5513708d406c696b0f"), looks := true }, kinds := [], alts := [], laidByText := true, laidKinds := [.data, .data, .data, .data, .sentinel, .sentinel, .data, .data, .pinned, .pinned], laidTests := true, laidLooks := .later }
def XdmNoneUptoCardSaid : Prop := Claim7.holds Tryz.pinned (.plain (OpenSpec.upto xdmNoneSpec)) xdmNoneUptoCard
end Rows
end Go.Proofs.YtahfcgjlcdbnjaaGreatDoor
