/-
  DERIVED. GIVEN WITH THE SEED: THE CARDS: each row of YtfmbpdacdopkgaaGreatDoorRows.lean that lists a variable, with what it lists TIED to the program's text (the seventh form; the later family's looks); each row that meets fmt, with fmt's text TOLD by the authors' own Lean function (tested against real Go, not proved from fmt's source: count such statements apart). THE CARD IS WHAT COUNTS. Prove the row's statement (the work); the ties are given (YtfmbpdacdopkgaaGreatDoorTie.lean); close each card by the builder's one call (the guide's Derived/Test/ToyasCard.lean, 'card_holds'). Laid BY PROGRAM, IN A SANDBOX (cutbox-door.mjs). By AI agents, Wed Nov 11 2026. No macro, syntax, notation, axiom, sorry.
-/
import Derived.Test.YtfmbpdacdopkgaaGreatDoorRows
import GoSem.ClaimSeven
namespace Go.Proofs.YtfmbpdacdopkgaaGreatDoor
namespace Rows

/-- THE TIED CARD OF 'winchlaw19.ImagePlaces'. -/
def imagePlacesCard : Claim7 := { stood := { row := imagePlacesRow, standIns := [], harness := (true, "b4112e3a2af30c3e665ec4e56c57d1224ad1db0fa0ef1e0ebd9f2f9ea86f62d4"), looks := true }, kinds := [], alts := [], laidByText := true, laidKinds := [.data, .data, .data, .sentinel, .sentinel, .mapped, .mapped], laidTests := true, laidLooks := .later }
def ImagePlacesCardSaid : Prop := Claim7.holds Tryz.pinned (.plain (OpenSpec.ofChange imagePlacesSpec)) imagePlacesCard

/-- THE TIED CARD OF 'winchlaw19.ImageScans'. -/
def imageScansCard : Claim7 := { stood := { row := imageScansRow, standIns := [], harness := (true, "b4112e3a2af30c3e665ec4e56c57d1224ad1db0fa0ef1e0ebd9f2f9ea86f62d4"), looks := true }, kinds := [], alts := [], laidByText := true, laidKinds := [.data, .data, .data, .sentinel, .sentinel, .mapped, .mapped], laidTests := true, laidLooks := .later }
def ImageScansCardSaid : Prop := Claim7.holds Tryz.pinned (.plain (OpenSpec.ofChange imageScansSpec)) imageScansCard

/-- THE TIED CARD OF 'winchlaw19.ImageDiffs'. -/
def imageDiffsCard : Claim7 := { stood := { row := imageDiffsRow, standIns := [], harness := (true, "b4112e3a2af30c3e665ec4e56c57d1224ad1db0fa0ef1e0ebd9f2f9ea86f62d4"), looks := true }, kinds := [], alts := [], laidByText := true, laidKinds := [.data, .data, .data, .sentinel, .sentinel, .mapped, .mapped], laidTests := true, laidLooks := .later }
def ImageDiffsCardSaid : Prop := Claim7.holds Tryz.pinned (.plain (OpenSpec.ofChange imageDiffsSpec)) imageDiffsCard

/-- THE TIED CARD OF 'winchlaw19.ImageSlots'. -/
def imageSlotsCard : Claim7 := { stood := { row := imageSlotsRow, standIns := [], harness := (true, "b4112e3a2af30c3e665ec4e56c57d1224ad1db0fa0ef1e0ebd9f2f9ea86f62d4"), looks := true }, kinds := [], alts := [], laidByText := true, laidKinds := [.data, .data, .data, .sentinel, .sentinel, .mapped, .mapped], laidTests := true, laidLooks := .later }
def ImageSlotsCardSaid : Prop := Claim7.holds Tryz.pinned (.plain (OpenSpec.ofChange imageSlotsSpec)) imageSlotsCard

/-- THE TIED CARD OF 'winchlaw19.ImageOnly'. -/
def imageOnlyCard : Claim7 := { stood := { row := imageOnlyRow, standIns := [], harness := (true, "b4112e3a2af30c3e665ec4e56c57d1224ad1db0fa0ef1e0ebd9f2f9ea86f62d4"), looks := true }, kinds := [], alts := [], laidByText := true, laidKinds := [.data, .data, .data, .sentinel, .sentinel, .mapped, .mapped], laidTests := true, laidLooks := .later }
def ImageOnlyCardSaid : Prop := Claim7.holds Tryz.pinned (.plain (OpenSpec.ofChange imageOnlySpec)) imageOnlyCard

/-- THE SECOND FORM's CARD OF 'winchlaw19.ImagePlaces'. -/
def imagePlacesUptoCard : Claim7 := { stood := { row := imagePlacesUptoRow, standIns := [], harness := (true, "b4112e3a2af30c3e665ec4e56c57d1224ad1db0fa0ef1e0ebd9f2f9ea86f62d4"), looks := true }, kinds := [], alts := [], laidByText := true, laidKinds := [.data, .data, .data, .sentinel, .sentinel, .mapped, .mapped], laidTests := true, laidLooks := .later }
def ImagePlacesUptoCardSaid : Prop := Claim7.holds Tryz.pinned (.plain (OpenSpec.upto imagePlacesSpec)) imagePlacesUptoCard

/-- THE SECOND FORM's CARD OF 'winchlaw19.ImageScans'. -/
def imageScansUptoCard : Claim7 := { stood := { row := imageScansUptoRow, standIns := [], harness := (true, "b4112e3a2af30c3e665ec4e56c57d1224ad1db0fa0ef1e0ebd9f2f9ea86f62d4"), looks := true }, kinds := [], alts := [], laidByText := true, laidKinds := [.data, .data, .data, .sentinel, .sentinel, .mapped, .mapped], laidTests := true, laidLooks := .later }
def ImageScansUptoCardSaid : Prop := Claim7.holds Tryz.pinned (.plain (OpenSpec.upto imageScansSpec)) imageScansUptoCard

/-- THE SECOND FORM's CARD OF 'winchlaw19.ImageDiffs'. -/
def imageDiffsUptoCard : Claim7 := { stood := { row := imageDiffsUptoRow, standIns := [], harness := (true, "b4112e3a2af30c3e665ec4e56c57d1224ad1db0fa0ef1e0ebd9f2f9ea86f62d4"), looks := true }, kinds := [], alts := [], laidByText := true, laidKinds := [.data, .data, .data, .sentinel, .sentinel, .mapped, .mapped], laidTests := true, laidLooks := .later }
def ImageDiffsUptoCardSaid : Prop := Claim7.holds Tryz.pinned (.plain (OpenSpec.upto imageDiffsSpec)) imageDiffsUptoCard

/-- THE SECOND FORM's CARD OF 'winchlaw19.ImageSlots'. -/
def imageSlotsUptoCard : Claim7 := { stood := { row := imageSlotsUptoRow, standIns := [], harness := (true, "b4112e3a2af30c3e665ec4e56c57d1224ad1db0fa0ef1e0ebd9f2f9ea86f62d4"), looks := true }, kinds := [], alts := [], laidByText := true, laidKinds := [.data, .data, .data, .sentinel, .sentinel, .mapped, .mapped], laidTests := true, laidLooks := .later }
def ImageSlotsUptoCardSaid : Prop := Claim7.holds Tryz.pinned (.plain (OpenSpec.upto imageSlotsSpec)) imageSlotsUptoCard

/-- THE SECOND FORM's CARD OF 'winchlaw19.ImageOnly'. -/
def imageOnlyUptoCard : Claim7 := { stood := { row := imageOnlyUptoRow, standIns := [], harness := (true, "b4112e3a2af30c3e665ec4e56c57d1224ad1db0fa0ef1e0ebd9f2f9ea86f62d4"), looks := true }, kinds := [], alts := [], laidByText := true, laidKinds := [.data, .data, .data, .sentinel, .sentinel, .mapped, .mapped], laidTests := true, laidLooks := .later }
def ImageOnlyUptoCardSaid : Prop := Claim7.holds Tryz.pinned (.plain (OpenSpec.upto imageOnlySpec)) imageOnlyUptoCard
end Rows
end Go.Proofs.YtfmbpdacdopkgaaGreatDoor
