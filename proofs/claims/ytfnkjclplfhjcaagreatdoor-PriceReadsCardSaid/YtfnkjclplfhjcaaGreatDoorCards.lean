/-
  DERIVED. GIVEN WITH THE SEED: THE CARDS: each row of YtfnkjclplfhjcaaGreatDoorRows.lean that lists a variable, with what it lists TIED to the program's text (the seventh form; the later family's looks); each row that meets fmt, with fmt's text TOLD by the authors' own Lean function (tested against real Go, not proved from fmt's source: count such statements apart). THE CARD IS WHAT COUNTS. Prove the row's statement (the work); the ties are given (YtfnkjclplfhjcaaGreatDoorTie.lean); close each card by the builder's one call (the guide's Derived/Test/ToyasCard.lean, 'card_holds'). Laid BY PROGRAM, IN A SANDBOX (cutbox-door.mjs). By AI agents, Wed Nov 11 2026. No macro, syntax, notation, axiom, sorry.
-/
import Derived.Test.YtfnkjclplfhjcaaGreatDoorRows
import GoSem.ClaimSeven
namespace Go.Proofs.YtfnkjclplfhjcaaGreatDoor
namespace Rows

/-- THE TIED CARD OF 'mahlsticklaw08.PriceBetween'. -/
def priceBetweenCard : Claim7 := { stood := { row := priceBetweenRow, standIns := [], harness := (true, "fd4a78dda9e3c4c42444e8171c75da0f7e25d27c3fa8e6685907fbcc17903124"), looks := true }, kinds := [], alts := [], laidByText := true, laidKinds := [.data, .data, .data, .data, .pinned], laidTests := true, laidLooks := .later }
def PriceBetweenCardSaid : Prop := Claim7.holds Tryz.pinned (.plain (OpenSpec.ofChange priceBetweenSpec)) priceBetweenCard

/-- THE TIED CARD OF 'mahlsticklaw08.PriceParts'. -/
def pricePartsCard : Claim7 := { stood := { row := pricePartsRow, standIns := [], harness := (true, "fd4a78dda9e3c4c42444e8171c75da0f7e25d27c3fa8e6685907fbcc17903124"), looks := true }, kinds := [], alts := [], laidByText := true, laidKinds := [.data, .data, .data, .data, .pinned], laidTests := true, laidLooks := .later }
def PricePartsCardSaid : Prop := Claim7.holds Tryz.pinned (.plain (OpenSpec.ofChange pricePartsSpec)) pricePartsCard

/-- THE TIED CARD OF 'mahlsticklaw08.PriceRules'. -/
def priceRulesCard : Claim7 := { stood := { row := priceRulesRow, standIns := [], harness := (true, "fd4a78dda9e3c4c42444e8171c75da0f7e25d27c3fa8e6685907fbcc17903124"), looks := true }, kinds := [], alts := [], laidByText := true, laidKinds := [.data, .data, .data, .data, .pinned], laidTests := true, laidLooks := .later }
def PriceRulesCardSaid : Prop := Claim7.holds Tryz.pinned (.plain (OpenSpec.ofChange priceRulesSpec)) priceRulesCard

/-- THE TIED CARD OF 'mahlsticklaw08.PriceSames'. -/
def priceSamesCard : Claim7 := { stood := { row := priceSamesRow, standIns := [], harness := (true, "fd4a78dda9e3c4c42444e8171c75da0f7e25d27c3fa8e6685907fbcc17903124"), looks := true }, kinds := [], alts := [], laidByText := true, laidKinds := [.data, .data, .data, .data, .pinned], laidTests := true, laidLooks := .later }
def PriceSamesCardSaid : Prop := Claim7.holds Tryz.pinned (.plain (OpenSpec.ofChange priceSamesSpec)) priceSamesCard

/-- THE TIED CARD OF 'mahlsticklaw08.PriceEqual'. -/
def priceEqualCard : Claim7 := { stood := { row := priceEqualRow, standIns := [], harness := (true, "fd4a78dda9e3c4c42444e8171c75da0f7e25d27c3fa8e6685907fbcc17903124"), looks := true }, kinds := [], alts := [], laidByText := true, laidKinds := [.data, .data, .data, .data, .pinned], laidTests := true, laidLooks := .later }
def PriceEqualCardSaid : Prop := Claim7.holds Tryz.pinned (.plain (OpenSpec.ofChange priceEqualSpec)) priceEqualCard

/-- THE TIED CARD OF 'mahlsticklaw08.PriceWheres'. -/
def priceWheresCard : Claim7 := { stood := { row := priceWheresRow, standIns := [], harness := (true, "fd4a78dda9e3c4c42444e8171c75da0f7e25d27c3fa8e6685907fbcc17903124"), looks := true }, kinds := [], alts := [], laidByText := true, laidKinds := [.data, .data, .data, .data, .pinned], laidTests := true, laidLooks := .later }
def PriceWheresCardSaid : Prop := Claim7.holds Tryz.pinned (.plain (OpenSpec.ofChange priceWheresSpec)) priceWheresCard

/-- THE TIED CARD OF 'mahlsticklaw08.PriceFirst'. -/
def priceFirstCard : Claim7 := { stood := { row := priceFirstRow, standIns := [], harness := (true, "fd4a78dda9e3c4c42444e8171c75da0f7e25d27c3fa8e6685907fbcc17903124"), looks := true }, kinds := [], alts := [], laidByText := true, laidKinds := [.data, .data, .data, .data, .pinned], laidTests := true, laidLooks := .later }
def PriceFirstCardSaid : Prop := Claim7.holds Tryz.pinned (.plain (OpenSpec.ofChange priceFirstSpec)) priceFirstCard

/-- THE TIED CARD OF 'mahlsticklaw08.PriceChanges'. -/
def priceChangesCard : Claim7 := { stood := { row := priceChangesRow, standIns := [], harness := (true, "fd4a78dda9e3c4c42444e8171c75da0f7e25d27c3fa8e6685907fbcc17903124"), looks := true }, kinds := [], alts := [], laidByText := true, laidKinds := [.data, .data, .data, .data, .pinned], laidTests := true, laidLooks := .later }
def PriceChangesCardSaid : Prop := Claim7.holds Tryz.pinned (.plain (OpenSpec.ofChange priceChangesSpec)) priceChangesCard

/-- THE TIED CARD OF 'mahlsticklaw08.PriceNearest'. -/
def priceNearestCard : Claim7 := { stood := { row := priceNearestRow, standIns := [], harness := (true, "fd4a78dda9e3c4c42444e8171c75da0f7e25d27c3fa8e6685907fbcc17903124"), looks := true }, kinds := [], alts := [], laidByText := true, laidKinds := [.data, .data, .data, .data, .pinned], laidTests := true, laidLooks := .later }
def PriceNearestCardSaid : Prop := Claim7.holds Tryz.pinned (.plain (OpenSpec.ofChange priceNearestSpec)) priceNearestCard

/-- THE TIED CARD OF 'mahlsticklaw08.PriceShares'. -/
def priceSharesCard : Claim7 := { stood := { row := priceSharesRow, standIns := [], harness := (true, "fd4a78dda9e3c4c42444e8171c75da0f7e25d27c3fa8e6685907fbcc17903124"), looks := true }, kinds := [], alts := [], laidByText := true, laidKinds := [.data, .data, .data, .data, .pinned], laidTests := true, laidLooks := .later }
def PriceSharesCardSaid : Prop := Claim7.holds Tryz.pinned (.plain (OpenSpec.ofChange priceSharesSpec)) priceSharesCard

/-- THE TIED CARD OF 'mahlsticklaw08.PriceJust'. -/
def priceJustCard : Claim7 := { stood := { row := priceJustRow, standIns := [], harness := (true, "fd4a78dda9e3c4c42444e8171c75da0f7e25d27c3fa8e6685907fbcc17903124"), looks := true }, kinds := [], alts := [], laidByText := true, laidKinds := [.data, .data, .data, .data, .pinned], laidTests := true, laidLooks := .later }
def PriceJustCardSaid : Prop := Claim7.holds Tryz.pinned (.plain (OpenSpec.ofChange priceJustSpec)) priceJustCard

/-- THE TIED CARD OF 'mahlsticklaw08.PriceOwes'. -/
def priceOwesCard : Claim7 := { stood := { row := priceOwesRow, standIns := [], harness := (true, "fd4a78dda9e3c4c42444e8171c75da0f7e25d27c3fa8e6685907fbcc17903124"), looks := true }, kinds := [], alts := [], laidByText := true, laidKinds := [.data, .data, .data, .data, .pinned], laidTests := true, laidLooks := .later }
def PriceOwesCardSaid : Prop := Claim7.holds Tryz.pinned (.plain (OpenSpec.ofChange priceOwesSpec)) priceOwesCard

/-- THE TIED CARD OF 'mahlsticklaw08.PriceOff'. -/
def priceOffCard : Claim7 := { stood := { row := priceOffRow, standIns := [], harness := (true, "fd4a78dda9e3c4c42444e8171c75da0f7e25d27c3fa8e6685907fbcc17903124"), looks := true }, kinds := [], alts := [], laidByText := true, laidKinds := [.data, .data, .data, .data, .pinned], laidTests := true, laidLooks := .later }
def PriceOffCardSaid : Prop := Claim7.holds Tryz.pinned (.plain (OpenSpec.ofChange priceOffSpec)) priceOffCard

/-- THE TIED CARD OF 'mahlsticklaw08.PriceMore'. -/
def priceMoreCard : Claim7 := { stood := { row := priceMoreRow, standIns := [], harness := (true, "fd4a78dda9e3c4c42444e8171c75da0f7e25d27c3fa8e6685907fbcc17903124"), looks := true }, kinds := [], alts := [], laidByText := true, laidKinds := [.data, .data, .data, .data, .pinned], laidTests := true, laidLooks := .later }
def PriceMoreCardSaid : Prop := Claim7.holds Tryz.pinned (.plain (OpenSpec.ofChange priceMoreSpec)) priceMoreCard

/-- THE TIED CARD OF 'mahlsticklaw08.PriceMoved'. -/
def priceMovedCard : Claim7 := { stood := { row := priceMovedRow, standIns := [], harness := (true, "fd4a78dda9e3c4c42444e8171c75da0f7e25d27c3fa8e6685907fbcc17903124"), looks := true }, kinds := [], alts := [], laidByText := true, laidKinds := [.data, .data, .data, .data, .pinned], laidTests := true, laidLooks := .later }
def PriceMovedCardSaid : Prop := Claim7.holds Tryz.pinned (.plain (OpenSpec.ofChange priceMovedSpec)) priceMovedCard

/-- THE TIED CARD OF 'mahlsticklaw08.PricePaids'. -/
def pricePaidsCard : Claim7 := { stood := { row := pricePaidsRow, standIns := [], harness := (true, "fd4a78dda9e3c4c42444e8171c75da0f7e25d27c3fa8e6685907fbcc17903124"), looks := true }, kinds := [], alts := [], laidByText := true, laidKinds := [.data, .data, .data, .data, .pinned], laidTests := true, laidLooks := .later }
def PricePaidsCardSaid : Prop := Claim7.holds Tryz.pinned (.plain (OpenSpec.ofChange pricePaidsSpec)) pricePaidsCard

/-- THE TIED CARD OF 'mahlsticklaw08.PricePrints'. -/
def pricePrintsCard : Claim7 := { stood := { row := pricePrintsRow, standIns := [], harness := (true, "fd4a78dda9e3c4c42444e8171c75da0f7e25d27c3fa8e6685907fbcc17903124"), looks := true }, kinds := [], alts := [], laidByText := true, laidKinds := [.data, .data, .data, .data, .pinned], laidTests := true, laidLooks := .later }
def PricePrintsCardSaid : Prop := Claim7.holds Tryz.pinned (.plain (OpenSpec.ofChange pricePrintsSpec)) pricePrintsCard

/-- THE TIED CARD OF 'mahlsticklaw08.PriceReads'. -/
def priceReadsCard : Claim7 := { stood := { row := priceReadsRow, standIns := [], harness := (true, "fd4a78dda9e3c4c42444e8171c75da0f7e25d27c3fa8e6685907fbcc17903124"), looks := true }, kinds := [], alts := [], laidByText := true, laidKinds := [.data, .data, .data, .data, .pinned], laidTests := true, laidLooks := .later }
def PriceReadsCardSaid : Prop := Claim7.holds Tryz.pinned (.plain (OpenSpec.ofChange priceReadsSpec)) priceReadsCard

/-- THE TIED CARD OF 'mahlsticklaw08.PriceSpoilt'. -/
def priceSpoiltCard : Claim7 := { stood := { row := priceSpoiltRow, standIns := [], harness := (true, "fd4a78dda9e3c4c42444e8171c75da0f7e25d27c3fa8e6685907fbcc17903124"), looks := true }, kinds := [], alts := [], laidByText := true, laidKinds := [.data, .data, .data, .data, .pinned], laidTests := true, laidLooks := .later }
def PriceSpoiltCardSaid : Prop := Claim7.holds Tryz.pinned (.plain (OpenSpec.ofChange priceSpoiltSpec)) priceSpoiltCard

/-- THE SECOND FORM's CARD OF 'mahlsticklaw08.PriceBetween'. -/
def priceBetweenUptoCard : Claim7 := { stood := { row := priceBetweenUptoRow, standIns := [], harness := (true, "fd4a78dda9e3c4c42444e8171c75da0f7e25d27c3fa8e6685907fbcc17903124"), looks := true }, kinds := [], alts := [], laidByText := true, laidKinds := [.data, .data, .data, .data, .pinned], laidTests := true, laidLooks := .later }
def PriceBetweenUptoCardSaid : Prop := Claim7.holds Tryz.pinned (.plain (OpenSpec.upto priceBetweenSpec)) priceBetweenUptoCard

/-- THE SECOND FORM's CARD OF 'mahlsticklaw08.PriceParts'. -/
def pricePartsUptoCard : Claim7 := { stood := { row := pricePartsUptoRow, standIns := [], harness := (true, "fd4a78dda9e3c4c42444e8171c75da0f7e25d27c3fa8e6685907fbcc17903124"), looks := true }, kinds := [], alts := [], laidByText := true, laidKinds := [.data, .data, .data, .data, .pinned], laidTests := true, laidLooks := .later }
def PricePartsUptoCardSaid : Prop := Claim7.holds Tryz.pinned (.plain (OpenSpec.upto pricePartsSpec)) pricePartsUptoCard

/-- THE SECOND FORM's CARD OF 'mahlsticklaw08.PriceRules'. -/
def priceRulesUptoCard : Claim7 := { stood := { row := priceRulesUptoRow, standIns := [], harness := (true, "fd4a78dda9e3c4c42444e8171c75da0f7e25d27c3fa8e6685907fbcc17903124"), looks := true }, kinds := [], alts := [], laidByText := true, laidKinds := [.data, .data, .data, .data, .pinned], laidTests := true, laidLooks := .later }
def PriceRulesUptoCardSaid : Prop := Claim7.holds Tryz.pinned (.plain (OpenSpec.upto priceRulesSpec)) priceRulesUptoCard

/-- THE SECOND FORM's CARD OF 'mahlsticklaw08.PriceSames'. -/
def priceSamesUptoCard : Claim7 := { stood := { row := priceSamesUptoRow, standIns := [], harness := (true, "fd4a78dda9e3c4c42444e8171c75da0f7e25d27c3fa8e6685907fbcc17903124"), looks := true }, kinds := [], alts := [], laidByText := true, laidKinds := [.data, .data, .data, .data, .pinned], laidTests := true, laidLooks := .later }
def PriceSamesUptoCardSaid : Prop := Claim7.holds Tryz.pinned (.plain (OpenSpec.upto priceSamesSpec)) priceSamesUptoCard

/-- THE SECOND FORM's CARD OF 'mahlsticklaw08.PriceEqual'. -/
def priceEqualUptoCard : Claim7 := { stood := { row := priceEqualUptoRow, standIns := [], harness := (true, "fd4a78dda9e3c4c42444e8171c75da0f7e25d27c3fa8e6685907fbcc17903124"), looks := true }, kinds := [], alts := [], laidByText := true, laidKinds := [.data, .data, .data, .data, .pinned], laidTests := true, laidLooks := .later }
def PriceEqualUptoCardSaid : Prop := Claim7.holds Tryz.pinned (.plain (OpenSpec.upto priceEqualSpec)) priceEqualUptoCard

/-- THE SECOND FORM's CARD OF 'mahlsticklaw08.PriceWheres'. -/
def priceWheresUptoCard : Claim7 := { stood := { row := priceWheresUptoRow, standIns := [], harness := (true, "fd4a78dda9e3c4c42444e8171c75da0f7e25d27c3fa8e6685907fbcc17903124"), looks := true }, kinds := [], alts := [], laidByText := true, laidKinds := [.data, .data, .data, .data, .pinned], laidTests := true, laidLooks := .later }
def PriceWheresUptoCardSaid : Prop := Claim7.holds Tryz.pinned (.plain (OpenSpec.upto priceWheresSpec)) priceWheresUptoCard

/-- THE SECOND FORM's CARD OF 'mahlsticklaw08.PriceFirst'. -/
def priceFirstUptoCard : Claim7 := { stood := { row := priceFirstUptoRow, standIns := [], harness := (true, "fd4a78dda9e3c4c42444e8171c75da0f7e25d27c3fa8e6685907fbcc17903124"), looks := true }, kinds := [], alts := [], laidByText := true, laidKinds := [.data, .data, .data, .data, .pinned], laidTests := true, laidLooks := .later }
def PriceFirstUptoCardSaid : Prop := Claim7.holds Tryz.pinned (.plain (OpenSpec.upto priceFirstSpec)) priceFirstUptoCard

/-- THE SECOND FORM's CARD OF 'mahlsticklaw08.PriceChanges'. -/
def priceChangesUptoCard : Claim7 := { stood := { row := priceChangesUptoRow, standIns := [], harness := (true, "fd4a78dda9e3c4c42444e8171c75da0f7e25d27c3fa8e6685907fbcc17903124"), looks := true }, kinds := [], alts := [], laidByText := true, laidKinds := [.data, .data, .data, .data, .pinned], laidTests := true, laidLooks := .later }
def PriceChangesUptoCardSaid : Prop := Claim7.holds Tryz.pinned (.plain (OpenSpec.upto priceChangesSpec)) priceChangesUptoCard

/-- THE SECOND FORM's CARD OF 'mahlsticklaw08.PriceNearest'. -/
def priceNearestUptoCard : Claim7 := { stood := { row := priceNearestUptoRow, standIns := [], harness := (true, "fd4a78dda9e3c4c42444e8171c75da0f7e25d27c3fa8e6685907fbcc17903124"), looks := true }, kinds := [], alts := [], laidByText := true, laidKinds := [.data, .data, .data, .data, .pinned], laidTests := true, laidLooks := .later }
def PriceNearestUptoCardSaid : Prop := Claim7.holds Tryz.pinned (.plain (OpenSpec.upto priceNearestSpec)) priceNearestUptoCard

/-- THE SECOND FORM's CARD OF 'mahlsticklaw08.PriceShares'. -/
def priceSharesUptoCard : Claim7 := { stood := { row := priceSharesUptoRow, standIns := [], harness := (true, "fd4a78dda9e3c4c42444e8171c75da0f7e25d27c3fa8e6685907fbcc17903124"), looks := true }, kinds := [], alts := [], laidByText := true, laidKinds := [.data, .data, .data, .data, .pinned], laidTests := true, laidLooks := .later }
def PriceSharesUptoCardSaid : Prop := Claim7.holds Tryz.pinned (.plain (OpenSpec.upto priceSharesSpec)) priceSharesUptoCard

/-- THE SECOND FORM's CARD OF 'mahlsticklaw08.PriceJust'. -/
def priceJustUptoCard : Claim7 := { stood := { row := priceJustUptoRow, standIns := [], harness := (true, "fd4a78dda9e3c4c42444e8171c75da0f7e25d27c3fa8e6685907fbcc17903124"), looks := true }, kinds := [], alts := [], laidByText := true, laidKinds := [.data, .data, .data, .data, .pinned], laidTests := true, laidLooks := .later }
def PriceJustUptoCardSaid : Prop := Claim7.holds Tryz.pinned (.plain (OpenSpec.upto priceJustSpec)) priceJustUptoCard

/-- THE SECOND FORM's CARD OF 'mahlsticklaw08.PriceOwes'. -/
def priceOwesUptoCard : Claim7 := { stood := { row := priceOwesUptoRow, standIns := [], harness := (true, "fd4a78dda9e3c4c42444e8171c75da0f7e25d27c3fa8e6685907fbcc17903124"), looks := true }, kinds := [], alts := [], laidByText := true, laidKinds := [.data, .data, .data, .data, .pinned], laidTests := true, laidLooks := .later }
def PriceOwesUptoCardSaid : Prop := Claim7.holds Tryz.pinned (.plain (OpenSpec.upto priceOwesSpec)) priceOwesUptoCard

/-- THE SECOND FORM's CARD OF 'mahlsticklaw08.PriceOff'. -/
def priceOffUptoCard : Claim7 := { stood := { row := priceOffUptoRow, standIns := [], harness := (true, "fd4a78dda9e3c4c42444e8171c75da0f7e25d27c3fa8e6685907fbcc17903124"), looks := true }, kinds := [], alts := [], laidByText := true, laidKinds := [.data, .data, .data, .data, .pinned], laidTests := true, laidLooks := .later }
def PriceOffUptoCardSaid : Prop := Claim7.holds Tryz.pinned (.plain (OpenSpec.upto priceOffSpec)) priceOffUptoCard

/-- THE SECOND FORM's CARD OF 'mahlsticklaw08.PriceMore'. -/
def priceMoreUptoCard : Claim7 := { stood := { row := priceMoreUptoRow, standIns := [], harness := (true, "fd4a78dda9e3c4c42444e8171c75da0f7e25d27c3fa8e6685907fbcc17903124"), looks := true }, kinds := [], alts := [], laidByText := true, laidKinds := [.data, .data, .data, .data, .pinned], laidTests := true, laidLooks := .later }
def PriceMoreUptoCardSaid : Prop := Claim7.holds Tryz.pinned (.plain (OpenSpec.upto priceMoreSpec)) priceMoreUptoCard

/-- THE SECOND FORM's CARD OF 'mahlsticklaw08.PriceMoved'. -/
def priceMovedUptoCard : Claim7 := { stood := { row := priceMovedUptoRow, standIns := [], harness := (true, "fd4a78dda9e3c4c42444e8171c75da0f7e25d27c3fa8e6685907fbcc17903124"), looks := true }, kinds := [], alts := [], laidByText := true, laidKinds := [.data, .data, .data, .data, .pinned], laidTests := true, laidLooks := .later }
def PriceMovedUptoCardSaid : Prop := Claim7.holds Tryz.pinned (.plain (OpenSpec.upto priceMovedSpec)) priceMovedUptoCard

/-- THE SECOND FORM's CARD OF 'mahlsticklaw08.PricePaids'. -/
def pricePaidsUptoCard : Claim7 := { stood := { row := pricePaidsUptoRow, standIns := [], harness := (true, "fd4a78dda9e3c4c42444e8171c75da0f7e25d27c3fa8e6685907fbcc17903124"), looks := true }, kinds := [], alts := [], laidByText := true, laidKinds := [.data, .data, .data, .data, .pinned], laidTests := true, laidLooks := .later }
def PricePaidsUptoCardSaid : Prop := Claim7.holds Tryz.pinned (.plain (OpenSpec.upto pricePaidsSpec)) pricePaidsUptoCard

/-- THE SECOND FORM's CARD OF 'mahlsticklaw08.PricePrints'. -/
def pricePrintsUptoCard : Claim7 := { stood := { row := pricePrintsUptoRow, standIns := [], harness := (true, "fd4a78dda9e3c4c42444e8171c75da0f7e25d27c3fa8e6685907fbcc17903124"), looks := true }, kinds := [], alts := [], laidByText := true, laidKinds := [.data, .data, .data, .data, .pinned], laidTests := true, laidLooks := .later }
def PricePrintsUptoCardSaid : Prop := Claim7.holds Tryz.pinned (.plain (OpenSpec.upto pricePrintsSpec)) pricePrintsUptoCard

/-- THE SECOND FORM's CARD OF 'mahlsticklaw08.PriceReads'. -/
def priceReadsUptoCard : Claim7 := { stood := { row := priceReadsUptoRow, standIns := [], harness := (true, "fd4a78dda9e3c4c42444e8171c75da0f7e25d27c3fa8e6685907fbcc17903124"), looks := true }, kinds := [], alts := [], laidByText := true, laidKinds := [.data, .data, .data, .data, .pinned], laidTests := true, laidLooks := .later }
def PriceReadsUptoCardSaid : Prop := Claim7.holds Tryz.pinned (.plain (OpenSpec.upto priceReadsSpec)) priceReadsUptoCard

/-- THE SECOND FORM's CARD OF 'mahlsticklaw08.PriceSpoilt'. -/
def priceSpoiltUptoCard : Claim7 := { stood := { row := priceSpoiltUptoRow, standIns := [], harness := (true, "fd4a78dda9e3c4c42444e8171c75da0f7e25d27c3fa8e6685907fbcc17903124"), looks := true }, kinds := [], alts := [], laidByText := true, laidKinds := [.data, .data, .data, .data, .pinned], laidTests := true, laidLooks := .later }
def PriceSpoiltUptoCardSaid : Prop := Claim7.holds Tryz.pinned (.plain (OpenSpec.upto priceSpoiltSpec)) priceSpoiltUptoCard
end Rows
end Go.Proofs.YtfnkjclplfhjcaaGreatDoor
