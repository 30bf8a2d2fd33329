/-
  NARROWER THAN 'FOR EVERY INPUT', by the rows' own cells (each row's printed sentence says how): PriceBetween: laid · PriceParts: laid · PriceRules: laid · PriceSames: laid · PriceEqual: laid · PriceWheres: laid · PriceFirst: laid · PriceChanges: laid · PriceNearest: laid · PriceShares: laid · PriceJust: laid · PriceOwes: laid · PriceOff: laid · PriceMore: laid · PriceMoved: laid · PricePaids: laid · PricePrints: laid · PriceReads: laid · PriceSpoilt: laid.
  DERIVED. THE GIVEN ROWS OF THIS SEAT. 19 by the template 'for every input the law returns true; each argument reads behind the call as it read before'; 0 by the template 'total and deterministic' (their statements: YtfnkjclplfhjcaaGreatDoorTotals.lean).
  GIVEN WITH THE SEED: the statements are not yours to turn. If you find one false, say at which input.
  Laid BY PROGRAM, IN A SANDBOX (cutbox-rows.mjs): the forced cells as the released guide's own fill.sh prints them over the translation ca1d7f0d3fdf21d6… (all of the seat's roots in one cut). By AI agents, Wed Nov 11 2026. No macro, syntax, notation, axiom, sorry.
-/
import Derived.Test.YtfnkjclplfhjcaaGreatDoorChecked
import GoSem.PinnedTables
import GoSem.Claim
import GoSem.ClaimJoined
import GoSem.ClaimMapViews
import Derived.JoinedTies
import Derived.KernelRfl
namespace Go.Proofs.YtfnkjclplfhjcaaGreatDoor
/- THE CELL 'sum', in the pinned program and in every row, IS THE sha256 OF THE DUMP (.gsa) THAT YtfnkjclplfhjcaaGreatDoorProg.lean LOADS. Nothing in Lean hashes anything: it is a label: what it is worth is what the hold of that sum in a sandbox is worth. -/
noncomputable def Tryz.pinned : Pinned := { name := "ytfnkjclplfhjcaagreatdoor", sum := "ca1d7f0d3fdf21d6c6ca77d913b86501576e7fd8595a92d8d7fee29f7e732e38", checked := Tryz.checked }
namespace Rows
def none {H : Type} : Left H := { results := [], args := [] }

/- WHAT THE LISTED PACKAGE-LEVEL VARIABLES READ AS WHEN THE CALL BEGINS. Each datum BY PROGRAM (the guide's laid-datum.mjs) off the statement by which the dump's own 'gosem.cut.vars' lays the variable. In a bare row this is a premise. The card (YtfnkjclplfhjcaaGreatDoorCards.lean) ties it to the program's text. -/
def laid_math_bits_deBruijn32tab {H : Type} : DataW H := .agg [.lit (.int .u8 0), .lit (.int .u8 1), .lit (.int .u8 28), .lit (.int .u8 2), .lit (.int .u8 29), .lit (.int .u8 14), .lit (.int .u8 24), .lit (.int .u8 3), .lit (.int .u8 30), .lit (.int .u8 22), .lit (.int .u8 20), .lit (.int .u8 15), .lit (.int .u8 25), .lit (.int .u8 17), .lit (.int .u8 4), .lit (.int .u8 8), .lit (.int .u8 31), .lit (.int .u8 27), .lit (.int .u8 13), .lit (.int .u8 23), .lit (.int .u8 21), .lit (.int .u8 19), .lit (.int .u8 16), .lit (.int .u8 7), .lit (.int .u8 26), .lit (.int .u8 12), .lit (.int .u8 18), .lit (.int .u8 6), .lit (.int .u8 11), .lit (.int .u8 5), .lit (.int .u8 10), .lit (.int .u8 9)]
def laid_math_bits_deBruijn64tab {H : Type} : DataW H := .agg [.lit (.int .u8 0), .lit (.int .u8 1), .lit (.int .u8 56), .lit (.int .u8 2), .lit (.int .u8 57), .lit (.int .u8 49), .lit (.int .u8 28), .lit (.int .u8 3), .lit (.int .u8 61), .lit (.int .u8 58), .lit (.int .u8 42), .lit (.int .u8 50), .lit (.int .u8 38), .lit (.int .u8 29), .lit (.int .u8 17), .lit (.int .u8 4), .lit (.int .u8 62), .lit (.int .u8 47), .lit (.int .u8 59), .lit (.int .u8 36), .lit (.int .u8 45), .lit (.int .u8 43), .lit (.int .u8 51), .lit (.int .u8 22), .lit (.int .u8 53), .lit (.int .u8 39), .lit (.int .u8 33), .lit (.int .u8 30), .lit (.int .u8 24), .lit (.int .u8 18), .lit (.int .u8 12), .lit (.int .u8 5), .lit (.int .u8 63), .lit (.int .u8 55), .lit (.int .u8 48), .lit (.int .u8 27), .lit (.int .u8 60), .lit (.int .u8 41), .lit (.int .u8 37), .lit (.int .u8 16), .lit (.int .u8 46), .lit (.int .u8 35), .lit (.int .u8 44), .lit (.int .u8 21), .lit (.int .u8 52), .lit (.int .u8 32), .lit (.int .u8 23), .lit (.int .u8 11), .lit (.int .u8 54), .lit (.int .u8 26), .lit (.int .u8 40), .lit (.int .u8 15), .lit (.int .u8 34), .lit (.int .u8 20), .lit (.int .u8 31), .lit (.int .u8 10), .lit (.int .u8 25), .lit (.int .u8 14), .lit (.int .u8 19), .lit (.int .u8 9), .lit (.int .u8 13), .lit (.int .u8 8), .lit (.int .u8 7), .lit (.int .u8 6)]
def laid_internal_strconv_uint64pow10 {H : Type} : DataW H := .agg [.lit (.int .u64 1), .lit (.int .u64 10), .lit (.int .u64 100), .lit (.int .u64 1000), .lit (.int .u64 10000), .lit (.int .u64 100000), .lit (.int .u64 1000000), .lit (.int .u64 10000000), .lit (.int .u64 100000000), .lit (.int .u64 1000000000), .lit (.int .u64 10000000000), .lit (.int .u64 100000000000), .lit (.int .u64 1000000000000), .lit (.int .u64 10000000000000), .lit (.int .u64 100000000000000), .lit (.int .u64 1000000000000000), .lit (.int .u64 10000000000000000), .lit (.int .u64 100000000000000000), .lit (.int .u64 1000000000000000000), .lit (.int .u64 10000000000000000000)]
def laid_unicode_utf8_acceptRanges {H : Type} : DataW H := .agg [.agg [.lit (.int .u8 128), .lit (.int .u8 191)], .agg [.lit (.int .u8 160), .lit (.int .u8 191)], .agg [.lit (.int .u8 128), .lit (.int .u8 159)], .agg [.lit (.int .u8 144), .lit (.int .u8 191)], .agg [.lit (.int .u8 128), .lit (.int .u8 143)], .agg [.lit (.int .u8 0), .lit (.int .u8 0)], .agg [.lit (.int .u8 0), .lit (.int .u8 0)], .agg [.lit (.int .u8 0), .lit (.int .u8 0)], .agg [.lit (.int .u8 0), .lit (.int .u8 0)], .agg [.lit (.int .u8 0), .lit (.int .u8 0)], .agg [.lit (.int .u8 0), .lit (.int .u8 0)], .agg [.lit (.int .u8 0), .lit (.int .u8 0)], .agg [.lit (.int .u8 0), .lit (.int .u8 0)], .agg [.lit (.int .u8 0), .lit (.int .u8 0)], .agg [.lit (.int .u8 0), .lit (.int .u8 0)], .agg [.lit (.int .u8 0), .lit (.int .u8 0)]]
/-- One of Go's own tables, pinned by name: the form's constant. -/
def laid_unicode_utf8_first : DataW Unit := Go.Pinned.utf8First

/-- 'mahlsticklaw08.PriceBetween': WHATEVER THE INPUT: true; the input reads as it did. -/
def priceBetweenSpec : ChangeSpec := { name := "priceBetween", fn := fun _ => fun
  | [d1, d2, d3] => { results := [.lit (.bool true)], args := [d1, d2, d3] }
  | _ => none }
def priceBetweenRow : OpenClaim := { program := "ytfnkjclplfhjcaagreatdoor", sum := "ca1d7f0d3fdf21d6c6ca77d913b86501576e7fd8595a92d8d7fee29f7e732e38", func := "mahlstick/mahlsticklaw08.PriceBetween", spec := "priceBetween", inPlace := ["internal/bytealg.CountString", "internal/bytealg.IndexByteString", "internal/bytealg.IndexString", "internal/abi.NoEscape", "internal/bytealg.MakeNoZero"], unfollowed := true, recurses := true, named := ["unicode/utf8.first", "unicode/utf8.acceptRanges", "internal/bytealg.MaxLen", "internal/strconv.uint64pow10", "math/bits.deBruijn32tab", "math/bits.deBruijn64tab"], plainKeys := false, apart := false, laid := [("math/bits.deBruijn32tab", laid_math_bits_deBruijn32tab), ("math/bits.deBruijn64tab", laid_math_bits_deBruijn64tab), ("internal/strconv.uint64pow10", laid_internal_strconv_uint64pow10), ("unicode/utf8.acceptRanges", laid_unicode_utf8_acceptRanges), ("unicode/utf8.first", laid_unicode_utf8_first)] }
def PriceBetweenSaid : Prop := priceBetweenRow.holds Tryz.pinned (OpenSpec.ofChange priceBetweenSpec)

/-- ITS FALSE NEIGHBOUR: 'it returns false'. Refute it at one input. -/
def priceBetweenWrong : ChangeSpec := { name := "priceBetween", fn := fun _ => fun
  | [d1, d2, d3] => { results := [.lit (.bool false)], args := [d1, d2, d3] }
  | _ => none }
def PriceBetweenWrongFalsely : Prop := priceBetweenRow.holds Tryz.pinned (OpenSpec.ofChange priceBetweenWrong)

/-- 'mahlsticklaw08.PriceParts': WHATEVER THE INPUT: true; the input reads as it did. -/
def pricePartsSpec : ChangeSpec := { name := "priceParts", fn := fun _ => fun
  | [d1, d2, d3] => { results := [.lit (.bool true)], args := [d1, d2, d3] }
  | _ => none }
def pricePartsRow : OpenClaim := { program := "ytfnkjclplfhjcaagreatdoor", sum := "ca1d7f0d3fdf21d6c6ca77d913b86501576e7fd8595a92d8d7fee29f7e732e38", func := "mahlstick/mahlsticklaw08.PriceParts", spec := "priceParts", inPlace := ["internal/bytealg.CountString", "internal/bytealg.IndexByteString", "internal/bytealg.IndexString", "internal/abi.NoEscape", "internal/bytealg.MakeNoZero"], unfollowed := true, recurses := true, named := ["unicode/utf8.first", "unicode/utf8.acceptRanges", "internal/bytealg.MaxLen", "internal/strconv.uint64pow10", "math/bits.deBruijn32tab", "math/bits.deBruijn64tab"], plainKeys := false, apart := false, laid := [("math/bits.deBruijn32tab", laid_math_bits_deBruijn32tab), ("math/bits.deBruijn64tab", laid_math_bits_deBruijn64tab), ("internal/strconv.uint64pow10", laid_internal_strconv_uint64pow10), ("unicode/utf8.acceptRanges", laid_unicode_utf8_acceptRanges), ("unicode/utf8.first", laid_unicode_utf8_first)] }
def PricePartsSaid : Prop := pricePartsRow.holds Tryz.pinned (OpenSpec.ofChange pricePartsSpec)

/-- ITS FALSE NEIGHBOUR: 'it returns false'. Refute it at one input. -/
def pricePartsWrong : ChangeSpec := { name := "priceParts", fn := fun _ => fun
  | [d1, d2, d3] => { results := [.lit (.bool false)], args := [d1, d2, d3] }
  | _ => none }
def PricePartsWrongFalsely : Prop := pricePartsRow.holds Tryz.pinned (OpenSpec.ofChange pricePartsWrong)

/-- 'mahlsticklaw08.PriceRules': WHATEVER THE INPUT: true; the input reads as it did. -/
def priceRulesSpec : ChangeSpec := { name := "priceRules", fn := fun _ => fun
  | [d1, d2, d3] => { results := [.lit (.bool true)], args := [d1, d2, d3] }
  | _ => none }
def priceRulesRow : OpenClaim := { program := "ytfnkjclplfhjcaagreatdoor", sum := "ca1d7f0d3fdf21d6c6ca77d913b86501576e7fd8595a92d8d7fee29f7e732e38", func := "mahlstick/mahlsticklaw08.PriceRules", spec := "priceRules", inPlace := ["internal/bytealg.CountString", "internal/bytealg.IndexByteString", "internal/bytealg.IndexString", "internal/abi.NoEscape", "internal/bytealg.MakeNoZero"], unfollowed := true, recurses := true, named := ["unicode/utf8.first", "unicode/utf8.acceptRanges", "internal/bytealg.MaxLen", "internal/strconv.uint64pow10", "math/bits.deBruijn32tab", "math/bits.deBruijn64tab"], plainKeys := false, apart := false, laid := [("math/bits.deBruijn32tab", laid_math_bits_deBruijn32tab), ("math/bits.deBruijn64tab", laid_math_bits_deBruijn64tab), ("internal/strconv.uint64pow10", laid_internal_strconv_uint64pow10), ("unicode/utf8.acceptRanges", laid_unicode_utf8_acceptRanges), ("unicode/utf8.first", laid_unicode_utf8_first)] }
def PriceRulesSaid : Prop := priceRulesRow.holds Tryz.pinned (OpenSpec.ofChange priceRulesSpec)

/-- ITS FALSE NEIGHBOUR: 'it returns false'. Refute it at one input. -/
def priceRulesWrong : ChangeSpec := { name := "priceRules", fn := fun _ => fun
  | [d1, d2, d3] => { results := [.lit (.bool false)], args := [d1, d2, d3] }
  | _ => none }
def PriceRulesWrongFalsely : Prop := priceRulesRow.holds Tryz.pinned (OpenSpec.ofChange priceRulesWrong)

/-- 'mahlsticklaw08.PriceSames': WHATEVER THE INPUT: true; the input reads as it did. -/
def priceSamesSpec : ChangeSpec := { name := "priceSames", fn := fun _ => fun
  | [d1, d2, d3] => { results := [.lit (.bool true)], args := [d1, d2, d3] }
  | _ => none }
def priceSamesRow : OpenClaim := { program := "ytfnkjclplfhjcaagreatdoor", sum := "ca1d7f0d3fdf21d6c6ca77d913b86501576e7fd8595a92d8d7fee29f7e732e38", func := "mahlstick/mahlsticklaw08.PriceSames", spec := "priceSames", inPlace := ["internal/bytealg.CountString", "internal/bytealg.IndexByteString", "internal/bytealg.IndexString", "internal/abi.NoEscape", "internal/bytealg.MakeNoZero"], unfollowed := true, recurses := true, named := ["unicode/utf8.first", "unicode/utf8.acceptRanges", "internal/bytealg.MaxLen", "internal/strconv.uint64pow10", "math/bits.deBruijn32tab", "math/bits.deBruijn64tab"], plainKeys := false, apart := false, laid := [("math/bits.deBruijn32tab", laid_math_bits_deBruijn32tab), ("math/bits.deBruijn64tab", laid_math_bits_deBruijn64tab), ("internal/strconv.uint64pow10", laid_internal_strconv_uint64pow10), ("unicode/utf8.acceptRanges", laid_unicode_utf8_acceptRanges), ("unicode/utf8.first", laid_unicode_utf8_first)] }
def PriceSamesSaid : Prop := priceSamesRow.holds Tryz.pinned (OpenSpec.ofChange priceSamesSpec)

/-- ITS FALSE NEIGHBOUR: 'it returns false'. Refute it at one input. -/
def priceSamesWrong : ChangeSpec := { name := "priceSames", fn := fun _ => fun
  | [d1, d2, d3] => { results := [.lit (.bool false)], args := [d1, d2, d3] }
  | _ => none }
def PriceSamesWrongFalsely : Prop := priceSamesRow.holds Tryz.pinned (OpenSpec.ofChange priceSamesWrong)

/-- 'mahlsticklaw08.PriceEqual': WHATEVER THE INPUT: true; the input reads as it did. -/
def priceEqualSpec : ChangeSpec := { name := "priceEqual", fn := fun _ => fun
  | [d1, d2, d3, d4] => { results := [.lit (.bool true)], args := [d1, d2, d3, d4] }
  | _ => none }
def priceEqualRow : OpenClaim := { program := "ytfnkjclplfhjcaagreatdoor", sum := "ca1d7f0d3fdf21d6c6ca77d913b86501576e7fd8595a92d8d7fee29f7e732e38", func := "mahlstick/mahlsticklaw08.PriceEqual", spec := "priceEqual", inPlace := ["internal/bytealg.CountString", "internal/bytealg.IndexByteString", "internal/bytealg.IndexString", "internal/abi.NoEscape", "internal/bytealg.MakeNoZero"], unfollowed := true, recurses := true, named := ["unicode/utf8.first", "unicode/utf8.acceptRanges", "internal/bytealg.MaxLen", "internal/strconv.uint64pow10", "math/bits.deBruijn32tab", "math/bits.deBruijn64tab"], plainKeys := false, apart := false, laid := [("math/bits.deBruijn32tab", laid_math_bits_deBruijn32tab), ("math/bits.deBruijn64tab", laid_math_bits_deBruijn64tab), ("internal/strconv.uint64pow10", laid_internal_strconv_uint64pow10), ("unicode/utf8.acceptRanges", laid_unicode_utf8_acceptRanges), ("unicode/utf8.first", laid_unicode_utf8_first)] }
def PriceEqualSaid : Prop := priceEqualRow.holds Tryz.pinned (OpenSpec.ofChange priceEqualSpec)

/-- ITS FALSE NEIGHBOUR: 'it returns false'. Refute it at one input. -/
def priceEqualWrong : ChangeSpec := { name := "priceEqual", fn := fun _ => fun
  | [d1, d2, d3, d4] => { results := [.lit (.bool false)], args := [d1, d2, d3, d4] }
  | _ => none }
def PriceEqualWrongFalsely : Prop := priceEqualRow.holds Tryz.pinned (OpenSpec.ofChange priceEqualWrong)

/-- 'mahlsticklaw08.PriceWheres': WHATEVER THE INPUT: true; the input reads as it did. -/
def priceWheresSpec : ChangeSpec := { name := "priceWheres", fn := fun _ => fun
  | [d1, d2, d3, d4] => { results := [.lit (.bool true)], args := [d1, d2, d3, d4] }
  | _ => none }
def priceWheresRow : OpenClaim := { program := "ytfnkjclplfhjcaagreatdoor", sum := "ca1d7f0d3fdf21d6c6ca77d913b86501576e7fd8595a92d8d7fee29f7e732e38", func := "mahlstick/mahlsticklaw08.PriceWheres", spec := "priceWheres", inPlace := ["internal/bytealg.CountString", "internal/bytealg.IndexByteString", "internal/bytealg.IndexString", "internal/abi.NoEscape", "internal/bytealg.MakeNoZero"], unfollowed := true, recurses := true, named := ["unicode/utf8.first", "unicode/utf8.acceptRanges", "internal/bytealg.MaxLen", "internal/strconv.uint64pow10", "math/bits.deBruijn32tab", "math/bits.deBruijn64tab"], plainKeys := false, apart := false, laid := [("math/bits.deBruijn32tab", laid_math_bits_deBruijn32tab), ("math/bits.deBruijn64tab", laid_math_bits_deBruijn64tab), ("internal/strconv.uint64pow10", laid_internal_strconv_uint64pow10), ("unicode/utf8.acceptRanges", laid_unicode_utf8_acceptRanges), ("unicode/utf8.first", laid_unicode_utf8_first)] }
def PriceWheresSaid : Prop := priceWheresRow.holds Tryz.pinned (OpenSpec.ofChange priceWheresSpec)

/-- ITS FALSE NEIGHBOUR: 'it returns false'. Refute it at one input. -/
def priceWheresWrong : ChangeSpec := { name := "priceWheres", fn := fun _ => fun
  | [d1, d2, d3, d4] => { results := [.lit (.bool false)], args := [d1, d2, d3, d4] }
  | _ => none }
def PriceWheresWrongFalsely : Prop := priceWheresRow.holds Tryz.pinned (OpenSpec.ofChange priceWheresWrong)

/-- 'mahlsticklaw08.PriceFirst': WHATEVER THE INPUT: true; the input reads as it did. -/
def priceFirstSpec : ChangeSpec := { name := "priceFirst", fn := fun _ => fun
  | [d1, d2, d3, d4, d5] => { results := [.lit (.bool true)], args := [d1, d2, d3, d4, d5] }
  | _ => none }
def priceFirstRow : OpenClaim := { program := "ytfnkjclplfhjcaagreatdoor", sum := "ca1d7f0d3fdf21d6c6ca77d913b86501576e7fd8595a92d8d7fee29f7e732e38", func := "mahlstick/mahlsticklaw08.PriceFirst", spec := "priceFirst", inPlace := ["internal/bytealg.CountString", "internal/bytealg.IndexByteString", "internal/bytealg.IndexString", "internal/abi.NoEscape", "internal/bytealg.MakeNoZero"], unfollowed := true, recurses := true, named := ["unicode/utf8.first", "unicode/utf8.acceptRanges", "internal/bytealg.MaxLen", "internal/strconv.uint64pow10", "math/bits.deBruijn32tab", "math/bits.deBruijn64tab"], plainKeys := false, apart := false, laid := [("math/bits.deBruijn32tab", laid_math_bits_deBruijn32tab), ("math/bits.deBruijn64tab", laid_math_bits_deBruijn64tab), ("internal/strconv.uint64pow10", laid_internal_strconv_uint64pow10), ("unicode/utf8.acceptRanges", laid_unicode_utf8_acceptRanges), ("unicode/utf8.first", laid_unicode_utf8_first)] }
def PriceFirstSaid : Prop := priceFirstRow.holds Tryz.pinned (OpenSpec.ofChange priceFirstSpec)

/-- ITS FALSE NEIGHBOUR: 'it returns false'. Refute it at one input. -/
def priceFirstWrong : ChangeSpec := { name := "priceFirst", fn := fun _ => fun
  | [d1, d2, d3, d4, d5] => { results := [.lit (.bool false)], args := [d1, d2, d3, d4, d5] }
  | _ => none }
def PriceFirstWrongFalsely : Prop := priceFirstRow.holds Tryz.pinned (OpenSpec.ofChange priceFirstWrong)

/-- 'mahlsticklaw08.PriceChanges': WHATEVER THE INPUT: true; the input reads as it did. -/
def priceChangesSpec : ChangeSpec := { name := "priceChanges", fn := fun _ => fun
  | [d1, d2, d3, d4] => { results := [.lit (.bool true)], args := [d1, d2, d3, d4] }
  | _ => none }
def priceChangesRow : OpenClaim := { program := "ytfnkjclplfhjcaagreatdoor", sum := "ca1d7f0d3fdf21d6c6ca77d913b86501576e7fd8595a92d8d7fee29f7e732e38", func := "mahlstick/mahlsticklaw08.PriceChanges", spec := "priceChanges", inPlace := ["internal/bytealg.CountString", "internal/bytealg.IndexByteString", "internal/bytealg.IndexString", "internal/abi.NoEscape", "internal/bytealg.MakeNoZero"], unfollowed := true, recurses := true, named := ["unicode/utf8.first", "unicode/utf8.acceptRanges", "internal/bytealg.MaxLen", "internal/strconv.uint64pow10", "math/bits.deBruijn32tab", "math/bits.deBruijn64tab"], plainKeys := false, apart := false, laid := [("math/bits.deBruijn32tab", laid_math_bits_deBruijn32tab), ("math/bits.deBruijn64tab", laid_math_bits_deBruijn64tab), ("internal/strconv.uint64pow10", laid_internal_strconv_uint64pow10), ("unicode/utf8.acceptRanges", laid_unicode_utf8_acceptRanges), ("unicode/utf8.first", laid_unicode_utf8_first)] }
def PriceChangesSaid : Prop := priceChangesRow.holds Tryz.pinned (OpenSpec.ofChange priceChangesSpec)

/-- ITS FALSE NEIGHBOUR: 'it returns false'. Refute it at one input. -/
def priceChangesWrong : ChangeSpec := { name := "priceChanges", fn := fun _ => fun
  | [d1, d2, d3, d4] => { results := [.lit (.bool false)], args := [d1, d2, d3, d4] }
  | _ => none }
def PriceChangesWrongFalsely : Prop := priceChangesRow.holds Tryz.pinned (OpenSpec.ofChange priceChangesWrong)

/-- 'mahlsticklaw08.PriceNearest': WHATEVER THE INPUT: true; the input reads as it did. -/
def priceNearestSpec : ChangeSpec := { name := "priceNearest", fn := fun _ => fun
  | [d1, d2, d3, d4, d5] => { results := [.lit (.bool true)], args := [d1, d2, d3, d4, d5] }
  | _ => none }
def priceNearestRow : OpenClaim := { program := "ytfnkjclplfhjcaagreatdoor", sum := "ca1d7f0d3fdf21d6c6ca77d913b86501576e7fd8595a92d8d7fee29f7e732e38", func := "mahlstick/mahlsticklaw08.PriceNearest", spec := "priceNearest", inPlace := ["internal/bytealg.CountString", "internal/bytealg.IndexByteString", "internal/bytealg.IndexString", "internal/abi.NoEscape", "internal/bytealg.MakeNoZero"], unfollowed := true, recurses := true, named := ["unicode/utf8.first", "unicode/utf8.acceptRanges", "internal/bytealg.MaxLen", "internal/strconv.uint64pow10", "math/bits.deBruijn32tab", "math/bits.deBruijn64tab"], plainKeys := false, apart := false, laid := [("math/bits.deBruijn32tab", laid_math_bits_deBruijn32tab), ("math/bits.deBruijn64tab", laid_math_bits_deBruijn64tab), ("internal/strconv.uint64pow10", laid_internal_strconv_uint64pow10), ("unicode/utf8.acceptRanges", laid_unicode_utf8_acceptRanges), ("unicode/utf8.first", laid_unicode_utf8_first)] }
def PriceNearestSaid : Prop := priceNearestRow.holds Tryz.pinned (OpenSpec.ofChange priceNearestSpec)

/-- ITS FALSE NEIGHBOUR: 'it returns false'. Refute it at one input. -/
def priceNearestWrong : ChangeSpec := { name := "priceNearest", fn := fun _ => fun
  | [d1, d2, d3, d4, d5] => { results := [.lit (.bool false)], args := [d1, d2, d3, d4, d5] }
  | _ => none }
def PriceNearestWrongFalsely : Prop := priceNearestRow.holds Tryz.pinned (OpenSpec.ofChange priceNearestWrong)

/-- 'mahlsticklaw08.PriceShares': WHATEVER THE INPUT: true; the input reads as it did. -/
def priceSharesSpec : ChangeSpec := { name := "priceShares", fn := fun _ => fun
  | [d1, d2, d3] => { results := [.lit (.bool true)], args := [d1, d2, d3] }
  | _ => none }
def priceSharesRow : OpenClaim := { program := "ytfnkjclplfhjcaagreatdoor", sum := "ca1d7f0d3fdf21d6c6ca77d913b86501576e7fd8595a92d8d7fee29f7e732e38", func := "mahlstick/mahlsticklaw08.PriceShares", spec := "priceShares", inPlace := ["internal/bytealg.CountString", "internal/bytealg.IndexByteString", "internal/bytealg.IndexString", "internal/abi.NoEscape", "internal/bytealg.MakeNoZero"], unfollowed := true, recurses := true, named := ["unicode/utf8.first", "unicode/utf8.acceptRanges", "internal/bytealg.MaxLen", "internal/strconv.uint64pow10", "math/bits.deBruijn32tab", "math/bits.deBruijn64tab"], plainKeys := false, apart := false, laid := [("math/bits.deBruijn32tab", laid_math_bits_deBruijn32tab), ("math/bits.deBruijn64tab", laid_math_bits_deBruijn64tab), ("internal/strconv.uint64pow10", laid_internal_strconv_uint64pow10), ("unicode/utf8.acceptRanges", laid_unicode_utf8_acceptRanges), ("unicode/utf8.first", laid_unicode_utf8_first)] }
def PriceSharesSaid : Prop := priceSharesRow.holds Tryz.pinned (OpenSpec.ofChange priceSharesSpec)

/-- ITS FALSE NEIGHBOUR: 'it returns false'. Refute it at one input. -/
def priceSharesWrong : ChangeSpec := { name := "priceShares", fn := fun _ => fun
  | [d1, d2, d3] => { results := [.lit (.bool false)], args := [d1, d2, d3] }
  | _ => none }
def PriceSharesWrongFalsely : Prop := priceSharesRow.holds Tryz.pinned (OpenSpec.ofChange priceSharesWrong)

/-- 'mahlsticklaw08.PriceJust': WHATEVER THE INPUT: true; the input reads as it did. -/
def priceJustSpec : ChangeSpec := { name := "priceJust", fn := fun _ => fun
  | [d1, d2, d3, d4] => { results := [.lit (.bool true)], args := [d1, d2, d3, d4] }
  | _ => none }
def priceJustRow : OpenClaim := { program := "ytfnkjclplfhjcaagreatdoor", sum := "ca1d7f0d3fdf21d6c6ca77d913b86501576e7fd8595a92d8d7fee29f7e732e38", func := "mahlstick/mahlsticklaw08.PriceJust", spec := "priceJust", inPlace := ["internal/bytealg.CountString", "internal/bytealg.IndexByteString", "internal/bytealg.IndexString", "internal/abi.NoEscape", "internal/bytealg.MakeNoZero"], unfollowed := true, recurses := true, named := ["unicode/utf8.first", "unicode/utf8.acceptRanges", "internal/bytealg.MaxLen", "internal/strconv.uint64pow10", "math/bits.deBruijn32tab", "math/bits.deBruijn64tab"], plainKeys := false, apart := false, laid := [("math/bits.deBruijn32tab", laid_math_bits_deBruijn32tab), ("math/bits.deBruijn64tab", laid_math_bits_deBruijn64tab), ("internal/strconv.uint64pow10", laid_internal_strconv_uint64pow10), ("unicode/utf8.acceptRanges", laid_unicode_utf8_acceptRanges), ("unicode/utf8.first", laid_unicode_utf8_first)] }
def PriceJustSaid : Prop := priceJustRow.holds Tryz.pinned (OpenSpec.ofChange priceJustSpec)

/-- ITS FALSE NEIGHBOUR: 'it returns false'. Refute it at one input. -/
def priceJustWrong : ChangeSpec := { name := "priceJust", fn := fun _ => fun
  | [d1, d2, d3, d4] => { results := [.lit (.bool false)], args := [d1, d2, d3, d4] }
  | _ => none }
def PriceJustWrongFalsely : Prop := priceJustRow.holds Tryz.pinned (OpenSpec.ofChange priceJustWrong)

/-- 'mahlsticklaw08.PriceOwes': WHATEVER THE INPUT: true; the input reads as it did. -/
def priceOwesSpec : ChangeSpec := { name := "priceOwes", fn := fun _ => fun
  | [d1, d2, d3] => { results := [.lit (.bool true)], args := [d1, d2, d3] }
  | _ => none }
def priceOwesRow : OpenClaim := { program := "ytfnkjclplfhjcaagreatdoor", sum := "ca1d7f0d3fdf21d6c6ca77d913b86501576e7fd8595a92d8d7fee29f7e732e38", func := "mahlstick/mahlsticklaw08.PriceOwes", spec := "priceOwes", inPlace := ["internal/bytealg.CountString", "internal/bytealg.IndexByteString", "internal/bytealg.IndexString", "internal/abi.NoEscape", "internal/bytealg.MakeNoZero"], unfollowed := true, recurses := true, named := ["unicode/utf8.first", "unicode/utf8.acceptRanges", "internal/bytealg.MaxLen", "internal/strconv.uint64pow10", "math/bits.deBruijn32tab", "math/bits.deBruijn64tab"], plainKeys := false, apart := false, laid := [("math/bits.deBruijn32tab", laid_math_bits_deBruijn32tab), ("math/bits.deBruijn64tab", laid_math_bits_deBruijn64tab), ("internal/strconv.uint64pow10", laid_internal_strconv_uint64pow10), ("unicode/utf8.acceptRanges", laid_unicode_utf8_acceptRanges), ("unicode/utf8.first", laid_unicode_utf8_first)] }
def PriceOwesSaid : Prop := priceOwesRow.holds Tryz.pinned (OpenSpec.ofChange priceOwesSpec)

/-- ITS FALSE NEIGHBOUR: 'it returns false'. Refute it at one input. -/
def priceOwesWrong : ChangeSpec := { name := "priceOwes", fn := fun _ => fun
  | [d1, d2, d3] => { results := [.lit (.bool false)], args := [d1, d2, d3] }
  | _ => none }
def PriceOwesWrongFalsely : Prop := priceOwesRow.holds Tryz.pinned (OpenSpec.ofChange priceOwesWrong)

/-- 'mahlsticklaw08.PriceOff': WHATEVER THE INPUT: true; the input reads as it did. -/
def priceOffSpec : ChangeSpec := { name := "priceOff", fn := fun _ => fun
  | [d1, d2, d3, d4, d5] => { results := [.lit (.bool true)], args := [d1, d2, d3, d4, d5] }
  | _ => none }
def priceOffRow : OpenClaim := { program := "ytfnkjclplfhjcaagreatdoor", sum := "ca1d7f0d3fdf21d6c6ca77d913b86501576e7fd8595a92d8d7fee29f7e732e38", func := "mahlstick/mahlsticklaw08.PriceOff", spec := "priceOff", inPlace := ["internal/bytealg.CountString", "internal/bytealg.IndexByteString", "internal/bytealg.IndexString", "internal/abi.NoEscape", "internal/bytealg.MakeNoZero"], unfollowed := true, recurses := true, named := ["unicode/utf8.first", "unicode/utf8.acceptRanges", "internal/bytealg.MaxLen", "internal/strconv.uint64pow10", "math/bits.deBruijn32tab", "math/bits.deBruijn64tab"], plainKeys := false, apart := false, laid := [("math/bits.deBruijn32tab", laid_math_bits_deBruijn32tab), ("math/bits.deBruijn64tab", laid_math_bits_deBruijn64tab), ("internal/strconv.uint64pow10", laid_internal_strconv_uint64pow10), ("unicode/utf8.acceptRanges", laid_unicode_utf8_acceptRanges), ("unicode/utf8.first", laid_unicode_utf8_first)] }
def PriceOffSaid : Prop := priceOffRow.holds Tryz.pinned (OpenSpec.ofChange priceOffSpec)

/-- ITS FALSE NEIGHBOUR: 'it returns false'. Refute it at one input. -/
def priceOffWrong : ChangeSpec := { name := "priceOff", fn := fun _ => fun
  | [d1, d2, d3, d4, d5] => { results := [.lit (.bool false)], args := [d1, d2, d3, d4, d5] }
  | _ => none }
def PriceOffWrongFalsely : Prop := priceOffRow.holds Tryz.pinned (OpenSpec.ofChange priceOffWrong)

/-- 'mahlsticklaw08.PriceMore': WHATEVER THE INPUT: true; the input reads as it did. -/
def priceMoreSpec : ChangeSpec := { name := "priceMore", fn := fun _ => fun
  | [d1, d2, d3, d4, d5, d6] => { results := [.lit (.bool true)], args := [d1, d2, d3, d4, d5, d6] }
  | _ => none }
def priceMoreRow : OpenClaim := { program := "ytfnkjclplfhjcaagreatdoor", sum := "ca1d7f0d3fdf21d6c6ca77d913b86501576e7fd8595a92d8d7fee29f7e732e38", func := "mahlstick/mahlsticklaw08.PriceMore", spec := "priceMore", inPlace := ["internal/bytealg.CountString", "internal/bytealg.IndexByteString", "internal/bytealg.IndexString", "internal/abi.NoEscape", "internal/bytealg.MakeNoZero"], unfollowed := true, recurses := true, named := ["unicode/utf8.first", "unicode/utf8.acceptRanges", "internal/bytealg.MaxLen", "internal/strconv.uint64pow10", "math/bits.deBruijn32tab", "math/bits.deBruijn64tab"], plainKeys := false, apart := false, laid := [("math/bits.deBruijn32tab", laid_math_bits_deBruijn32tab), ("math/bits.deBruijn64tab", laid_math_bits_deBruijn64tab), ("internal/strconv.uint64pow10", laid_internal_strconv_uint64pow10), ("unicode/utf8.acceptRanges", laid_unicode_utf8_acceptRanges), ("unicode/utf8.first", laid_unicode_utf8_first)] }
def PriceMoreSaid : Prop := priceMoreRow.holds Tryz.pinned (OpenSpec.ofChange priceMoreSpec)

/-- ITS FALSE NEIGHBOUR: 'it returns false'. Refute it at one input. -/
def priceMoreWrong : ChangeSpec := { name := "priceMore", fn := fun _ => fun
  | [d1, d2, d3, d4, d5, d6] => { results := [.lit (.bool false)], args := [d1, d2, d3, d4, d5, d6] }
  | _ => none }
def PriceMoreWrongFalsely : Prop := priceMoreRow.holds Tryz.pinned (OpenSpec.ofChange priceMoreWrong)

/-- 'mahlsticklaw08.PriceMoved': WHATEVER THE INPUT: true; the input reads as it did. -/
def priceMovedSpec : ChangeSpec := { name := "priceMoved", fn := fun _ => fun
  | [d1, d2, d3, d4, d5] => { results := [.lit (.bool true)], args := [d1, d2, d3, d4, d5] }
  | _ => none }
def priceMovedRow : OpenClaim := { program := "ytfnkjclplfhjcaagreatdoor", sum := "ca1d7f0d3fdf21d6c6ca77d913b86501576e7fd8595a92d8d7fee29f7e732e38", func := "mahlstick/mahlsticklaw08.PriceMoved", spec := "priceMoved", inPlace := ["internal/bytealg.CountString", "internal/bytealg.IndexByteString", "internal/bytealg.IndexString", "internal/abi.NoEscape", "internal/bytealg.MakeNoZero"], unfollowed := true, recurses := true, named := ["unicode/utf8.first", "unicode/utf8.acceptRanges", "internal/bytealg.MaxLen", "internal/strconv.uint64pow10", "math/bits.deBruijn32tab", "math/bits.deBruijn64tab"], plainKeys := false, apart := false, laid := [("math/bits.deBruijn32tab", laid_math_bits_deBruijn32tab), ("math/bits.deBruijn64tab", laid_math_bits_deBruijn64tab), ("internal/strconv.uint64pow10", laid_internal_strconv_uint64pow10), ("unicode/utf8.acceptRanges", laid_unicode_utf8_acceptRanges), ("unicode/utf8.first", laid_unicode_utf8_first)] }
def PriceMovedSaid : Prop := priceMovedRow.holds Tryz.pinned (OpenSpec.ofChange priceMovedSpec)

/-- ITS FALSE NEIGHBOUR: 'it returns false'. Refute it at one input. -/
def priceMovedWrong : ChangeSpec := { name := "priceMoved", fn := fun _ => fun
  | [d1, d2, d3, d4, d5] => { results := [.lit (.bool false)], args := [d1, d2, d3, d4, d5] }
  | _ => none }
def PriceMovedWrongFalsely : Prop := priceMovedRow.holds Tryz.pinned (OpenSpec.ofChange priceMovedWrong)

/-- 'mahlsticklaw08.PricePaids': WHATEVER THE INPUT: true; the input reads as it did. -/
def pricePaidsSpec : ChangeSpec := { name := "pricePaids", fn := fun _ => fun
  | [d1, d2, d3] => { results := [.lit (.bool true)], args := [d1, d2, d3] }
  | _ => none }
def pricePaidsRow : OpenClaim := { program := "ytfnkjclplfhjcaagreatdoor", sum := "ca1d7f0d3fdf21d6c6ca77d913b86501576e7fd8595a92d8d7fee29f7e732e38", func := "mahlstick/mahlsticklaw08.PricePaids", spec := "pricePaids", inPlace := ["internal/bytealg.CountString", "internal/bytealg.IndexByteString", "internal/bytealg.IndexString", "internal/abi.NoEscape", "internal/bytealg.MakeNoZero"], unfollowed := true, recurses := true, named := ["unicode/utf8.first", "unicode/utf8.acceptRanges", "internal/bytealg.MaxLen", "internal/strconv.uint64pow10", "math/bits.deBruijn32tab", "math/bits.deBruijn64tab"], plainKeys := false, apart := false, laid := [("math/bits.deBruijn32tab", laid_math_bits_deBruijn32tab), ("math/bits.deBruijn64tab", laid_math_bits_deBruijn64tab), ("internal/strconv.uint64pow10", laid_internal_strconv_uint64pow10), ("unicode/utf8.acceptRanges", laid_unicode_utf8_acceptRanges), ("unicode/utf8.first", laid_unicode_utf8_first)] }
def PricePaidsSaid : Prop := pricePaidsRow.holds Tryz.pinned (OpenSpec.ofChange pricePaidsSpec)

/-- ITS FALSE NEIGHBOUR: 'it returns false'. Refute it at one input. -/
def pricePaidsWrong : ChangeSpec := { name := "pricePaids", fn := fun _ => fun
  | [d1, d2, d3] => { results := [.lit (.bool false)], args := [d1, d2, d3] }
  | _ => none }
def PricePaidsWrongFalsely : Prop := pricePaidsRow.holds Tryz.pinned (OpenSpec.ofChange pricePaidsWrong)

/-- 'mahlsticklaw08.PricePrints': WHATEVER THE INPUT: true; the input reads as it did. -/
def pricePrintsSpec : ChangeSpec := { name := "pricePrints", fn := fun _ => fun
  | [d] => { results := [.lit (.bool true)], args := [d] }
  | _ => none }
def pricePrintsRow : OpenClaim := { program := "ytfnkjclplfhjcaagreatdoor", sum := "ca1d7f0d3fdf21d6c6ca77d913b86501576e7fd8595a92d8d7fee29f7e732e38", func := "mahlstick/mahlsticklaw08.PricePrints", spec := "pricePrints", inPlace := ["internal/bytealg.CountString", "internal/bytealg.IndexByteString", "internal/bytealg.IndexString", "internal/abi.NoEscape", "internal/bytealg.MakeNoZero"], unfollowed := true, recurses := true, named := ["unicode/utf8.first", "unicode/utf8.acceptRanges", "internal/bytealg.MaxLen", "internal/strconv.uint64pow10", "math/bits.deBruijn32tab", "math/bits.deBruijn64tab"], plainKeys := false, apart := false, laid := [("math/bits.deBruijn32tab", laid_math_bits_deBruijn32tab), ("math/bits.deBruijn64tab", laid_math_bits_deBruijn64tab), ("internal/strconv.uint64pow10", laid_internal_strconv_uint64pow10), ("unicode/utf8.acceptRanges", laid_unicode_utf8_acceptRanges), ("unicode/utf8.first", laid_unicode_utf8_first)] }
def PricePrintsSaid : Prop := pricePrintsRow.holds Tryz.pinned (OpenSpec.ofChange pricePrintsSpec)

/-- ITS FALSE NEIGHBOUR: 'it returns false'. Refute it at one input. -/
def pricePrintsWrong : ChangeSpec := { name := "pricePrints", fn := fun _ => fun
  | [d] => { results := [.lit (.bool false)], args := [d] }
  | _ => none }
def PricePrintsWrongFalsely : Prop := pricePrintsRow.holds Tryz.pinned (OpenSpec.ofChange pricePrintsWrong)

/-- 'mahlsticklaw08.PriceReads': WHATEVER THE INPUT: true; the input reads as it did. -/
def priceReadsSpec : ChangeSpec := { name := "priceReads", fn := fun _ => fun
  | [d] => { results := [.lit (.bool true)], args := [d] }
  | _ => none }
def priceReadsRow : OpenClaim := { program := "ytfnkjclplfhjcaagreatdoor", sum := "ca1d7f0d3fdf21d6c6ca77d913b86501576e7fd8595a92d8d7fee29f7e732e38", func := "mahlstick/mahlsticklaw08.PriceReads", spec := "priceReads", inPlace := ["internal/bytealg.CountString", "internal/bytealg.IndexByteString", "internal/bytealg.IndexString", "internal/abi.NoEscape", "internal/bytealg.MakeNoZero"], unfollowed := true, recurses := true, named := ["unicode/utf8.first", "unicode/utf8.acceptRanges", "internal/bytealg.MaxLen", "internal/strconv.uint64pow10", "math/bits.deBruijn32tab", "math/bits.deBruijn64tab"], plainKeys := false, apart := false, laid := [("math/bits.deBruijn32tab", laid_math_bits_deBruijn32tab), ("math/bits.deBruijn64tab", laid_math_bits_deBruijn64tab), ("internal/strconv.uint64pow10", laid_internal_strconv_uint64pow10), ("unicode/utf8.acceptRanges", laid_unicode_utf8_acceptRanges), ("unicode/utf8.first", laid_unicode_utf8_first)] }
def PriceReadsSaid : Prop := priceReadsRow.holds Tryz.pinned (OpenSpec.ofChange priceReadsSpec)

/-- ITS FALSE NEIGHBOUR: 'it returns false'. Refute it at one input. -/
def priceReadsWrong : ChangeSpec := { name := "priceReads", fn := fun _ => fun
  | [d] => { results := [.lit (.bool false)], args := [d] }
  | _ => none }
def PriceReadsWrongFalsely : Prop := priceReadsRow.holds Tryz.pinned (OpenSpec.ofChange priceReadsWrong)

/-- 'mahlsticklaw08.PriceSpoilt': WHATEVER THE INPUT: true; the input reads as it did. -/
def priceSpoiltSpec : ChangeSpec := { name := "priceSpoilt", fn := fun _ => fun
  | [d1, d2, d3] => { results := [.lit (.bool true)], args := [d1, d2, d3] }
  | _ => none }
def priceSpoiltRow : OpenClaim := { program := "ytfnkjclplfhjcaagreatdoor", sum := "ca1d7f0d3fdf21d6c6ca77d913b86501576e7fd8595a92d8d7fee29f7e732e38", func := "mahlstick/mahlsticklaw08.PriceSpoilt", spec := "priceSpoilt", inPlace := ["internal/bytealg.CountString", "internal/bytealg.IndexByteString", "internal/bytealg.IndexString", "internal/abi.NoEscape", "internal/bytealg.MakeNoZero"], unfollowed := true, recurses := true, named := ["unicode/utf8.first", "unicode/utf8.acceptRanges", "internal/bytealg.MaxLen", "internal/strconv.uint64pow10", "math/bits.deBruijn32tab", "math/bits.deBruijn64tab"], plainKeys := false, apart := false, laid := [("math/bits.deBruijn32tab", laid_math_bits_deBruijn32tab), ("math/bits.deBruijn64tab", laid_math_bits_deBruijn64tab), ("internal/strconv.uint64pow10", laid_internal_strconv_uint64pow10), ("unicode/utf8.acceptRanges", laid_unicode_utf8_acceptRanges), ("unicode/utf8.first", laid_unicode_utf8_first)] }
def PriceSpoiltSaid : Prop := priceSpoiltRow.holds Tryz.pinned (OpenSpec.ofChange priceSpoiltSpec)

/-- ITS FALSE NEIGHBOUR: 'it returns false'. Refute it at one input. -/
def priceSpoiltWrong : ChangeSpec := { name := "priceSpoilt", fn := fun _ => fun
  | [d1, d2, d3] => { results := [.lit (.bool false)], args := [d1, d2, d3] }
  | _ => none }
def PriceSpoiltWrongFalsely : Prop := priceSpoiltRow.holds Tryz.pinned (OpenSpec.ofChange priceSpoiltWrong)

/- THE SECOND FORM. 'bulk': how many values and letters a reading holds, each counted each time it is reached (what is shared counts as often as it is met; a slice's spare places count too). A statement '..UptoSaid' is the law's where the arguments, and the package variables that the reading takes, are together of bulk at most 1048576: NARROWER than '..Said'. Prove '..Said' where nothing that the law and all that it calls make is longer than what came in: it says more and counts as full. Else prove '..UptoSaid'. A law counts once. -/
mutual
def uptoBulk {H : Type} : DataW H → Nat
  | .lit (.string bytes) => bytes.length + 1
  | .lit _ => 1
  | .nil => 1
  | .ptr d => uptoBulk d + 1
  | .slice elems spare => uptoBulkAll elems + uptoBulkAll spare + 1
  | .agg parts => uptoBulkAll parts + 1
  | .iface _ d => uptoBulk d + 1
  | .map entries => uptoBulkEntries entries + 1
  | .held _ => 1
def uptoBulkAll {H : Type} : List (DataW H) → Nat
  | [] => 0
  | d :: r => uptoBulk d + uptoBulkAll r
def uptoBulkEntries {H : Type} : List (Lit × DataW H) → Nat
  | [] => 0
  | x :: r => uptoBulkEntry x + uptoBulkEntries r
def uptoBulkEntry {H : Type} : Lit × DataW H → Nat
  | (.string bytes, d) => bytes.length + uptoBulk d + 1
  | (_, d) => uptoBulk d + 1
 end
def uptoSmall : (H : Type) → List (DataW H) → Bool := fun _ ds => decide (uptoBulkAll ds ≤ 1048576)
def OpenSpec.upto (s : _root_.Go.ChangeSpec) : _root_.Go.OpenSpec := { _root_.Go.OpenSpec.ofChange s with cond := some uptoSmall }

/-- 'mahlsticklaw08.PriceBetween', WHERE WHAT IT READS IS OF BULK AT MOST 1048576: true; the input reads as it did. -/
def priceBetweenUptoRow : OpenClaim := { program := "ytfnkjclplfhjcaagreatdoor", sum := "ca1d7f0d3fdf21d6c6ca77d913b86501576e7fd8595a92d8d7fee29f7e732e38", func := "mahlstick/mahlsticklaw08.PriceBetween", spec := "priceBetween", inPlace := ["internal/bytealg.CountString", "internal/bytealg.IndexByteString", "internal/bytealg.IndexString", "internal/abi.NoEscape", "internal/bytealg.MakeNoZero"], unfollowed := true, recurses := true, named := ["unicode/utf8.first", "unicode/utf8.acceptRanges", "internal/bytealg.MaxLen", "internal/strconv.uint64pow10", "math/bits.deBruijn32tab", "math/bits.deBruijn64tab"], plainKeys := false, apart := false, laid := [("math/bits.deBruijn32tab", laid_math_bits_deBruijn32tab), ("math/bits.deBruijn64tab", laid_math_bits_deBruijn64tab), ("internal/strconv.uint64pow10", laid_internal_strconv_uint64pow10), ("unicode/utf8.acceptRanges", laid_unicode_utf8_acceptRanges), ("unicode/utf8.first", laid_unicode_utf8_first)], narrowed := true }
def PriceBetweenUptoSaid : Prop := priceBetweenUptoRow.holds Tryz.pinned (OpenSpec.upto priceBetweenSpec)

/-- 'mahlsticklaw08.PriceParts', WHERE WHAT IT READS IS OF BULK AT MOST 1048576: true; the input reads as it did. -/
def pricePartsUptoRow : OpenClaim := { program := "ytfnkjclplfhjcaagreatdoor", sum := "ca1d7f0d3fdf21d6c6ca77d913b86501576e7fd8595a92d8d7fee29f7e732e38", func := "mahlstick/mahlsticklaw08.PriceParts", spec := "priceParts", inPlace := ["internal/bytealg.CountString", "internal/bytealg.IndexByteString", "internal/bytealg.IndexString", "internal/abi.NoEscape", "internal/bytealg.MakeNoZero"], unfollowed := true, recurses := true, named := ["unicode/utf8.first", "unicode/utf8.acceptRanges", "internal/bytealg.MaxLen", "internal/strconv.uint64pow10", "math/bits.deBruijn32tab", "math/bits.deBruijn64tab"], plainKeys := false, apart := false, laid := [("math/bits.deBruijn32tab", laid_math_bits_deBruijn32tab), ("math/bits.deBruijn64tab", laid_math_bits_deBruijn64tab), ("internal/strconv.uint64pow10", laid_internal_strconv_uint64pow10), ("unicode/utf8.acceptRanges", laid_unicode_utf8_acceptRanges), ("unicode/utf8.first", laid_unicode_utf8_first)], narrowed := true }
def PricePartsUptoSaid : Prop := pricePartsUptoRow.holds Tryz.pinned (OpenSpec.upto pricePartsSpec)

/-- 'mahlsticklaw08.PriceRules', WHERE WHAT IT READS IS OF BULK AT MOST 1048576: true; the input reads as it did. -/
def priceRulesUptoRow : OpenClaim := { program := "ytfnkjclplfhjcaagreatdoor", sum := "ca1d7f0d3fdf21d6c6ca77d913b86501576e7fd8595a92d8d7fee29f7e732e38", func := "mahlstick/mahlsticklaw08.PriceRules", spec := "priceRules", inPlace := ["internal/bytealg.CountString", "internal/bytealg.IndexByteString", "internal/bytealg.IndexString", "internal/abi.NoEscape", "internal/bytealg.MakeNoZero"], unfollowed := true, recurses := true, named := ["unicode/utf8.first", "unicode/utf8.acceptRanges", "internal/bytealg.MaxLen", "internal/strconv.uint64pow10", "math/bits.deBruijn32tab", "math/bits.deBruijn64tab"], plainKeys := false, apart := false, laid := [("math/bits.deBruijn32tab", laid_math_bits_deBruijn32tab), ("math/bits.deBruijn64tab", laid_math_bits_deBruijn64tab), ("internal/strconv.uint64pow10", laid_internal_strconv_uint64pow10), ("unicode/utf8.acceptRanges", laid_unicode_utf8_acceptRanges), ("unicode/utf8.first", laid_unicode_utf8_first)], narrowed := true }
def PriceRulesUptoSaid : Prop := priceRulesUptoRow.holds Tryz.pinned (OpenSpec.upto priceRulesSpec)

/-- 'mahlsticklaw08.PriceSames', WHERE WHAT IT READS IS OF BULK AT MOST 1048576: true; the input reads as it did. -/
def priceSamesUptoRow : OpenClaim := { program := "ytfnkjclplfhjcaagreatdoor", sum := "ca1d7f0d3fdf21d6c6ca77d913b86501576e7fd8595a92d8d7fee29f7e732e38", func := "mahlstick/mahlsticklaw08.PriceSames", spec := "priceSames", inPlace := ["internal/bytealg.CountString", "internal/bytealg.IndexByteString", "internal/bytealg.IndexString", "internal/abi.NoEscape", "internal/bytealg.MakeNoZero"], unfollowed := true, recurses := true, named := ["unicode/utf8.first", "unicode/utf8.acceptRanges", "internal/bytealg.MaxLen", "internal/strconv.uint64pow10", "math/bits.deBruijn32tab", "math/bits.deBruijn64tab"], plainKeys := false, apart := false, laid := [("math/bits.deBruijn32tab", laid_math_bits_deBruijn32tab), ("math/bits.deBruijn64tab", laid_math_bits_deBruijn64tab), ("internal/strconv.uint64pow10", laid_internal_strconv_uint64pow10), ("unicode/utf8.acceptRanges", laid_unicode_utf8_acceptRanges), ("unicode/utf8.first", laid_unicode_utf8_first)], narrowed := true }
def PriceSamesUptoSaid : Prop := priceSamesUptoRow.holds Tryz.pinned (OpenSpec.upto priceSamesSpec)

/-- 'mahlsticklaw08.PriceEqual', WHERE WHAT IT READS IS OF BULK AT MOST 1048576: true; the input reads as it did. -/
def priceEqualUptoRow : OpenClaim := { program := "ytfnkjclplfhjcaagreatdoor", sum := "ca1d7f0d3fdf21d6c6ca77d913b86501576e7fd8595a92d8d7fee29f7e732e38", func := "mahlstick/mahlsticklaw08.PriceEqual", spec := "priceEqual", inPlace := ["internal/bytealg.CountString", "internal/bytealg.IndexByteString", "internal/bytealg.IndexString", "internal/abi.NoEscape", "internal/bytealg.MakeNoZero"], unfollowed := true, recurses := true, named := ["unicode/utf8.first", "unicode/utf8.acceptRanges", "internal/bytealg.MaxLen", "internal/strconv.uint64pow10", "math/bits.deBruijn32tab", "math/bits.deBruijn64tab"], plainKeys := false, apart := false, laid := [("math/bits.deBruijn32tab", laid_math_bits_deBruijn32tab), ("math/bits.deBruijn64tab", laid_math_bits_deBruijn64tab), ("internal/strconv.uint64pow10", laid_internal_strconv_uint64pow10), ("unicode/utf8.acceptRanges", laid_unicode_utf8_acceptRanges), ("unicode/utf8.first", laid_unicode_utf8_first)], narrowed := true }
def PriceEqualUptoSaid : Prop := priceEqualUptoRow.holds Tryz.pinned (OpenSpec.upto priceEqualSpec)

/-- 'mahlsticklaw08.PriceWheres', WHERE WHAT IT READS IS OF BULK AT MOST 1048576: true; the input reads as it did. -/
def priceWheresUptoRow : OpenClaim := { program := "ytfnkjclplfhjcaagreatdoor", sum := "ca1d7f0d3fdf21d6c6ca77d913b86501576e7fd8595a92d8d7fee29f7e732e38", func := "mahlstick/mahlsticklaw08.PriceWheres", spec := "priceWheres", inPlace := ["internal/bytealg.CountString", "internal/bytealg.IndexByteString", "internal/bytealg.IndexString", "internal/abi.NoEscape", "internal/bytealg.MakeNoZero"], unfollowed := true, recurses := true, named := ["unicode/utf8.first", "unicode/utf8.acceptRanges", "internal/bytealg.MaxLen", "internal/strconv.uint64pow10", "math/bits.deBruijn32tab", "math/bits.deBruijn64tab"], plainKeys := false, apart := false, laid := [("math/bits.deBruijn32tab", laid_math_bits_deBruijn32tab), ("math/bits.deBruijn64tab", laid_math_bits_deBruijn64tab), ("internal/strconv.uint64pow10", laid_internal_strconv_uint64pow10), ("unicode/utf8.acceptRanges", laid_unicode_utf8_acceptRanges), ("unicode/utf8.first", laid_unicode_utf8_first)], narrowed := true }
def PriceWheresUptoSaid : Prop := priceWheresUptoRow.holds Tryz.pinned (OpenSpec.upto priceWheresSpec)

/-- 'mahlsticklaw08.PriceFirst', WHERE WHAT IT READS IS OF BULK AT MOST 1048576: true; the input reads as it did. -/
def priceFirstUptoRow : OpenClaim := { program := "ytfnkjclplfhjcaagreatdoor", sum := "ca1d7f0d3fdf21d6c6ca77d913b86501576e7fd8595a92d8d7fee29f7e732e38", func := "mahlstick/mahlsticklaw08.PriceFirst", spec := "priceFirst", inPlace := ["internal/bytealg.CountString", "internal/bytealg.IndexByteString", "internal/bytealg.IndexString", "internal/abi.NoEscape", "internal/bytealg.MakeNoZero"], unfollowed := true, recurses := true, named := ["unicode/utf8.first", "unicode/utf8.acceptRanges", "internal/bytealg.MaxLen", "internal/strconv.uint64pow10", "math/bits.deBruijn32tab", "math/bits.deBruijn64tab"], plainKeys := false, apart := false, laid := [("math/bits.deBruijn32tab", laid_math_bits_deBruijn32tab), ("math/bits.deBruijn64tab", laid_math_bits_deBruijn64tab), ("internal/strconv.uint64pow10", laid_internal_strconv_uint64pow10), ("unicode/utf8.acceptRanges", laid_unicode_utf8_acceptRanges), ("unicode/utf8.first", laid_unicode_utf8_first)], narrowed := true }
def PriceFirstUptoSaid : Prop := priceFirstUptoRow.holds Tryz.pinned (OpenSpec.upto priceFirstSpec)

/-- 'mahlsticklaw08.PriceChanges', WHERE WHAT IT READS IS OF BULK AT MOST 1048576: true; the input reads as it did. -/
def priceChangesUptoRow : OpenClaim := { program := "ytfnkjclplfhjcaagreatdoor", sum := "ca1d7f0d3fdf21d6c6ca77d913b86501576e7fd8595a92d8d7fee29f7e732e38", func := "mahlstick/mahlsticklaw08.PriceChanges", spec := "priceChanges", inPlace := ["internal/bytealg.CountString", "internal/bytealg.IndexByteString", "internal/bytealg.IndexString", "internal/abi.NoEscape", "internal/bytealg.MakeNoZero"], unfollowed := true, recurses := true, named := ["unicode/utf8.first", "unicode/utf8.acceptRanges", "internal/bytealg.MaxLen", "internal/strconv.uint64pow10", "math/bits.deBruijn32tab", "math/bits.deBruijn64tab"], plainKeys := false, apart := false, laid := [("math/bits.deBruijn32tab", laid_math_bits_deBruijn32tab), ("math/bits.deBruijn64tab", laid_math_bits_deBruijn64tab), ("internal/strconv.uint64pow10", laid_internal_strconv_uint64pow10), ("unicode/utf8.acceptRanges", laid_unicode_utf8_acceptRanges), ("unicode/utf8.first", laid_unicode_utf8_first)], narrowed := true }
def PriceChangesUptoSaid : Prop := priceChangesUptoRow.holds Tryz.pinned (OpenSpec.upto priceChangesSpec)

/-- 'mahlsticklaw08.PriceNearest', WHERE WHAT IT READS IS OF BULK AT MOST 1048576: true; the input reads as it did. -/
def priceNearestUptoRow : OpenClaim := { program := "ytfnkjclplfhjcaagreatdoor", sum := "ca1d7f0d3fdf21d6c6ca77d913b86501576e7fd8595a92d8d7fee29f7e732e38", func := "mahlstick/mahlsticklaw08.PriceNearest", spec := "priceNearest", inPlace := ["internal/bytealg.CountString", "internal/bytealg.IndexByteString", "internal/bytealg.IndexString", "internal/abi.NoEscape", "internal/bytealg.MakeNoZero"], unfollowed := true, recurses := true, named := ["unicode/utf8.first", "unicode/utf8.acceptRanges", "internal/bytealg.MaxLen", "internal/strconv.uint64pow10", "math/bits.deBruijn32tab", "math/bits.deBruijn64tab"], plainKeys := false, apart := false, laid := [("math/bits.deBruijn32tab", laid_math_bits_deBruijn32tab), ("math/bits.deBruijn64tab", laid_math_bits_deBruijn64tab), ("internal/strconv.uint64pow10", laid_internal_strconv_uint64pow10), ("unicode/utf8.acceptRanges", laid_unicode_utf8_acceptRanges), ("unicode/utf8.first", laid_unicode_utf8_first)], narrowed := true }
def PriceNearestUptoSaid : Prop := priceNearestUptoRow.holds Tryz.pinned (OpenSpec.upto priceNearestSpec)

/-- 'mahlsticklaw08.PriceShares', WHERE WHAT IT READS IS OF BULK AT MOST 1048576: true; the input reads as it did. -/
def priceSharesUptoRow : OpenClaim := { program := "ytfnkjclplfhjcaagreatdoor", sum := "ca1d7f0d3fdf21d6c6ca77d913b86501576e7fd8595a92d8d7fee29f7e732e38", func := "mahlstick/mahlsticklaw08.PriceShares", spec := "priceShares", inPlace := ["internal/bytealg.CountString", "internal/bytealg.IndexByteString", "internal/bytealg.IndexString", "internal/abi.NoEscape", "internal/bytealg.MakeNoZero"], unfollowed := true, recurses := true, named := ["unicode/utf8.first", "unicode/utf8.acceptRanges", "internal/bytealg.MaxLen", "internal/strconv.uint64pow10", "math/bits.deBruijn32tab", "math/bits.deBruijn64tab"], plainKeys := false, apart := false, laid := [("math/bits.deBruijn32tab", laid_math_bits_deBruijn32tab), ("math/bits.deBruijn64tab", laid_math_bits_deBruijn64tab), ("internal/strconv.uint64pow10", laid_internal_strconv_uint64pow10), ("unicode/utf8.acceptRanges", laid_unicode_utf8_acceptRanges), ("unicode/utf8.first", laid_unicode_utf8_first)], narrowed := true }
def PriceSharesUptoSaid : Prop := priceSharesUptoRow.holds Tryz.pinned (OpenSpec.upto priceSharesSpec)

/-- 'mahlsticklaw08.PriceJust', WHERE WHAT IT READS IS OF BULK AT MOST 1048576: true; the input reads as it did. -/
def priceJustUptoRow : OpenClaim := { program := "ytfnkjclplfhjcaagreatdoor", sum := "ca1d7f0d3fdf21d6c6ca77d913b86501576e7fd8595a92d8d7fee29f7e732e38", func := "mahlstick/mahlsticklaw08.PriceJust", spec := "priceJust", inPlace := ["internal/bytealg.CountString", "internal/bytealg.IndexByteString", "internal/bytealg.IndexString", "internal/abi.NoEscape", "internal/bytealg.MakeNoZero"], unfollowed := true, recurses := true, named := ["unicode/utf8.first", "unicode/utf8.acceptRanges", "internal/bytealg.MaxLen", "internal/strconv.uint64pow10", "math/bits.deBruijn32tab", "math/bits.deBruijn64tab"], plainKeys := false, apart := false, laid := [("math/bits.deBruijn32tab", laid_math_bits_deBruijn32tab), ("math/bits.deBruijn64tab", laid_math_bits_deBruijn64tab), ("internal/strconv.uint64pow10", laid_internal_strconv_uint64pow10), ("unicode/utf8.acceptRanges", laid_unicode_utf8_acceptRanges), ("unicode/utf8.first", laid_unicode_utf8_first)], narrowed := true }
def PriceJustUptoSaid : Prop := priceJustUptoRow.holds Tryz.pinned (OpenSpec.upto priceJustSpec)

/-- 'mahlsticklaw08.PriceOwes', WHERE WHAT IT READS IS OF BULK AT MOST 1048576: true; the input reads as it did. -/
def priceOwesUptoRow : OpenClaim := { program := "ytfnkjclplfhjcaagreatdoor", sum := "ca1d7f0d3fdf21d6c6ca77d913b86501576e7fd8595a92d8d7fee29f7e732e38", func := "mahlstick/mahlsticklaw08.PriceOwes", spec := "priceOwes", inPlace := ["internal/bytealg.CountString", "internal/bytealg.IndexByteString", "internal/bytealg.IndexString", "internal/abi.NoEscape", "internal/bytealg.MakeNoZero"], unfollowed := true, recurses := true, named := ["unicode/utf8.first", "unicode/utf8.acceptRanges", "internal/bytealg.MaxLen", "internal/strconv.uint64pow10", "math/bits.deBruijn32tab", "math/bits.deBruijn64tab"], plainKeys := false, apart := false, laid := [("math/bits.deBruijn32tab", laid_math_bits_deBruijn32tab), ("math/bits.deBruijn64tab", laid_math_bits_deBruijn64tab), ("internal/strconv.uint64pow10", laid_internal_strconv_uint64pow10), ("unicode/utf8.acceptRanges", laid_unicode_utf8_acceptRanges), ("unicode/utf8.first", laid_unicode_utf8_first)], narrowed := true }
def PriceOwesUptoSaid : Prop := priceOwesUptoRow.holds Tryz.pinned (OpenSpec.upto priceOwesSpec)

/-- 'mahlsticklaw08.PriceOff', WHERE WHAT IT READS IS OF BULK AT MOST 1048576: true; the input reads as it did. -/
def priceOffUptoRow : OpenClaim := { program := "ytfnkjclplfhjcaagreatdoor", sum := "ca1d7f0d3fdf21d6c6ca77d913b86501576e7fd8595a92d8d7fee29f7e732e38", func := "mahlstick/mahlsticklaw08.PriceOff", spec := "priceOff", inPlace := ["internal/bytealg.CountString", "internal/bytealg.IndexByteString", "internal/bytealg.IndexString", "internal/abi.NoEscape", "internal/bytealg.MakeNoZero"], unfollowed := true, recurses := true, named := ["unicode/utf8.first", "unicode/utf8.acceptRanges", "internal/bytealg.MaxLen", "internal/strconv.uint64pow10", "math/bits.deBruijn32tab", "math/bits.deBruijn64tab"], plainKeys := false, apart := false, laid := [("math/bits.deBruijn32tab", laid_math_bits_deBruijn32tab), ("math/bits.deBruijn64tab", laid_math_bits_deBruijn64tab), ("internal/strconv.uint64pow10", laid_internal_strconv_uint64pow10), ("unicode/utf8.acceptRanges", laid_unicode_utf8_acceptRanges), ("unicode/utf8.first", laid_unicode_utf8_first)], narrowed := true }
def PriceOffUptoSaid : Prop := priceOffUptoRow.holds Tryz.pinned (OpenSpec.upto priceOffSpec)

/-- 'mahlsticklaw08.PriceMore', WHERE WHAT IT READS IS OF BULK AT MOST 1048576: true; the input reads as it did. -/
def priceMoreUptoRow : OpenClaim := { program := "ytfnkjclplfhjcaagreatdoor", sum := "ca1d7f0d3fdf21d6c6ca77d913b86501576e7fd8595a92d8d7fee29f7e732e38", func := "mahlstick/mahlsticklaw08.PriceMore", spec := "priceMore", inPlace := ["internal/bytealg.CountString", "internal/bytealg.IndexByteString", "internal/bytealg.IndexString", "internal/abi.NoEscape", "internal/bytealg.MakeNoZero"], unfollowed := true, recurses := true, named := ["unicode/utf8.first", "unicode/utf8.acceptRanges", "internal/bytealg.MaxLen", "internal/strconv.uint64pow10", "math/bits.deBruijn32tab", "math/bits.deBruijn64tab"], plainKeys := false, apart := false, laid := [("math/bits.deBruijn32tab", laid_math_bits_deBruijn32tab), ("math/bits.deBruijn64tab", laid_math_bits_deBruijn64tab), ("internal/strconv.uint64pow10", laid_internal_strconv_uint64pow10), ("unicode/utf8.acceptRanges", laid_unicode_utf8_acceptRanges), ("unicode/utf8.first", laid_unicode_utf8_first)], narrowed := true }
def PriceMoreUptoSaid : Prop := priceMoreUptoRow.holds Tryz.pinned (OpenSpec.upto priceMoreSpec)

/-- 'mahlsticklaw08.PriceMoved', WHERE WHAT IT READS IS OF BULK AT MOST 1048576: true; the input reads as it did. -/
def priceMovedUptoRow : OpenClaim := { program := "ytfnkjclplfhjcaagreatdoor", sum := "ca1d7f0d3fdf21d6c6ca77d913b86501576e7fd8595a92d8d7fee29f7e732e38", func := "mahlstick/mahlsticklaw08.PriceMoved", spec := "priceMoved", inPlace := ["internal/bytealg.CountString", "internal/bytealg.IndexByteString", "internal/bytealg.IndexString", "internal/abi.NoEscape", "internal/bytealg.MakeNoZero"], unfollowed := true, recurses := true, named := ["unicode/utf8.first", "unicode/utf8.acceptRanges", "internal/bytealg.MaxLen", "internal/strconv.uint64pow10", "math/bits.deBruijn32tab", "math/bits.deBruijn64tab"], plainKeys := false, apart := false, laid := [("math/bits.deBruijn32tab", laid_math_bits_deBruijn32tab), ("math/bits.deBruijn64tab", laid_math_bits_deBruijn64tab), ("internal/strconv.uint64pow10", laid_internal_strconv_uint64pow10), ("unicode/utf8.acceptRanges", laid_unicode_utf8_acceptRanges), ("unicode/utf8.first", laid_unicode_utf8_first)], narrowed := true }
def PriceMovedUptoSaid : Prop := priceMovedUptoRow.holds Tryz.pinned (OpenSpec.upto priceMovedSpec)

/-- 'mahlsticklaw08.PricePaids', WHERE WHAT IT READS IS OF BULK AT MOST 1048576: true; the input reads as it did. -/
def pricePaidsUptoRow : OpenClaim := { program := "ytfnkjclplfhjcaagreatdoor", sum := "ca1d7f0d3fdf21d6c6ca77d913b86501576e7fd8595a92d8d7fee29f7e732e38", func := "mahlstick/mahlsticklaw08.PricePaids", spec := "pricePaids", inPlace := ["internal/bytealg.CountString", "internal/bytealg.IndexByteString", "internal/bytealg.IndexString", "internal/abi.NoEscape", "internal/bytealg.MakeNoZero"], unfollowed := true, recurses := true, named := ["unicode/utf8.first", "unicode/utf8.acceptRanges", "internal/bytealg.MaxLen", "internal/strconv.uint64pow10", "math/bits.deBruijn32tab", "math/bits.deBruijn64tab"], plainKeys := false, apart := false, laid := [("math/bits.deBruijn32tab", laid_math_bits_deBruijn32tab), ("math/bits.deBruijn64tab", laid_math_bits_deBruijn64tab), ("internal/strconv.uint64pow10", laid_internal_strconv_uint64pow10), ("unicode/utf8.acceptRanges", laid_unicode_utf8_acceptRanges), ("unicode/utf8.first", laid_unicode_utf8_first)], narrowed := true }
def PricePaidsUptoSaid : Prop := pricePaidsUptoRow.holds Tryz.pinned (OpenSpec.upto pricePaidsSpec)

/-- 'mahlsticklaw08.PricePrints', WHERE WHAT IT READS IS OF BULK AT MOST 1048576: true; the input reads as it did. -/
def pricePrintsUptoRow : OpenClaim := { program := "ytfnkjclplfhjcaagreatdoor", sum := "ca1d7f0d3fdf21d6c6ca77d913b86501576e7fd8595a92d8d7fee29f7e732e38", func := "mahlstick/mahlsticklaw08.PricePrints", spec := "pricePrints", inPlace := ["internal/bytealg.CountString", "internal/bytealg.IndexByteString", "internal/bytealg.IndexString", "internal/abi.NoEscape", "internal/bytealg.MakeNoZero"], unfollowed := true, recurses := true, named := ["unicode/utf8.first", "unicode/utf8.acceptRanges", "internal/bytealg.MaxLen", "internal/strconv.uint64pow10", "math/bits.deBruijn32tab", "math/bits.deBruijn64tab"], plainKeys := false, apart := false, laid := [("math/bits.deBruijn32tab", laid_math_bits_deBruijn32tab), ("math/bits.deBruijn64tab", laid_math_bits_deBruijn64tab), ("internal/strconv.uint64pow10", laid_internal_strconv_uint64pow10), ("unicode/utf8.acceptRanges", laid_unicode_utf8_acceptRanges), ("unicode/utf8.first", laid_unicode_utf8_first)], narrowed := true }
def PricePrintsUptoSaid : Prop := pricePrintsUptoRow.holds Tryz.pinned (OpenSpec.upto pricePrintsSpec)

/-- 'mahlsticklaw08.PriceReads', WHERE WHAT IT READS IS OF BULK AT MOST 1048576: true; the input reads as it did. -/
def priceReadsUptoRow : OpenClaim := { program := "ytfnkjclplfhjcaagreatdoor", sum := "ca1d7f0d3fdf21d6c6ca77d913b86501576e7fd8595a92d8d7fee29f7e732e38", func := "mahlstick/mahlsticklaw08.PriceReads", spec := "priceReads", inPlace := ["internal/bytealg.CountString", "internal/bytealg.IndexByteString", "internal/bytealg.IndexString", "internal/abi.NoEscape", "internal/bytealg.MakeNoZero"], unfollowed := true, recurses := true, named := ["unicode/utf8.first", "unicode/utf8.acceptRanges", "internal/bytealg.MaxLen", "internal/strconv.uint64pow10", "math/bits.deBruijn32tab", "math/bits.deBruijn64tab"], plainKeys := false, apart := false, laid := [("math/bits.deBruijn32tab", laid_math_bits_deBruijn32tab), ("math/bits.deBruijn64tab", laid_math_bits_deBruijn64tab), ("internal/strconv.uint64pow10", laid_internal_strconv_uint64pow10), ("unicode/utf8.acceptRanges", laid_unicode_utf8_acceptRanges), ("unicode/utf8.first", laid_unicode_utf8_first)], narrowed := true }
def PriceReadsUptoSaid : Prop := priceReadsUptoRow.holds Tryz.pinned (OpenSpec.upto priceReadsSpec)

/-- 'mahlsticklaw08.PriceSpoilt', WHERE WHAT IT READS IS OF BULK AT MOST 1048576: true; the input reads as it did. -/
def priceSpoiltUptoRow : OpenClaim := { program := "ytfnkjclplfhjcaagreatdoor", sum := "ca1d7f0d3fdf21d6c6ca77d913b86501576e7fd8595a92d8d7fee29f7e732e38", func := "mahlstick/mahlsticklaw08.PriceSpoilt", spec := "priceSpoilt", inPlace := ["internal/bytealg.CountString", "internal/bytealg.IndexByteString", "internal/bytealg.IndexString", "internal/abi.NoEscape", "internal/bytealg.MakeNoZero"], unfollowed := true, recurses := true, named := ["unicode/utf8.first", "unicode/utf8.acceptRanges", "internal/bytealg.MaxLen", "internal/strconv.uint64pow10", "math/bits.deBruijn32tab", "math/bits.deBruijn64tab"], plainKeys := false, apart := false, laid := [("math/bits.deBruijn32tab", laid_math_bits_deBruijn32tab), ("math/bits.deBruijn64tab", laid_math_bits_deBruijn64tab), ("internal/strconv.uint64pow10", laid_internal_strconv_uint64pow10), ("unicode/utf8.acceptRanges", laid_unicode_utf8_acceptRanges), ("unicode/utf8.first", laid_unicode_utf8_first)], narrowed := true }
def PriceSpoiltUptoSaid : Prop := priceSpoiltUptoRow.holds Tryz.pinned (OpenSpec.upto priceSpoiltSpec)

end Rows
end Go.Proofs.YtfnkjclplfhjcaaGreatDoor
