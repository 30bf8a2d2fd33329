/- PriceNearest: the row and its tied card, proved. -/
import Derived.Test.YtfnkjclplfhjcaaGreatDoorJPriceNearestA
import Derived.Test.YtfnkjclplfhjcaaGreatDoorJPriceNearestB
import Derived.Test.YtfnkjclplfhjcaaGreatDoorCards
import Derived.Test.YtfnkjclplfhjcaaGreatDoorTie
set_option linter.unusedSimpArgs false
set_option linter.unusedVariables false
namespace Go.Proofs.YtfnkjclplfhjcaaGreatDoor
open Go Go.Am Go.ChangeShapes Go.WideShapes Go.RowKit

set_option maxRecDepth 100000 in
theorem priceNearest_named : Tryz.pinned.checked.prog.funcNamed Rows.priceNearestRow.func = some 11 := by kernel_rfl
theorem priceNearest_inst : Tryz.f11.isInstance Tryz.pinned.checked.prog Rows.priceNearestRow.origin Rows.priceNearestRow.targs := of_decide_eq_true (by kernel_rfl)
theorem priceNearest_wrap : Tryz.f11.isWrapper Tryz.pinned.checked.prog Rows.priceNearestRow.wrapper Rows.priceNearestRow.mainSum := by
  unfold Func.isWrapper
  first | (rw [if_pos (by decide +kernel)]; kernel_rfl) | (rw [if_neg (by decide +kernel)]; exact ⟨rfl, rfl⟩)

set_option maxRecDepth 100000 in
theorem priceNearest_holds : Rows.PriceNearestSaid :=
  OpenClaim.holds_of_wide 11 Tryz.f11 rfl rfl rfl rfl rfl rfl rfl ⟨rfl, rfl, rfl, rfl, rfl⟩ rfl rfl rfl rfl rfl priceNearest_named Tryz.func11 priceNearest_facts
    priceNearest_inst priceNearest_wrap (fun os started H enc _ => priceNearest_lifted os started H enc)

theorem priceNearest_wf : OpenClaim.wfByText (OpenSpec.ofChange Rows.priceNearestSpec) Rows.priceNearestRow = true := by kernel_rfl
theorem main_is : Tryz.pinned.checked.prog.mainIs = some (true, "fd4a78dda9e3c4c42444e8171c75da0f7e25d27c3fa8e6685907fbcc17903124".toList) := by kernel_rfl
theorem looks_so : true = Tryz.pinned.checked.prog.looks [] := by kernel_rfl
theorem priceNearest_goes : false = Rows.priceNearestRow.goesBy Tryz.pinned.checked.prog := by kernel_rfl
theorem stands3 : Tryz.prog.wantsStandIn 3 = false := by kernel_rfl
theorem stands22 : Tryz.prog.wantsStandIn 22 = false := by kernel_rfl
theorem stands26 : Tryz.prog.wantsStandIn 26 = false := by kernel_rfl

set_option maxRecDepth 100000 in
/-- THE TIED CARD OF PriceNearest. -/
theorem priceNearestCard_holds : Rows.PriceNearestCardSaid :=
  Claim7.holds_tied_plain_at .later [] [.data, .data, .data, .data, .pinned] true (true, "fd4a78dda9e3c4c42444e8171c75da0f7e25d27c3fa8e6685907fbcc17903124") true
    priceNearest_holds (fun _ h => by cases h) priceNearest_wf (fun _ h => by cases h) priceNearest_row_tie rfl ⟨rfl, rfl⟩ main_is rfl
    (fun f fn hf hfn => by
      obtain rfl : f = 11 := Option.some.inj (priceNearest_named.symm.trans hf) |>.symm
      obtain rfl : fn = Tryz.f11 := (Option.some.inj (Tryz.func11.symm.trans hfn)).symm
      exact ⟨looks_so, fun j t ht => by
        rw [Tryz.params11] at ht
        rcases j with _ | _ | _ | _ | _ | j
        · obtain rfl : t = 26 := by simpa using ht.symm
          exact stands26
        · obtain rfl : t = 3 := by simpa using ht.symm
          exact stands3
        · obtain rfl : t = 3 := by simpa using ht.symm
          exact stands3
        · obtain rfl : t = 22 := by simpa using ht.symm
          exact stands22
        · obtain rfl : t = 3 := by simpa using ht.symm
          exact stands3
        · simp at ht⟩)
    priceNearest_goes
#print axioms priceNearestCard_holds
end Go.Proofs.YtfnkjclplfhjcaaGreatDoor
