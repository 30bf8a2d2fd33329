/- PriceReads: the row and its tied card, proved. -/
import Derived.Test.YtfnkjclplfhjcaaGreatDoorJPriceReadsA
import Derived.Test.YtfnkjclplfhjcaaGreatDoorJPriceReadsB
import Derived.Test.YtfnkjclplfhjcaaGreatDoorCards
import Derived.Test.YtfnkjclplfhjcaaGreatDoorTie
set_option linter.unusedSimpArgs false
set_option linter.unusedVariables false
namespace Go.Proofs.YtfnkjclplfhjcaaGreatDoor
open Go Go.Am Go.ChangeShapes Go.WideShapes Go.RowKit

set_option maxRecDepth 100000 in
theorem priceReads_named : Tryz.pinned.checked.prog.funcNamed Rows.priceReadsRow.func = some 20 := by kernel_rfl
theorem priceReads_inst : Tryz.f20.isInstance Tryz.pinned.checked.prog Rows.priceReadsRow.origin Rows.priceReadsRow.targs := of_decide_eq_true (by kernel_rfl)
theorem priceReads_wrap : Tryz.f20.isWrapper Tryz.pinned.checked.prog Rows.priceReadsRow.wrapper Rows.priceReadsRow.mainSum := by
  unfold Func.isWrapper
  first | (rw [if_pos (by decide +kernel)]; kernel_rfl) | (rw [if_neg (by decide +kernel)]; exact ⟨rfl, rfl⟩)

set_option maxRecDepth 100000 in
theorem priceReads_holds : Rows.PriceReadsSaid :=
  OpenClaim.holds_of_wide 20 Tryz.f20 rfl rfl rfl rfl rfl rfl rfl ⟨rfl, rfl, rfl, rfl, rfl⟩ rfl rfl rfl rfl rfl priceReads_named Tryz.func20 priceReads_facts
    priceReads_inst priceReads_wrap (fun os started H enc _ => priceReads_lifted os started H enc)

theorem priceReads_wf : OpenClaim.wfByText (OpenSpec.ofChange Rows.priceReadsSpec) Rows.priceReadsRow = true := by kernel_rfl
theorem main_is : Tryz.pinned.checked.prog.mainIs = some (true, "fd4a78dda9e3c4c42444e8171c75da0f7e25d27c3fa8e6685907fbcc17903124".toList) := by kernel_rfl
theorem looks_so : true = Tryz.pinned.checked.prog.looks [] := by kernel_rfl
theorem priceReads_goes : false = Rows.priceReadsRow.goesBy Tryz.pinned.checked.prog := by kernel_rfl
theorem stands9 : Tryz.prog.wantsStandIn 9 = false := by kernel_rfl

set_option maxRecDepth 100000 in
/-- THE TIED CARD OF PriceReads. -/
theorem priceReadsCard_holds : Rows.PriceReadsCardSaid :=
  Claim7.holds_tied_plain_at .later [] [.data, .data, .data, .data, .pinned] true (true, "fd4a78dda9e3c4c42444e8171c75da0f7e25d27c3fa8e6685907fbcc17903124") true
    priceReads_holds (fun _ h => by cases h) priceReads_wf (fun _ h => by cases h) priceReads_row_tie rfl ⟨rfl, rfl⟩ main_is rfl
    (fun f fn hf hfn => by
      obtain rfl : f = 20 := Option.some.inj (priceReads_named.symm.trans hf) |>.symm
      obtain rfl : fn = Tryz.f20 := (Option.some.inj (Tryz.func20.symm.trans hfn)).symm
      exact ⟨looks_so, fun j t ht => by
        rw [Tryz.params20] at ht
        rcases j with _ | j
        · obtain rfl : t = 9 := by simpa using ht.symm
          exact stands9
        · simp at ht⟩)
    priceReads_goes
#print axioms priceReadsCard_holds
end Go.Proofs.YtfnkjclplfhjcaaGreatDoor
