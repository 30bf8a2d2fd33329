/- PriceFirst: the row and its tied card, proved. -/
import Derived.Test.YtfnkjclplfhjcaaGreatDoorJPriceFirstA
import Derived.Test.YtfnkjclplfhjcaaGreatDoorJPriceFirstB
import Derived.Test.YtfnkjclplfhjcaaGreatDoorCards
import Derived.Test.YtfnkjclplfhjcaaGreatDoorTie
set_option linter.unusedSimpArgs false
set_option linter.unusedVariables false
namespace Go.Proofs.YtfnkjclplfhjcaaGreatDoor
open Go Go.Am Go.ChangeShapes Go.WideShapes Go.RowKit

set_option maxRecDepth 100000 in
theorem priceFirst_named : Tryz.pinned.checked.prog.funcNamed Rows.priceFirstRow.func = some 9 := by kernel_rfl
theorem priceFirst_inst : Tryz.f9.isInstance Tryz.pinned.checked.prog Rows.priceFirstRow.origin Rows.priceFirstRow.targs := of_decide_eq_true (by kernel_rfl)
theorem priceFirst_wrap : Tryz.f9.isWrapper Tryz.pinned.checked.prog Rows.priceFirstRow.wrapper Rows.priceFirstRow.mainSum := by
  unfold Func.isWrapper
  first | (rw [if_pos (by decide +kernel)]; kernel_rfl) | (rw [if_neg (by decide +kernel)]; exact ⟨rfl, rfl⟩)

set_option maxRecDepth 100000 in
theorem priceFirst_holds : Rows.PriceFirstSaid :=
  OpenClaim.holds_of_wide 9 Tryz.f9 rfl rfl rfl rfl rfl rfl rfl ⟨rfl, rfl, rfl, rfl, rfl⟩ rfl rfl rfl rfl rfl priceFirst_named Tryz.func9 priceFirst_facts
    priceFirst_inst priceFirst_wrap (fun os started H enc _ => priceFirst_lifted os started H enc)

theorem priceFirst_wf : OpenClaim.wfByText (OpenSpec.ofChange Rows.priceFirstSpec) Rows.priceFirstRow = true := by kernel_rfl
theorem main_is : Tryz.pinned.checked.prog.mainIs = some (true, "fd4a78dda9e3c4c42444e8171c75da0f7e25d27c3fa8e6685907fbcc17903124".toList) := by kernel_rfl
theorem looks_so : true = Tryz.pinned.checked.prog.looks [] := by kernel_rfl
theorem priceFirst_goes : false = Rows.priceFirstRow.goesBy Tryz.pinned.checked.prog := by kernel_rfl
theorem stands3 : Tryz.prog.wantsStandIn 3 = false := by kernel_rfl
theorem stands22 : Tryz.prog.wantsStandIn 22 = false := by kernel_rfl
theorem stands26 : Tryz.prog.wantsStandIn 26 = false := by kernel_rfl

set_option maxRecDepth 100000 in
/-- THE TIED CARD OF PriceFirst. -/
theorem priceFirstCard_holds : Rows.PriceFirstCardSaid :=
  Claim7.holds_tied_plain_at .later [] [.data, .data, .data, .data, .pinned] true (true, "fd4a78dda9e3c4c42444e8171c75da0f7e25d27c3fa8e6685907fbcc17903124") true
    priceFirst_holds (fun _ h => by cases h) priceFirst_wf (fun _ h => by cases h) priceFirst_row_tie rfl ⟨rfl, rfl⟩ main_is rfl
    (fun f fn hf hfn => by
      obtain rfl : f = 9 := Option.some.inj (priceFirst_named.symm.trans hf) |>.symm
      obtain rfl : fn = Tryz.f9 := (Option.some.inj (Tryz.func9.symm.trans hfn)).symm
      exact ⟨looks_so, fun j t ht => by
        rw [Tryz.params9] at ht
        rcases j with _ | _ | _ | _ | _ | j
        · obtain rfl : t = 26 := by simpa using ht.symm
          exact stands26
        · obtain rfl : t = 3 := by simpa using ht.symm
          exact stands3
        · obtain rfl : t = 3 := by simpa using ht.symm
          exact stands3
        · obtain rfl : t = 22 := by simpa using ht.symm
          exact stands22
        · obtain rfl : t = 3 := by simpa using ht.symm
          exact stands3
        · simp at ht⟩)
    priceFirst_goes
#print axioms priceFirstCard_holds
end Go.Proofs.YtfnkjclplfhjcaaGreatDoor
