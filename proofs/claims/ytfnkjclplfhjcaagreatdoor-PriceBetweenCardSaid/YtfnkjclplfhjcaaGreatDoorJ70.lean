/- Parts 70 of the abstract machine over this program, joined: what each part says stands at its head. -/
import Derived.Test.YtfnkjclplfhjcaaGreatDoorJ67
import Derived.Test.YtfnkjclplfhjcaaGreatDoorJ69
import Derived.Test.YtfnkjclplfhjcaaGreatDoorCards
import Derived.Test.YtfnkjclplfhjcaaGreatDoorTie
set_option linter.unusedSimpArgs false
set_option linter.unusedVariables false
/- PriceBetween: the row and its tied card, proved. -/
namespace Go.Proofs.YtfnkjclplfhjcaaGreatDoor
open Go Go.Am Go.ChangeShapes Go.WideShapes Go.RowKit

set_option maxRecDepth 100000 in
theorem between_named : Tryz.pinned.checked.prog.funcNamed Rows.priceBetweenRow.func = some 3 := by kernel_rfl
theorem between_inst : Tryz.f3.isInstance Tryz.pinned.checked.prog Rows.priceBetweenRow.origin Rows.priceBetweenRow.targs := of_decide_eq_true (by kernel_rfl)
theorem between_wrap : Tryz.f3.isWrapper Tryz.pinned.checked.prog Rows.priceBetweenRow.wrapper Rows.priceBetweenRow.mainSum := by
  unfold Func.isWrapper
  first | (rw [if_pos (by decide +kernel)]; kernel_rfl) | (rw [if_neg (by decide +kernel)]; exact ⟨rfl, rfl⟩)

set_option maxRecDepth 100000 in
theorem priceBetween_holds : Rows.PriceBetweenSaid :=
  OpenClaim.holds_of_wide 3 Tryz.f3 rfl rfl rfl rfl rfl rfl rfl ⟨rfl, rfl, rfl, rfl, rfl⟩ rfl rfl rfl rfl rfl between_named Tryz.func3 between_facts
    between_inst between_wrap (fun os started H enc _ => between_lifted os started H enc)

theorem between_wf : OpenClaim.wfByText (OpenSpec.ofChange Rows.priceBetweenSpec) Rows.priceBetweenRow = true := by kernel_rfl
theorem main_is : Tryz.pinned.checked.prog.mainIs = some (true, "fd4a78dda9e3c4c42444e8171c75da0f7e25d27c3fa8e6685907fbcc17903124".toList) := by kernel_rfl
theorem looks_so : true = Tryz.pinned.checked.prog.looks [] := by kernel_rfl
theorem between_goes : false = Rows.priceBetweenRow.goesBy Tryz.pinned.checked.prog := by kernel_rfl
theorem stands3 : Tryz.prog.wantsStandIn 3 = false := by kernel_rfl
theorem stands22 : Tryz.prog.wantsStandIn 22 = false := by kernel_rfl
theorem stands26 : Tryz.prog.wantsStandIn 26 = false := by kernel_rfl

set_option maxRecDepth 100000 in
/-- THE TIED CARD OF PriceBetween. -/
theorem priceBetweenCard_holds : Rows.PriceBetweenCardSaid :=
  Claim7.holds_tied_plain_at .later [] [.data, .data, .data, .data, .pinned] true (true, "fd4a78dda9e3c4c42444e8171c75da0f7e25d27c3fa8e6685907fbcc17903124") true
    priceBetween_holds (fun _ h => by cases h) between_wf (fun _ h => by cases h) priceBetween_row_tie rfl ⟨rfl, rfl⟩ main_is rfl
    (fun f fn hf hfn => by
      obtain rfl : f = 3 := Option.some.inj (between_named.symm.trans hf) |>.symm
      obtain rfl : fn = Tryz.f3 := (Option.some.inj (Tryz.func3.symm.trans hfn)).symm
      exact ⟨looks_so, fun j t ht => by
        rw [Tryz.params3] at ht
        rcases j with _ | _ | _ | j
        · obtain rfl : t = 26 := by simpa using ht.symm
          exact stands26
        · obtain rfl : t = 3 := by simpa using ht.symm
          exact stands3
        · obtain rfl : t = 22 := by simpa using ht.symm
          exact stands22
        · simp at ht⟩)
    between_goes
#print axioms priceBetweenCard_holds
end Go.Proofs.YtfnkjclplfhjcaaGreatDoor
