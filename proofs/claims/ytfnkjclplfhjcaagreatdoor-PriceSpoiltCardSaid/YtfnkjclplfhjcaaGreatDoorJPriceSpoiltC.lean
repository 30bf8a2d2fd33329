/- PriceSpoilt: the row and its tied card, proved. -/
import Derived.Test.YtfnkjclplfhjcaaGreatDoorJPriceSpoiltA
import Derived.Test.YtfnkjclplfhjcaaGreatDoorJPriceSpoiltB
import Derived.Test.YtfnkjclplfhjcaaGreatDoorCards
import Derived.Test.YtfnkjclplfhjcaaGreatDoorTie
set_option linter.unusedSimpArgs false
set_option linter.unusedVariables false
namespace Go.Proofs.YtfnkjclplfhjcaaGreatDoor
open Go Go.Am Go.ChangeShapes Go.WideShapes Go.RowKit

set_option maxRecDepth 100000 in
theorem priceSpoilt_named : Tryz.pinned.checked.prog.funcNamed Rows.priceSpoiltRow.func = some 21 := by kernel_rfl
theorem priceSpoilt_inst : Tryz.f21.isInstance Tryz.pinned.checked.prog Rows.priceSpoiltRow.origin Rows.priceSpoiltRow.targs := of_decide_eq_true (by kernel_rfl)
theorem priceSpoilt_wrap : Tryz.f21.isWrapper Tryz.pinned.checked.prog Rows.priceSpoiltRow.wrapper Rows.priceSpoiltRow.mainSum := by
  unfold Func.isWrapper
  first | (rw [if_pos (by decide +kernel)]; kernel_rfl) | (rw [if_neg (by decide +kernel)]; exact ⟨rfl, rfl⟩)

set_option maxRecDepth 100000 in
theorem priceSpoilt_holds : Rows.PriceSpoiltSaid :=
  OpenClaim.holds_of_wide 21 Tryz.f21 rfl rfl rfl rfl rfl rfl rfl ⟨rfl, rfl, rfl, rfl, rfl⟩ rfl rfl rfl rfl rfl priceSpoilt_named Tryz.func21 priceSpoilt_facts
    priceSpoilt_inst priceSpoilt_wrap (fun os started H enc _ => priceSpoilt_lifted os started H enc)

theorem priceSpoilt_wf : OpenClaim.wfByText (OpenSpec.ofChange Rows.priceSpoiltSpec) Rows.priceSpoiltRow = true := by kernel_rfl
theorem main_is : Tryz.pinned.checked.prog.mainIs = some (true, "fd4a78dda9e3c4c42444e8171c75da0f7e25d27c3fa8e6685907fbcc17903124".toList) := by kernel_rfl
theorem looks_so : true = Tryz.pinned.checked.prog.looks [] := by kernel_rfl
theorem priceSpoilt_goes : false = Rows.priceSpoiltRow.goesBy Tryz.pinned.checked.prog := by kernel_rfl
theorem stands3 : Tryz.prog.wantsStandIn 3 = false := by kernel_rfl
theorem stands26 : Tryz.prog.wantsStandIn 26 = false := by kernel_rfl

set_option maxRecDepth 100000 in
/-- THE TIED CARD OF PriceSpoilt. -/
theorem priceSpoiltCard_holds : Rows.PriceSpoiltCardSaid :=
  Claim7.holds_tied_plain_at .later [] [.data, .data, .data, .data, .pinned] true (true, "fd4a78dda9e3c4c42444e8171c75da0f7e25d27c3fa8e6685907fbcc17903124") true
    priceSpoilt_holds (fun _ h => by cases h) priceSpoilt_wf (fun _ h => by cases h) priceSpoilt_row_tie rfl ⟨rfl, rfl⟩ main_is rfl
    (fun f fn hf hfn => by
      obtain rfl : f = 21 := Option.some.inj (priceSpoilt_named.symm.trans hf) |>.symm
      obtain rfl : fn = Tryz.f21 := (Option.some.inj (Tryz.func21.symm.trans hfn)).symm
      exact ⟨looks_so, fun j t ht => by
        rw [Tryz.params21] at ht
        rcases j with _ | _ | _ | j
        · obtain rfl : t = 26 := by simpa using ht.symm
          exact stands26
        · obtain rfl : t = 3 := by simpa using ht.symm
          exact stands3
        · obtain rfl : t = 3 := by simpa using ht.symm
          exact stands3
        · simp at ht⟩)
    priceSpoilt_goes
#print axioms priceSpoiltCard_holds
end Go.Proofs.YtfnkjclplfhjcaaGreatDoor
