/- PriceRules: the row and its tied card, proved. -/
import Derived.Test.YtfnkjclplfhjcaaGreatDoorJPriceRulesA
import Derived.Test.YtfnkjclplfhjcaaGreatDoorJPriceRulesB
import Derived.Test.YtfnkjclplfhjcaaGreatDoorCards
import Derived.Test.YtfnkjclplfhjcaaGreatDoorTie
set_option linter.unusedSimpArgs false
set_option linter.unusedVariables false
namespace Go.Proofs.YtfnkjclplfhjcaaGreatDoor
open Go Go.Am Go.ChangeShapes Go.WideShapes Go.RowKit

set_option maxRecDepth 100000 in
theorem priceRules_named : Tryz.pinned.checked.prog.funcNamed Rows.priceRulesRow.func = some 5 := by kernel_rfl
theorem priceRules_inst : Tryz.f5.isInstance Tryz.pinned.checked.prog Rows.priceRulesRow.origin Rows.priceRulesRow.targs := of_decide_eq_true (by kernel_rfl)
theorem priceRules_wrap : Tryz.f5.isWrapper Tryz.pinned.checked.prog Rows.priceRulesRow.wrapper Rows.priceRulesRow.mainSum := by
  unfold Func.isWrapper
  first | (rw [if_pos (by decide +kernel)]; kernel_rfl) | (rw [if_neg (by decide +kernel)]; exact ⟨rfl, rfl⟩)

set_option maxRecDepth 100000 in
theorem priceRules_holds : Rows.PriceRulesSaid :=
  OpenClaim.holds_of_wide 5 Tryz.f5 rfl rfl rfl rfl rfl rfl rfl ⟨rfl, rfl, rfl, rfl, rfl⟩ rfl rfl rfl rfl rfl priceRules_named Tryz.func5 priceRules_facts
    priceRules_inst priceRules_wrap (fun os started H enc _ => priceRules_lifted os started H enc)

theorem priceRules_wf : OpenClaim.wfByText (OpenSpec.ofChange Rows.priceRulesSpec) Rows.priceRulesRow = true := by kernel_rfl
theorem main_is : Tryz.pinned.checked.prog.mainIs = some (true, "fd4a78dda9e3c4c42444e8171c75da0f7e25d27c3fa8e6685907fbcc17903124".toList) := by kernel_rfl
theorem looks_so : true = Tryz.pinned.checked.prog.looks [] := by kernel_rfl
theorem priceRules_goes : false = Rows.priceRulesRow.goesBy Tryz.pinned.checked.prog := by kernel_rfl
theorem stands3 : Tryz.prog.wantsStandIn 3 = false := by kernel_rfl
theorem stands22 : Tryz.prog.wantsStandIn 22 = false := by kernel_rfl
theorem stands26 : Tryz.prog.wantsStandIn 26 = false := by kernel_rfl

set_option maxRecDepth 100000 in
/-- THE TIED CARD OF PriceRules. -/
theorem priceRulesCard_holds : Rows.PriceRulesCardSaid :=
  Claim7.holds_tied_plain_at .later [] [.data, .data, .data, .data, .pinned] true (true, "fd4a78dda9e3c4c42444e8171c75da0f7e25d27c3fa8e6685907fbcc17903124") true
    priceRules_holds (fun _ h => by cases h) priceRules_wf (fun _ h => by cases h) priceRules_row_tie rfl ⟨rfl, rfl⟩ main_is rfl
    (fun f fn hf hfn => by
      obtain rfl : f = 5 := Option.some.inj (priceRules_named.symm.trans hf) |>.symm
      obtain rfl : fn = Tryz.f5 := (Option.some.inj (Tryz.func5.symm.trans hfn)).symm
      exact ⟨looks_so, fun j t ht => by
        rw [Tryz.params5] at ht
        rcases j with _ | _ | _ | j
        · obtain rfl : t = 26 := by simpa using ht.symm
          exact stands26
        · obtain rfl : t = 3 := by simpa using ht.symm
          exact stands3
        · obtain rfl : t = 22 := by simpa using ht.symm
          exact stands22
        · simp at ht⟩)
    priceRules_goes
#print axioms priceRulesCard_holds
end Go.Proofs.YtfnkjclplfhjcaaGreatDoor
