/- DaybookNil: the row and its tied card, proved. -/
import Derived.Test.YtfnllpibhjikgaaGreatDoorJDaybookNilA
import Derived.Test.YtfnllpibhjikgaaGreatDoorJDaybookNilB
import Derived.Test.YtfnllpibhjikgaaGreatDoorCards
import Derived.Test.YtfnllpibhjikgaaGreatDoorTie
set_option linter.unusedSimpArgs false
set_option linter.unusedVariables false
namespace Go.Proofs.YtfnllpibhjikgaaGreatDoor
open Go Go.Am Go.ChangeShapes Go.WideShapes Go.RowKit

set_option maxRecDepth 100000 in
theorem daybookNil_named : Tryz.pinned.checked.prog.funcNamed Rows.daybookNilRow.func = some 5 := by kernel_rfl
theorem daybookNil_inst : Tryz.f5.isInstance Tryz.pinned.checked.prog Rows.daybookNilRow.origin Rows.daybookNilRow.targs := of_decide_eq_true (by kernel_rfl)
theorem daybookNil_wrap : Tryz.f5.isWrapper Tryz.pinned.checked.prog Rows.daybookNilRow.wrapper Rows.daybookNilRow.mainSum := by
  unfold Func.isWrapper
  first | (rw [if_pos (by decide +kernel)]; kernel_rfl) | (rw [if_neg (by decide +kernel)]; exact ⟨rfl, rfl⟩)

set_option maxRecDepth 100000 in
theorem daybookNil_holds : Rows.DaybookNilSaid :=
  OpenClaim.holds_of_wide 5 Tryz.f5 rfl rfl rfl rfl rfl rfl rfl ⟨rfl, rfl, rfl, rfl, rfl⟩ rfl rfl rfl rfl rfl daybookNil_named Tryz.func5 daybookNil_facts
    daybookNil_inst daybookNil_wrap (fun os started H enc _ => daybookNil_lifted os started H enc)

theorem daybookNil_wf : OpenClaim.wfByText (OpenSpec.ofChange Rows.daybookNilSpec) Rows.daybookNilRow = true := by kernel_rfl
theorem main_is : Tryz.pinned.checked.prog.mainIs = some (true, "db374e21a350982648678c3a88ba225ca0d465234a665943778f8e7451ca2820".toList) := by kernel_rfl
theorem looks_so : true = Tryz.pinned.checked.prog.looks [] := by kernel_rfl
theorem daybookNil_goes : false = Rows.daybookNilRow.goesBy Tryz.pinned.checked.prog := by kernel_rfl
theorem stands25 : Tryz.prog.wantsStandIn 25 = false := by kernel_rfl
theorem stands40 : Tryz.prog.wantsStandIn 40 = false := by kernel_rfl

set_option maxRecDepth 100000 in
/-- THE TIED CARD OF DaybookNil. -/
theorem daybookNilCard_holds : Rows.DaybookNilCardSaid :=
  Claim7.holds_tied_plain_at .later [] [.data, .data, .data, .data, .pinned] true (true, "db374e21a350982648678c3a88ba225ca0d465234a665943778f8e7451ca2820") true
    daybookNil_holds (fun _ h => by cases h) daybookNil_wf (fun _ h => by cases h) daybookNil_row_tie rfl ⟨rfl, rfl⟩ main_is rfl
    (fun f fn hf hfn => by
      obtain rfl : f = 5 := Option.some.inj (daybookNil_named.symm.trans hf) |>.symm
      obtain rfl : fn = Tryz.f5 := (Option.some.inj (Tryz.func5.symm.trans hfn)).symm
      exact ⟨looks_so, fun j t ht => by
        rw [Tryz.params5] at ht
        rcases j with _ | _ | j
        · obtain rfl : t = 25 := by simpa using ht.symm
          exact stands25
        · obtain rfl : t = 40 := by simpa using ht.symm
          exact stands40
        · simp at ht⟩)
    daybookNil_goes
#print axioms daybookNilCard_holds
end Go.Proofs.YtfnllpibhjikgaaGreatDoor
