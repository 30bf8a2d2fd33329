/- DaybookLines: the row and its tied card, proved. -/
import Derived.Test.YtfnllpibhjikgaaGreatDoorJDaybookLinesA
import Derived.Test.YtfnllpibhjikgaaGreatDoorJDaybookLinesB
import Derived.Test.YtfnllpibhjikgaaGreatDoorCards
import Derived.Test.YtfnllpibhjikgaaGreatDoorTie
set_option linter.unusedSimpArgs false
set_option linter.unusedVariables false
namespace Go.Proofs.YtfnllpibhjikgaaGreatDoor
open Go Go.Am Go.ChangeShapes Go.WideShapes Go.RowKit

set_option maxRecDepth 100000 in
theorem daybookLines_named : Tryz.pinned.checked.prog.funcNamed Rows.daybookLinesRow.func = some 3 := by kernel_rfl
theorem daybookLines_inst : Tryz.f3.isInstance Tryz.pinned.checked.prog Rows.daybookLinesRow.origin Rows.daybookLinesRow.targs := of_decide_eq_true (by kernel_rfl)
theorem daybookLines_wrap : Tryz.f3.isWrapper Tryz.pinned.checked.prog Rows.daybookLinesRow.wrapper Rows.daybookLinesRow.mainSum := by
  unfold Func.isWrapper
  first | (rw [if_pos (by decide +kernel)]; kernel_rfl) | (rw [if_neg (by decide +kernel)]; exact ⟨rfl, rfl⟩)

set_option maxRecDepth 100000 in
theorem daybookLines_holds : Rows.DaybookLinesSaid :=
  OpenClaim.holds_of_wide 3 Tryz.f3 rfl rfl rfl rfl rfl rfl rfl ⟨rfl, rfl, rfl, rfl, rfl⟩ rfl rfl rfl rfl rfl daybookLines_named Tryz.func3 daybookLines_facts
    daybookLines_inst daybookLines_wrap (fun os started H enc _ => daybookLines_lifted os started H enc)

theorem daybookLines_wf : OpenClaim.wfByText (OpenSpec.ofChange Rows.daybookLinesSpec) Rows.daybookLinesRow = true := by kernel_rfl
theorem main_is : Tryz.pinned.checked.prog.mainIs = some (true, "db374e21a350982648678c3a88ba225ca0d465234a665943778f8e7451ca2820".toList) := by kernel_rfl
theorem looks_so : true = Tryz.pinned.checked.prog.looks [] := by kernel_rfl
theorem daybookLines_goes : false = Rows.daybookLinesRow.goesBy Tryz.pinned.checked.prog := by kernel_rfl
theorem stands25 : Tryz.prog.wantsStandIn 25 = false := by kernel_rfl

set_option maxRecDepth 100000 in
/-- THE TIED CARD OF DaybookLines. -/
theorem daybookLinesCard_holds : Rows.DaybookLinesCardSaid :=
  Claim7.holds_tied_plain_at .later [] [.data, .data, .data, .data, .pinned] true (true, "db374e21a350982648678c3a88ba225ca0d465234a665943778f8e7451ca2820") true
    daybookLines_holds (fun _ h => by cases h) daybookLines_wf (fun _ h => by cases h) daybookLines_row_tie rfl ⟨rfl, rfl⟩ main_is rfl
    (fun f fn hf hfn => by
      obtain rfl : f = 3 := Option.some.inj (daybookLines_named.symm.trans hf) |>.symm
      obtain rfl : fn = Tryz.f3 := (Option.some.inj (Tryz.func3.symm.trans hfn)).symm
      exact ⟨looks_so, fun j t ht => by
        rw [Tryz.params3] at ht
        rcases j with _ | j
        · obtain rfl : t = 25 := by simpa using ht.symm
          exact stands25
        · simp at ht⟩)
    daybookLines_goes
#print axioms daybookLinesCard_holds
end Go.Proofs.YtfnllpibhjikgaaGreatDoor
