/- DaybookParses: the row and its tied card, proved. -/
import Derived.Test.YtfnllpibhjikgaaGreatDoorJDaybookParsesA
import Derived.Test.YtfnllpibhjikgaaGreatDoorJDaybookParsesB
import Derived.Test.YtfnllpibhjikgaaGreatDoorCards
import Derived.Test.YtfnllpibhjikgaaGreatDoorTie
set_option linter.unusedSimpArgs false
set_option linter.unusedVariables false
namespace Go.Proofs.YtfnllpibhjikgaaGreatDoor
open Go Go.Am Go.ChangeShapes Go.WideShapes Go.RowKit

set_option maxRecDepth 100000 in
theorem daybookParses_named : Tryz.pinned.checked.prog.funcNamed Rows.daybookParsesRow.func = some 4 := by kernel_rfl
theorem daybookParses_inst : Tryz.f4.isInstance Tryz.pinned.checked.prog Rows.daybookParsesRow.origin Rows.daybookParsesRow.targs := of_decide_eq_true (by kernel_rfl)
theorem daybookParses_wrap : Tryz.f4.isWrapper Tryz.pinned.checked.prog Rows.daybookParsesRow.wrapper Rows.daybookParsesRow.mainSum := by
  unfold Func.isWrapper
  first | (rw [if_pos (by decide +kernel)]; kernel_rfl) | (rw [if_neg (by decide +kernel)]; exact ⟨rfl, rfl⟩)

set_option maxRecDepth 100000 in
theorem daybookParses_holds : Rows.DaybookParsesSaid :=
  OpenClaim.holds_of_wide 4 Tryz.f4 rfl rfl rfl rfl rfl rfl rfl ⟨rfl, rfl, rfl, rfl, rfl⟩ rfl rfl rfl rfl rfl daybookParses_named Tryz.func4 daybookParses_facts
    daybookParses_inst daybookParses_wrap (fun os started H enc _ => daybookParses_lifted os started H enc)

theorem daybookParses_wf : OpenClaim.wfByText (OpenSpec.ofChange Rows.daybookParsesSpec) Rows.daybookParsesRow = true := by kernel_rfl
theorem main_is : Tryz.pinned.checked.prog.mainIs = some (true, "db374e21a350982648678c3a88ba225ca0d465234a665943778f8e7451ca2820".toList) := by kernel_rfl
theorem looks_so : true = Tryz.pinned.checked.prog.looks [] := by kernel_rfl
theorem daybookParses_goes : false = Rows.daybookParsesRow.goesBy Tryz.pinned.checked.prog := by kernel_rfl
theorem stands9 : Tryz.prog.wantsStandIn 9 = false := by kernel_rfl

set_option maxRecDepth 100000 in
/-- THE TIED CARD OF DaybookParses. -/
theorem daybookParsesCard_holds : Rows.DaybookParsesCardSaid :=
  Claim7.holds_tied_plain_at .later [] [.data, .data, .data, .data, .pinned] true (true, "db374e21a350982648678c3a88ba225ca0d465234a665943778f8e7451ca2820") true
    daybookParses_holds (fun _ h => by cases h) daybookParses_wf (fun _ h => by cases h) daybookParses_row_tie rfl ⟨rfl, rfl⟩ main_is rfl
    (fun f fn hf hfn => by
      obtain rfl : f = 4 := Option.some.inj (daybookParses_named.symm.trans hf) |>.symm
      obtain rfl : fn = Tryz.f4 := (Option.some.inj (Tryz.func4.symm.trans hfn)).symm
      exact ⟨looks_so, fun j t ht => by
        rw [Tryz.params4] at ht
        rcases j with _ | j
        · obtain rfl : t = 9 := by simpa using ht.symm
          exact stands9
        · simp at ht⟩)
    daybookParses_goes
#print axioms daybookParsesCard_holds
end Go.Proofs.YtfnllpibhjikgaaGreatDoor
