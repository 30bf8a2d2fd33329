/- TopOpened: the row and its tied card, proved. -/
import Derived.Test.YtlflfbnnjlkkcaaGreatJTopOpenedA
import Derived.Test.YtlflfbnnjlkkcaaGreatJTopOpenedB
set_option linter.unusedSimpArgs false
set_option linter.unusedVariables false
set_option linter.defProp false
namespace Go.Proofs.YtlflfbnnjlkkcaaGreat
open Go Go.Am Go.ChangeShapes Go.WideShapes Go.RowKit

set_option maxRecDepth 100000 in
theorem topOpened_named : Tryz.pinned.checked.prog.funcNamed Rows.topOpenedRow.func = some 3 := by kernel_rfl
theorem topOpened_inst : Tryz.f3.isInstance Tryz.pinned.checked.prog Rows.topOpenedRow.origin Rows.topOpenedRow.targs := of_decide_eq_true (by kernel_rfl)
theorem topOpened_wrap : Tryz.f3.isWrapper Tryz.pinned.checked.prog Rows.topOpenedRow.wrapper Rows.topOpenedRow.mainSum := by
  unfold Func.isWrapper
  first | (rw [if_pos (by decide +kernel)]; kernel_rfl) | (rw [if_neg (by decide +kernel)]; exact ⟨rfl, rfl⟩)

set_option maxRecDepth 100000 in
theorem topOpened_holds : Rows.TopOpenedSaid :=
  OpenClaim.holds_of_wide 3 Tryz.f3 rfl rfl rfl rfl rfl rfl rfl ⟨rfl, rfl, rfl, rfl, rfl⟩ rfl rfl rfl rfl rfl topOpened_named Tryz.func3 topOpened_facts
    topOpened_inst topOpened_wrap (fun os started H enc _ => topOpened_lifted os started H enc)

#print axioms topOpened_holds
end Go.Proofs.YtlflfbnnjlkkcaaGreat
