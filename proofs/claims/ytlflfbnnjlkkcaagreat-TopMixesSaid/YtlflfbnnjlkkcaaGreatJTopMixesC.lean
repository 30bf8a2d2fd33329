/- TopMixes: the row and its tied card, proved. -/
import Derived.Test.YtlflfbnnjlkkcaaGreatJTopMixesA
import Derived.Test.YtlflfbnnjlkkcaaGreatJTopMixesB
set_option linter.unusedSimpArgs false
set_option linter.unusedVariables false
namespace Go.Proofs.YtlflfbnnjlkkcaaGreat
open Go Go.Am Go.ChangeShapes Go.WideShapes Go.RowKit

set_option maxRecDepth 100000 in
theorem topMixes_named : Tryz.pinned.checked.prog.funcNamed Rows.topMixesRow.func = some 4 := by kernel_rfl
theorem topMixes_inst : Tryz.f4.isInstance Tryz.pinned.checked.prog Rows.topMixesRow.origin Rows.topMixesRow.targs := of_decide_eq_true (by kernel_rfl)
theorem topMixes_wrap : Tryz.f4.isWrapper Tryz.pinned.checked.prog Rows.topMixesRow.wrapper Rows.topMixesRow.mainSum := by
  unfold Func.isWrapper
  first | (rw [if_pos (by decide +kernel)]; kernel_rfl) | (rw [if_neg (by decide +kernel)]; exact ⟨rfl, rfl⟩)

set_option maxRecDepth 100000 in
theorem topMixes_holds : Rows.TopMixesSaid :=
  OpenClaim.holds_of_wide 4 Tryz.f4 rfl rfl rfl rfl rfl rfl rfl ⟨rfl, rfl, rfl, rfl, rfl⟩ rfl rfl rfl rfl rfl topMixes_named Tryz.func4 topMixes_facts
    topMixes_inst topMixes_wrap (fun os started H enc _ => topMixes_lifted os started H enc)

#print axioms topMixes_holds
end Go.Proofs.YtlflfbnnjlkkcaaGreat
