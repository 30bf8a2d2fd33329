/- TopSeason: the row and its tied card, proved. -/
import Derived.Test.YtlflfbnnjlkkcaaGreatJTopSeasonA
import Derived.Test.YtlflfbnnjlkkcaaGreatJTopSeasonB
set_option linter.unusedSimpArgs false
set_option linter.unusedVariables false
set_option linter.defProp false
namespace Go.Proofs.YtlflfbnnjlkkcaaGreat
open Go Go.Am Go.ChangeShapes Go.WideShapes Go.RowKit

set_option maxRecDepth 100000 in
theorem topSeason_named : Tryz.pinned.checked.prog.funcNamed Rows.topSeasonRow.func = some 5 := by kernel_rfl
theorem topSeason_inst : Tryz.f5.isInstance Tryz.pinned.checked.prog Rows.topSeasonRow.origin Rows.topSeasonRow.targs := of_decide_eq_true (by kernel_rfl)
theorem topSeason_wrap : Tryz.f5.isWrapper Tryz.pinned.checked.prog Rows.topSeasonRow.wrapper Rows.topSeasonRow.mainSum := by
  unfold Func.isWrapper
  first | (rw [if_pos (by decide +kernel)]; kernel_rfl) | (rw [if_neg (by decide +kernel)]; exact ⟨rfl, rfl⟩)

set_option maxRecDepth 100000 in
theorem topSeason_holds : Rows.TopSeasonSaid :=
  OpenClaim.holds_of_wide 5 Tryz.f5 rfl rfl rfl rfl rfl rfl rfl ⟨rfl, rfl, rfl, rfl, rfl⟩ rfl rfl rfl rfl rfl topSeason_named Tryz.func5 topSeason_facts
    topSeason_inst topSeason_wrap (fun os started H enc _ => topSeason_lifted os started H enc)

#print axioms topSeason_holds
end Go.Proofs.YtlflfbnnjlkkcaaGreat
