/- PricePrints: the closed facts of its row. -/
import Derived.Test.YtfnkjclplfhjcaaGreatDoorJ68
set_option linter.unusedSimpArgs false
set_option linter.unusedVariables false
namespace Go.Am
open Go Go.Proofs Go.ChangeShapes Go.WideShapes Go.RowKit Go.Proofs.YtfnkjclplfhjcaaGreatDoor
theorem b1 : (Rows.pricePrintsRow.wf (OpenSpec.ofChange Rows.pricePrintsSpec)) = true := by kernel_rfl
theorem b4 : (Tryz.f19.params.all (Tryz.prog.readableRec ·)) = true := by kernel_rfl
theorem b5 : (namedTie Tryz.prog Rows.pricePrintsRow.named Rows.pricePrintsSpec.vars) = true := by kernel_rfl
theorem b6 : ((Rows.pricePrintsRow.stops == [])) = true := by kernel_rfl
theorem b8 : ((Rows.pricePrintsRow.knobs == [])) = true := by kernel_rfl
theorem b10 : ((Rows.pricePrintsRow.inPlace == Tryz.prog.inPlace 19)) = true := by kernel_rfl
theorem b11 : ((Rows.pricePrintsRow.unfollowed == Tryz.prog.unfollowed 19)) = true := by kernel_rfl
theorem b12 : ((Rows.pricePrintsRow.recurses == Tryz.prog.recurses 19)) = true := by kernel_rfl
theorem b13 : ((Rows.pricePrintsRow.named == Tryz.prog.varsNamed 19)) = true := by kernel_rfl
theorem b14 : ((Rows.pricePrintsRow.maps == (Tryz.f19.params.toList ++ Rows.pricePrintsSpec.plain.varTypes Tryz.prog).any (Tryz.prog.mapsRec ·))) = true := by kernel_rfl
theorem b15 : ((Rows.pricePrintsRow.ifaces == (Tryz.f19.params.toList ++ Rows.pricePrintsSpec.plain.varTypes Tryz.prog).any (Tryz.prog.ifacesRec ·))) = true := by kernel_rfl
theorem b16 : ((Rows.pricePrintsRow.mapsOut == Tryz.prog.mapsAmong Tryz.f19.resultTypes.toList)) = true := by kernel_rfl
theorem b17 : ((Rows.pricePrintsRow.loops == (Tryz.f19.params.toList ++ Rows.pricePrintsSpec.plain.varTypes Tryz.prog).any (Tryz.prog.loopsFrom ·))) = true := by kernel_rfl
theorem b18 : ((Rows.pricePrintsRow.wideKeys == (Tryz.f19.params.toList ++ Rows.pricePrintsSpec.plain.varTypes Tryz.prog ++ Tryz.f19.resultTypes.toList).any (Tryz.prog.wideKeysFrom ·))) = true := by kernel_rfl
theorem b19 : (Rows.pricePrintsSpec.vars.all (Tryz.prog.varReadable ·)) = true := by kernel_rfl
theorem b20 : (Tryz.f19.resultTypes.all (fun t => Tryz.prog.readableRec t && decide (t < Tryz.prog.types.size))) = true := by kernel_rfl
theorem b21 : ((Rows.pricePrintsRow.ifacesOut == Tryz.f19.resultTypes.toList.any (Tryz.prog.ifacesRec ·))) = true := by kernel_rfl
theorem b22 : ((Rows.pricePrintsRow.loopsOut == Tryz.f19.resultTypes.toList.any (Tryz.prog.loopsFrom ·))) = true := by kernel_rfl
theorem b24 : (Rows.pricePrintsRow.shortTexts.isNone) = true := by kernel_rfl
theorem b29 : ((Rows.pricePrintsRow.kinds == (if Rows.pricePrintsRow.domain.isEmpty then [] else Tryz.f19.params.toList.map fun t => match Tryz.prog.underlying t with | some (.int k) => some k | _ => none))) = true := by kernel_rfl
theorem b30 : ((Rows.pricePrintsRow.pinned == Rows.pricePrintsRow.pinnedBy)) = true := by kernel_rfl
theorem b31 : ((Rows.pricePrintsRow.veiled == (Tryz.f19.params.toList ++ Rows.pricePrintsSpec.plain.varTypes Tryz.prog ++ Tryz.f19.resultTypes.toList).any (Tryz.prog.veiledRec ·))) = true := by kernel_rfl
theorem b32 : (Rows.pricePrintsRow.veiledFits Tryz.prog Tryz.f19.params.toList (Tryz.f19.params.toList ++ Rows.pricePrintsSpec.plain.varTypes Tryz.prog ++ Tryz.f19.resultTypes.toList)) = true := by kernel_rfl
theorem b23 : (Rows.pricePrintsRow.plainKeys == Tryz.prog.plainKeys) = true := by rw [m_keys]; kernel_rfl
theorem b27 : (Rows.pricePrintsRow.lifted == Tryz.prog.liftsFinal) = true := by rw [m_final]; kernel_rfl
theorem b28 : (Tryz.prog.make == some Rows.pricePrintsRow.make) = true := m_make
set_option maxRecDepth 100000 in
theorem pricePrints_facts : joinedFacts Tryz.prog 19 Tryz.f19 Rows.pricePrintsSpec Rows.pricePrintsRow = true :=
  joined_of b1 Tryz_laidOut m_mapsRowed b4 b5 b6 m_stops b8 m_knobs b10 b11 b12 b13 b14 b15 b16 b17 b18 b19 b20 b21 b22 b23 b24 m_heard m_enter b27 b28 b29 b30 b31 b32
end Go.Am
