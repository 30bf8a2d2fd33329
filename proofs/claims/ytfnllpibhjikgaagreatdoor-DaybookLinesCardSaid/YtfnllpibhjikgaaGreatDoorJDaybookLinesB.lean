/- DaybookLines: the closed facts of its row. -/
import Derived.Test.YtfnllpibhjikgaaGreatDoorJD68
set_option linter.unusedSimpArgs false
set_option linter.unusedVariables false
namespace Go.Am
open Go Go.Proofs Go.ChangeShapes Go.WideShapes Go.RowKit Go.Proofs.YtfnllpibhjikgaaGreatDoor
theorem b1 : (Rows.daybookLinesRow.wf (OpenSpec.ofChange Rows.daybookLinesSpec)) = true := by kernel_rfl
theorem b4 : (Tryz.f3.params.all (Tryz.prog.readableRec ·)) = true := by kernel_rfl
theorem b5 : (namedTie Tryz.prog Rows.daybookLinesRow.named Rows.daybookLinesSpec.vars) = true := by kernel_rfl
theorem b6 : ((Rows.daybookLinesRow.stops == [])) = true := by kernel_rfl
theorem b8 : ((Rows.daybookLinesRow.knobs == [])) = true := by kernel_rfl
theorem b10 : ((Rows.daybookLinesRow.inPlace == Tryz.prog.inPlace 3)) = true := by kernel_rfl
theorem b11 : ((Rows.daybookLinesRow.unfollowed == Tryz.prog.unfollowed 3)) = true := by kernel_rfl
theorem b12 : ((Rows.daybookLinesRow.recurses == Tryz.prog.recurses 3)) = true := by kernel_rfl
theorem b13 : ((Rows.daybookLinesRow.named == Tryz.prog.varsNamed 3)) = true := by kernel_rfl
theorem b14 : ((Rows.daybookLinesRow.maps == (Tryz.f3.params.toList ++ Rows.daybookLinesSpec.plain.varTypes Tryz.prog).any (Tryz.prog.mapsRec ·))) = true := by kernel_rfl
theorem b15 : ((Rows.daybookLinesRow.ifaces == (Tryz.f3.params.toList ++ Rows.daybookLinesSpec.plain.varTypes Tryz.prog).any (Tryz.prog.ifacesRec ·))) = true := by kernel_rfl
theorem b16 : ((Rows.daybookLinesRow.mapsOut == Tryz.prog.mapsAmong Tryz.f3.resultTypes.toList)) = true := by kernel_rfl
theorem b17 : ((Rows.daybookLinesRow.loops == (Tryz.f3.params.toList ++ Rows.daybookLinesSpec.plain.varTypes Tryz.prog).any (Tryz.prog.loopsFrom ·))) = true := by kernel_rfl
theorem b18 : ((Rows.daybookLinesRow.wideKeys == (Tryz.f3.params.toList ++ Rows.daybookLinesSpec.plain.varTypes Tryz.prog ++ Tryz.f3.resultTypes.toList).any (Tryz.prog.wideKeysFrom ·))) = true := by kernel_rfl
theorem b19 : (Rows.daybookLinesSpec.vars.all (Tryz.prog.varReadable ·)) = true := by kernel_rfl
theorem b20 : (Tryz.f3.resultTypes.all (fun t => Tryz.prog.readableRec t && decide (t < Tryz.prog.types.size))) = true := by kernel_rfl
theorem b21 : ((Rows.daybookLinesRow.ifacesOut == Tryz.f3.resultTypes.toList.any (Tryz.prog.ifacesRec ·))) = true := by kernel_rfl
theorem b22 : ((Rows.daybookLinesRow.loopsOut == Tryz.f3.resultTypes.toList.any (Tryz.prog.loopsFrom ·))) = true := by kernel_rfl
theorem b24 : (Rows.daybookLinesRow.shortTexts.isNone) = true := by kernel_rfl
theorem b29 : ((Rows.daybookLinesRow.kinds == (if Rows.daybookLinesRow.domain.isEmpty then [] else Tryz.f3.params.toList.map fun t => match Tryz.prog.underlying t with | some (.int k) => some k | _ => none))) = true := by kernel_rfl
theorem b30 : ((Rows.daybookLinesRow.pinned == Rows.daybookLinesRow.pinnedBy)) = true := by kernel_rfl
theorem b31 : ((Rows.daybookLinesRow.veiled == (Tryz.f3.params.toList ++ Rows.daybookLinesSpec.plain.varTypes Tryz.prog ++ Tryz.f3.resultTypes.toList).any (Tryz.prog.veiledRec ·))) = true := by kernel_rfl
theorem b32 : (Rows.daybookLinesRow.veiledFits Tryz.prog Tryz.f3.params.toList (Tryz.f3.params.toList ++ Rows.daybookLinesSpec.plain.varTypes Tryz.prog ++ Tryz.f3.resultTypes.toList)) = true := by kernel_rfl
theorem b23 : (Rows.daybookLinesRow.plainKeys == Tryz.prog.plainKeys) = true := by rw [m_keys]; kernel_rfl
theorem b27 : (Rows.daybookLinesRow.lifted == Tryz.prog.liftsFinal) = true := by rw [m_final]; kernel_rfl
theorem b28 : (Tryz.prog.make == some Rows.daybookLinesRow.make) = true := m_make
set_option maxRecDepth 100000 in
theorem daybookLines_facts : joinedFacts Tryz.prog 3 Tryz.f3 Rows.daybookLinesSpec Rows.daybookLinesRow = true :=
  joined_of b1 Tryz_laidOut m_mapsRowed b4 b5 b6 m_stops b8 m_knobs b10 b11 b12 b13 b14 b15 b16 b17 b18 b19 b20 b21 b22 b23 b24 m_heard m_enter b27 b28 b29 b30 b31 b32
end Go.Am
