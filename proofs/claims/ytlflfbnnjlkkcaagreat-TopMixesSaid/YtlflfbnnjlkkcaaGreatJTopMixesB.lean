/- TopMixes: the closed facts of its row. -/
import Derived.Test.YtlflfbnnjlkkcaaGreatJT68
set_option linter.unusedSimpArgs false
set_option linter.unusedVariables false
namespace Go.Am
open Go Go.Proofs Go.ChangeShapes Go.WideShapes Go.RowKit Go.Proofs.YtlflfbnnjlkkcaaGreat
theorem b1 : (Rows.topMixesRow.wf (OpenSpec.ofChange Rows.topMixesSpec)) = true := by kernel_rfl
theorem b4 : (Tryz.f4.params.all (Tryz.prog.readableRec ·)) = true := by kernel_rfl
theorem b5 : (namedTie Tryz.prog Rows.topMixesRow.named Rows.topMixesSpec.vars) = true := by kernel_rfl
theorem b6 : ((Rows.topMixesRow.stops == [])) = true := by kernel_rfl
theorem b8 : ((Rows.topMixesRow.knobs == [])) = true := by kernel_rfl
theorem b10 : ((Rows.topMixesRow.inPlace == Tryz.prog.inPlace 4)) = true := by kernel_rfl
theorem b11 : ((Rows.topMixesRow.unfollowed == Tryz.prog.unfollowed 4)) = true := by kernel_rfl
theorem b12 : ((Rows.topMixesRow.recurses == Tryz.prog.recurses 4)) = true := by kernel_rfl
theorem b13 : ((Rows.topMixesRow.named == Tryz.prog.varsNamed 4)) = true := by kernel_rfl
theorem b14 : ((Rows.topMixesRow.maps == (Tryz.f4.params.toList ++ Rows.topMixesSpec.plain.varTypes Tryz.prog).any (Tryz.prog.mapsRec ·))) = true := by kernel_rfl
theorem b15 : ((Rows.topMixesRow.ifaces == (Tryz.f4.params.toList ++ Rows.topMixesSpec.plain.varTypes Tryz.prog).any (Tryz.prog.ifacesRec ·))) = true := by kernel_rfl
theorem b16 : ((Rows.topMixesRow.mapsOut == Tryz.prog.mapsAmong Tryz.f4.resultTypes.toList)) = true := by kernel_rfl
theorem b17 : ((Rows.topMixesRow.loops == (Tryz.f4.params.toList ++ Rows.topMixesSpec.plain.varTypes Tryz.prog).any (Tryz.prog.loopsFrom ·))) = true := by kernel_rfl
theorem b18 : ((Rows.topMixesRow.wideKeys == (Tryz.f4.params.toList ++ Rows.topMixesSpec.plain.varTypes Tryz.prog ++ Tryz.f4.resultTypes.toList).any (Tryz.prog.wideKeysFrom ·))) = true := by kernel_rfl
theorem b19 : (Rows.topMixesSpec.vars.all (Tryz.prog.varReadable ·)) = true := by kernel_rfl
theorem b20 : (Tryz.f4.resultTypes.all (fun t => Tryz.prog.readableRec t && decide (t < Tryz.prog.types.size))) = true := by kernel_rfl
theorem b21 : ((Rows.topMixesRow.ifacesOut == Tryz.f4.resultTypes.toList.any (Tryz.prog.ifacesRec ·))) = true := by kernel_rfl
theorem b22 : ((Rows.topMixesRow.loopsOut == Tryz.f4.resultTypes.toList.any (Tryz.prog.loopsFrom ·))) = true := by kernel_rfl
theorem b24 : (Rows.topMixesRow.shortTexts.isNone) = true := by kernel_rfl
theorem b29 : ((Rows.topMixesRow.kinds == (if Rows.topMixesRow.domain.isEmpty then [] else Tryz.f4.params.toList.map fun t => match Tryz.prog.underlying t with | some (.int k) => some k | _ => none))) = true := by kernel_rfl
theorem b30 : ((Rows.topMixesRow.pinned == Rows.topMixesRow.pinnedBy)) = true := by kernel_rfl
theorem b31 : ((Rows.topMixesRow.veiled == (Tryz.f4.params.toList ++ Rows.topMixesSpec.plain.varTypes Tryz.prog ++ Tryz.f4.resultTypes.toList).any (Tryz.prog.veiledRec ·))) = true := by kernel_rfl
theorem b32 : (Rows.topMixesRow.veiledFits Tryz.prog Tryz.f4.params.toList (Tryz.f4.params.toList ++ Rows.topMixesSpec.plain.varTypes Tryz.prog ++ Tryz.f4.resultTypes.toList)) = true := by kernel_rfl
theorem b23 : (Rows.topMixesRow.plainKeys == Tryz.prog.plainKeys) = true := by rw [m_keys]; kernel_rfl
theorem b27 : (Rows.topMixesRow.lifted == Tryz.prog.liftsFinal) = true := by rw [m_final]; kernel_rfl
theorem b28 : (Tryz.prog.make == some Rows.topMixesRow.make) = true := m_make
set_option maxRecDepth 100000 in
theorem topMixes_facts : joinedFacts Tryz.prog 4 Tryz.f4 Rows.topMixesSpec Rows.topMixesRow = true :=
  joined_of b1 Tryz_laidOut m_mapsRowed b4 b5 b6 m_stops b8 m_knobs b10 b11 b12 b13 b14 b15 b16 b17 b18 b19 b20 b21 b22 b23 b24 m_heard m_enter b27 b28 b29 b30 b31 b32
end Go.Am
