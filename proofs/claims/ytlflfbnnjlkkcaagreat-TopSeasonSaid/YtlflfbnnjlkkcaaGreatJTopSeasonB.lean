/- TopSeason: the closed facts of its row. -/
import Derived.Test.YtlflfbnnjlkkcaaGreatJT68
set_option linter.unusedSimpArgs false
set_option linter.unusedVariables false
set_option linter.defProp false
namespace Go.Am
open Go Go.Proofs Go.ChangeShapes Go.WideShapes Go.RowKit Go.Proofs.YtlflfbnnjlkkcaaGreat
theorem b1 : (Rows.topSeasonRow.wf (OpenSpec.ofChange Rows.topSeasonSpec)) = true := by kernel_rfl
theorem b4 : (Tryz.f5.params.all (Tryz.prog.readableRec ·)) = true := by kernel_rfl
theorem b5 : (namedTie Tryz.prog Rows.topSeasonRow.named Rows.topSeasonSpec.vars) = true := by kernel_rfl
theorem b6 : ((Rows.topSeasonRow.stops == [])) = true := by kernel_rfl
theorem b8 : ((Rows.topSeasonRow.knobs == [])) = true := by kernel_rfl
theorem b10 : ((Rows.topSeasonRow.inPlace == Tryz.prog.inPlace 5)) = true := by kernel_rfl
theorem b11 : ((Rows.topSeasonRow.unfollowed == Tryz.prog.unfollowed 5)) = true := by kernel_rfl
theorem b12 : ((Rows.topSeasonRow.recurses == Tryz.prog.recurses 5)) = true := by kernel_rfl
theorem b13 : ((Rows.topSeasonRow.named == Tryz.prog.varsNamed 5)) = true := by kernel_rfl
theorem b14 : ((Rows.topSeasonRow.maps == (Tryz.f5.params.toList ++ Rows.topSeasonSpec.plain.varTypes Tryz.prog).any (Tryz.prog.mapsRec ·))) = true := by kernel_rfl
theorem b15 : ((Rows.topSeasonRow.ifaces == (Tryz.f5.params.toList ++ Rows.topSeasonSpec.plain.varTypes Tryz.prog).any (Tryz.prog.ifacesRec ·))) = true := by kernel_rfl
theorem b16 : ((Rows.topSeasonRow.mapsOut == Tryz.prog.mapsAmong Tryz.f5.resultTypes.toList)) = true := by kernel_rfl
theorem b17 : ((Rows.topSeasonRow.loops == (Tryz.f5.params.toList ++ Rows.topSeasonSpec.plain.varTypes Tryz.prog).any (Tryz.prog.loopsFrom ·))) = true := by kernel_rfl
theorem b18 : ((Rows.topSeasonRow.wideKeys == (Tryz.f5.params.toList ++ Rows.topSeasonSpec.plain.varTypes Tryz.prog ++ Tryz.f5.resultTypes.toList).any (Tryz.prog.wideKeysFrom ·))) = true := by kernel_rfl
theorem b19 : (Rows.topSeasonSpec.vars.all (Tryz.prog.varReadable ·)) = true := by kernel_rfl
theorem b20 : (Tryz.f5.resultTypes.all (fun t => Tryz.prog.readableRec t && decide (t < Tryz.prog.types.size))) = true := by kernel_rfl
theorem b21 : ((Rows.topSeasonRow.ifacesOut == Tryz.f5.resultTypes.toList.any (Tryz.prog.ifacesRec ·))) = true := by kernel_rfl
theorem b22 : ((Rows.topSeasonRow.loopsOut == Tryz.f5.resultTypes.toList.any (Tryz.prog.loopsFrom ·))) = true := by kernel_rfl
theorem b24 : (Rows.topSeasonRow.shortTexts.isNone) = true := by kernel_rfl
theorem b29 : ((Rows.topSeasonRow.kinds == (if Rows.topSeasonRow.domain.isEmpty then [] else Tryz.f5.params.toList.map fun t => match Tryz.prog.underlying t with | some (.int k) => some k | _ => none))) = true := by kernel_rfl
theorem b30 : ((Rows.topSeasonRow.pinned == Rows.topSeasonRow.pinnedBy)) = true := by kernel_rfl
theorem b31 : ((Rows.topSeasonRow.veiled == (Tryz.f5.params.toList ++ Rows.topSeasonSpec.plain.varTypes Tryz.prog ++ Tryz.f5.resultTypes.toList).any (Tryz.prog.veiledRec ·))) = true := by kernel_rfl
theorem b32 : (Rows.topSeasonRow.veiledFits Tryz.prog Tryz.f5.params.toList (Tryz.f5.params.toList ++ Rows.topSeasonSpec.plain.varTypes Tryz.prog ++ Tryz.f5.resultTypes.toList)) = true := by kernel_rfl
theorem b23 : (Rows.topSeasonRow.plainKeys == Tryz.prog.plainKeys) = true := by rw [m_keys]; kernel_rfl
theorem b27 : (Rows.topSeasonRow.lifted == Tryz.prog.liftsFinal) = true := by rw [m_final]; kernel_rfl
theorem b28 : (Tryz.prog.make == some Rows.topSeasonRow.make) = true := m_make
set_option maxRecDepth 100000 in
theorem topSeason_facts : joinedFacts Tryz.prog 5 Tryz.f5 Rows.topSeasonSpec Rows.topSeasonRow = true :=
  joined_of b1 Tryz_laidOut m_mapsRowed b4 b5 b6 m_stops b8 m_knobs b10 b11 b12 b13 b14 b15 b16 b17 b18 b19 b20 b21 b22 b23 b24 m_heard m_enter b27 b28 b29 b30 b31 b32
end Go.Am
