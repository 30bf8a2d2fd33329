/- TopOpened: the closed facts of its row. -/
import Derived.Test.YtlflfbnnjlkkcaaGreatJV125
set_option linter.unusedSimpArgs false
set_option linter.unusedVariables false
set_option linter.defProp false
namespace Go.Am
open Go Go.Proofs Go.ChangeShapes Go.WideShapes Go.RowKit Go.Proofs.YtlflfbnnjlkkcaaGreat
theorem b1 : (Rows.topOpenedRow.wf (OpenSpec.ofChange Rows.topOpenedSpec)) = true := by kernel_rfl
theorem b4 : (Tryz.f3.params.all (Tryz.prog.readableRec ·)) = true := by kernel_rfl
theorem b5 : (namedTie Tryz.prog Rows.topOpenedRow.named Rows.topOpenedSpec.vars) = true := by kernel_rfl
theorem b6 : ((Rows.topOpenedRow.stops == [])) = true := by kernel_rfl
theorem b8 : ((Rows.topOpenedRow.knobs == [])) = true := by kernel_rfl
theorem b10 : ((Rows.topOpenedRow.inPlace == Tryz.prog.inPlace 3)) = true := by kernel_rfl
theorem b11 : ((Rows.topOpenedRow.unfollowed == Tryz.prog.unfollowed 3)) = true := by kernel_rfl
theorem b12 : ((Rows.topOpenedRow.recurses == Tryz.prog.recurses 3)) = true := by kernel_rfl
theorem b13 : ((Rows.topOpenedRow.named == Tryz.prog.varsNamed 3)) = true := by kernel_rfl
theorem b14 : ((Rows.topOpenedRow.maps == (Tryz.f3.params.toList ++ Rows.topOpenedSpec.plain.varTypes Tryz.prog).any (Tryz.prog.mapsRec ·))) = true := by kernel_rfl
theorem b15 : ((Rows.topOpenedRow.ifaces == (Tryz.f3.params.toList ++ Rows.topOpenedSpec.plain.varTypes Tryz.prog).any (Tryz.prog.ifacesRec ·))) = true := by kernel_rfl
theorem b16 : ((Rows.topOpenedRow.mapsOut == Tryz.prog.mapsAmong Tryz.f3.resultTypes.toList)) = true := by kernel_rfl
theorem b17 : ((Rows.topOpenedRow.loops == (Tryz.f3.params.toList ++ Rows.topOpenedSpec.plain.varTypes Tryz.prog).any (Tryz.prog.loopsFrom ·))) = true := by kernel_rfl
theorem b18 : ((Rows.topOpenedRow.wideKeys == (Tryz.f3.params.toList ++ Rows.topOpenedSpec.plain.varTypes Tryz.prog ++ Tryz.f3.resultTypes.toList).any (Tryz.prog.wideKeysFrom ·))) = true := by kernel_rfl
theorem b19 : (Rows.topOpenedSpec.vars.all (Tryz.prog.varReadable ·)) = true := by kernel_rfl
theorem b20 : (Tryz.f3.resultTypes.all (fun t => Tryz.prog.readableRec t && decide (t < Tryz.prog.types.size))) = true := by kernel_rfl
theorem b21 : ((Rows.topOpenedRow.ifacesOut == Tryz.f3.resultTypes.toList.any (Tryz.prog.ifacesRec ·))) = true := by kernel_rfl
theorem b22 : ((Rows.topOpenedRow.loopsOut == Tryz.f3.resultTypes.toList.any (Tryz.prog.loopsFrom ·))) = true := by kernel_rfl
theorem b24 : (Rows.topOpenedRow.shortTexts.isNone) = true := by kernel_rfl
theorem b29 : ((Rows.topOpenedRow.kinds == (if Rows.topOpenedRow.domain.isEmpty then [] else Tryz.f3.params.toList.map fun t => match Tryz.prog.underlying t with | some (.int k) => some k | _ => none))) = true := by kernel_rfl
theorem b30 : ((Rows.topOpenedRow.pinned == Rows.topOpenedRow.pinnedBy)) = true := by kernel_rfl
theorem b31 : ((Rows.topOpenedRow.veiled == (Tryz.f3.params.toList ++ Rows.topOpenedSpec.plain.varTypes Tryz.prog ++ Tryz.f3.resultTypes.toList).any (Tryz.prog.veiledRec ·))) = true := by kernel_rfl
theorem b32 : (Rows.topOpenedRow.veiledFits Tryz.prog Tryz.f3.params.toList (Tryz.f3.params.toList ++ Rows.topOpenedSpec.plain.varTypes Tryz.prog ++ Tryz.f3.resultTypes.toList)) = true := by kernel_rfl
theorem b23 : (Rows.topOpenedRow.plainKeys == Tryz.prog.plainKeys) = true := by rw [Yt]; kernel_rfl
theorem b27 : (Rows.topOpenedRow.lifted == Tryz.prog.liftsFinal) = true := by rw [VJ]; kernel_rfl
theorem b28 : (Tryz.prog.make == some Rows.topOpenedRow.make) = true := Yr
set_option maxRecDepth 100000 in
theorem topOpened_facts : joinedFacts Tryz.prog 3 Tryz.f3 Rows.topOpenedSpec Rows.topOpenedRow = true :=
  MN b1 v3 Hb b4 b5 b6 VF b8 VH b10 b11 b12 b13 b14 b15 b16 b17 b18 b19 b20 b21 b22 b23 b24 VI VK b27 b28 b29 b30 b31 b32
end Go.Am
