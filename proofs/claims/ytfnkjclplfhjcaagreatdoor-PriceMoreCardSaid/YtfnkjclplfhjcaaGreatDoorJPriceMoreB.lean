/- PriceMore: the closed facts of its row. -/
import Derived.Test.YtfnkjclplfhjcaaGreatDoorJ68
set_option linter.unusedSimpArgs false
set_option linter.unusedVariables false
namespace Go.Am
open Go Go.Proofs Go.ChangeShapes Go.WideShapes Go.RowKit Go.Proofs.YtfnkjclplfhjcaaGreatDoor
theorem b1 : (Rows.priceMoreRow.wf (OpenSpec.ofChange Rows.priceMoreSpec)) = true := by kernel_rfl
theorem b4 : (Tryz.f16.params.all (Tryz.prog.readableRec ·)) = true := by kernel_rfl
theorem b5 : (namedTie Tryz.prog Rows.priceMoreRow.named Rows.priceMoreSpec.vars) = true := by kernel_rfl
theorem b6 : ((Rows.priceMoreRow.stops == [])) = true := by kernel_rfl
theorem b8 : ((Rows.priceMoreRow.knobs == [])) = true := by kernel_rfl
theorem b10 : ((Rows.priceMoreRow.inPlace == Tryz.prog.inPlace 16)) = true := by kernel_rfl
theorem b11 : ((Rows.priceMoreRow.unfollowed == Tryz.prog.unfollowed 16)) = true := by kernel_rfl
theorem b12 : ((Rows.priceMoreRow.recurses == Tryz.prog.recurses 16)) = true := by kernel_rfl
theorem b13 : ((Rows.priceMoreRow.named == Tryz.prog.varsNamed 16)) = true := by kernel_rfl
theorem b14 : ((Rows.priceMoreRow.maps == (Tryz.f16.params.toList ++ Rows.priceMoreSpec.plain.varTypes Tryz.prog).any (Tryz.prog.mapsRec ·))) = true := by kernel_rfl
theorem b15 : ((Rows.priceMoreRow.ifaces == (Tryz.f16.params.toList ++ Rows.priceMoreSpec.plain.varTypes Tryz.prog).any (Tryz.prog.ifacesRec ·))) = true := by kernel_rfl
theorem b16 : ((Rows.priceMoreRow.mapsOut == Tryz.prog.mapsAmong Tryz.f16.resultTypes.toList)) = true := by kernel_rfl
theorem b17 : ((Rows.priceMoreRow.loops == (Tryz.f16.params.toList ++ Rows.priceMoreSpec.plain.varTypes Tryz.prog).any (Tryz.prog.loopsFrom ·))) = true := by kernel_rfl
theorem b18 : ((Rows.priceMoreRow.wideKeys == (Tryz.f16.params.toList ++ Rows.priceMoreSpec.plain.varTypes Tryz.prog ++ Tryz.f16.resultTypes.toList).any (Tryz.prog.wideKeysFrom ·))) = true := by kernel_rfl
theorem b19 : (Rows.priceMoreSpec.vars.all (Tryz.prog.varReadable ·)) = true := by kernel_rfl
theorem b20 : (Tryz.f16.resultTypes.all (fun t => Tryz.prog.readableRec t && decide (t < Tryz.prog.types.size))) = true := by kernel_rfl
theorem b21 : ((Rows.priceMoreRow.ifacesOut == Tryz.f16.resultTypes.toList.any (Tryz.prog.ifacesRec ·))) = true := by kernel_rfl
theorem b22 : ((Rows.priceMoreRow.loopsOut == Tryz.f16.resultTypes.toList.any (Tryz.prog.loopsFrom ·))) = true := by kernel_rfl
theorem b24 : (Rows.priceMoreRow.shortTexts.isNone) = true := by kernel_rfl
theorem b29 : ((Rows.priceMoreRow.kinds == (if Rows.priceMoreRow.domain.isEmpty then [] else Tryz.f16.params.toList.map fun t => match Tryz.prog.underlying t with | some (.int k) => some k | _ => none))) = true := by kernel_rfl
theorem b30 : ((Rows.priceMoreRow.pinned == Rows.priceMoreRow.pinnedBy)) = true := by kernel_rfl
theorem b31 : ((Rows.priceMoreRow.veiled == (Tryz.f16.params.toList ++ Rows.priceMoreSpec.plain.varTypes Tryz.prog ++ Tryz.f16.resultTypes.toList).any (Tryz.prog.veiledRec ·))) = true := by kernel_rfl
theorem b32 : (Rows.priceMoreRow.veiledFits Tryz.prog Tryz.f16.params.toList (Tryz.f16.params.toList ++ Rows.priceMoreSpec.plain.varTypes Tryz.prog ++ Tryz.f16.resultTypes.toList)) = true := by kernel_rfl
theorem b23 : (Rows.priceMoreRow.plainKeys == Tryz.prog.plainKeys) = true := by rw [m_keys]; kernel_rfl
theorem b27 : (Rows.priceMoreRow.lifted == Tryz.prog.liftsFinal) = true := by rw [m_final]; kernel_rfl
theorem b28 : (Tryz.prog.make == some Rows.priceMoreRow.make) = true := m_make
set_option maxRecDepth 100000 in
theorem priceMore_facts : joinedFacts Tryz.prog 16 Tryz.f16 Rows.priceMoreSpec Rows.priceMoreRow = true :=
  joined_of b1 Tryz_laidOut m_mapsRowed b4 b5 b6 m_stops b8 m_knobs b10 b11 b12 b13 b14 b15 b16 b17 b18 b19 b20 b21 b22 b23 b24 m_heard m_enter b27 b28 b29 b30 b31 b32
end Go.Am
