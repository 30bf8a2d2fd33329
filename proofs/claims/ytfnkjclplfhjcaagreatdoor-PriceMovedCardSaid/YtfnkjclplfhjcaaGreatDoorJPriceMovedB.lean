/- PriceMoved: the closed facts of its row. -/
import Derived.Test.YtfnkjclplfhjcaaGreatDoorJ68
set_option linter.unusedSimpArgs false
set_option linter.unusedVariables false
namespace Go.Am
open Go Go.Proofs Go.ChangeShapes Go.WideShapes Go.RowKit Go.Proofs.YtfnkjclplfhjcaaGreatDoor
theorem b1 : (Rows.priceMovedRow.wf (OpenSpec.ofChange Rows.priceMovedSpec)) = true := by kernel_rfl
theorem b4 : (Tryz.f17.params.all (Tryz.prog.readableRec ·)) = true := by kernel_rfl
theorem b5 : (namedTie Tryz.prog Rows.priceMovedRow.named Rows.priceMovedSpec.vars) = true := by kernel_rfl
theorem b6 : ((Rows.priceMovedRow.stops == [])) = true := by kernel_rfl
theorem b8 : ((Rows.priceMovedRow.knobs == [])) = true := by kernel_rfl
theorem b10 : ((Rows.priceMovedRow.inPlace == Tryz.prog.inPlace 17)) = true := by kernel_rfl
theorem b11 : ((Rows.priceMovedRow.unfollowed == Tryz.prog.unfollowed 17)) = true := by kernel_rfl
theorem b12 : ((Rows.priceMovedRow.recurses == Tryz.prog.recurses 17)) = true := by kernel_rfl
theorem b13 : ((Rows.priceMovedRow.named == Tryz.prog.varsNamed 17)) = true := by kernel_rfl
theorem b14 : ((Rows.priceMovedRow.maps == (Tryz.f17.params.toList ++ Rows.priceMovedSpec.plain.varTypes Tryz.prog).any (Tryz.prog.mapsRec ·))) = true := by kernel_rfl
theorem b15 : ((Rows.priceMovedRow.ifaces == (Tryz.f17.params.toList ++ Rows.priceMovedSpec.plain.varTypes Tryz.prog).any (Tryz.prog.ifacesRec ·))) = true := by kernel_rfl
theorem b16 : ((Rows.priceMovedRow.mapsOut == Tryz.prog.mapsAmong Tryz.f17.resultTypes.toList)) = true := by kernel_rfl
theorem b17 : ((Rows.priceMovedRow.loops == (Tryz.f17.params.toList ++ Rows.priceMovedSpec.plain.varTypes Tryz.prog).any (Tryz.prog.loopsFrom ·))) = true := by kernel_rfl
theorem b18 : ((Rows.priceMovedRow.wideKeys == (Tryz.f17.params.toList ++ Rows.priceMovedSpec.plain.varTypes Tryz.prog ++ Tryz.f17.resultTypes.toList).any (Tryz.prog.wideKeysFrom ·))) = true := by kernel_rfl
theorem b19 : (Rows.priceMovedSpec.vars.all (Tryz.prog.varReadable ·)) = true := by kernel_rfl
theorem b20 : (Tryz.f17.resultTypes.all (fun t => Tryz.prog.readableRec t && decide (t < Tryz.prog.types.size))) = true := by kernel_rfl
theorem b21 : ((Rows.priceMovedRow.ifacesOut == Tryz.f17.resultTypes.toList.any (Tryz.prog.ifacesRec ·))) = true := by kernel_rfl
theorem b22 : ((Rows.priceMovedRow.loopsOut == Tryz.f17.resultTypes.toList.any (Tryz.prog.loopsFrom ·))) = true := by kernel_rfl
theorem b24 : (Rows.priceMovedRow.shortTexts.isNone) = true := by kernel_rfl
theorem b29 : ((Rows.priceMovedRow.kinds == (if Rows.priceMovedRow.domain.isEmpty then [] else Tryz.f17.params.toList.map fun t => match Tryz.prog.underlying t with | some (.int k) => some k | _ => none))) = true := by kernel_rfl
theorem b30 : ((Rows.priceMovedRow.pinned == Rows.priceMovedRow.pinnedBy)) = true := by kernel_rfl
theorem b31 : ((Rows.priceMovedRow.veiled == (Tryz.f17.params.toList ++ Rows.priceMovedSpec.plain.varTypes Tryz.prog ++ Tryz.f17.resultTypes.toList).any (Tryz.prog.veiledRec ·))) = true := by kernel_rfl
theorem b32 : (Rows.priceMovedRow.veiledFits Tryz.prog Tryz.f17.params.toList (Tryz.f17.params.toList ++ Rows.priceMovedSpec.plain.varTypes Tryz.prog ++ Tryz.f17.resultTypes.toList)) = true := by kernel_rfl
theorem b23 : (Rows.priceMovedRow.plainKeys == Tryz.prog.plainKeys) = true := by rw [m_keys]; kernel_rfl
theorem b27 : (Rows.priceMovedRow.lifted == Tryz.prog.liftsFinal) = true := by rw [m_final]; kernel_rfl
theorem b28 : (Tryz.prog.make == some Rows.priceMovedRow.make) = true := m_make
set_option maxRecDepth 100000 in
theorem priceMoved_facts : joinedFacts Tryz.prog 17 Tryz.f17 Rows.priceMovedSpec Rows.priceMovedRow = true :=
  joined_of b1 Tryz_laidOut m_mapsRowed b4 b5 b6 m_stops b8 m_knobs b10 b11 b12 b13 b14 b15 b16 b17 b18 b19 b20 b21 b22 b23 b24 m_heard m_enter b27 b28 b29 b30 b31 b32
end Go.Am
