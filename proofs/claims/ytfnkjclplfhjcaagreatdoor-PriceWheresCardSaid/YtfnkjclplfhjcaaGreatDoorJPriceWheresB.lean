/- PriceWheres: the closed facts of its row. -/
import Derived.Test.YtfnkjclplfhjcaaGreatDoorJ68
set_option linter.unusedSimpArgs false
set_option linter.unusedVariables false
namespace Go.Am
open Go Go.Proofs Go.ChangeShapes Go.WideShapes Go.RowKit Go.Proofs.YtfnkjclplfhjcaaGreatDoor
theorem b1 : (Rows.priceWheresRow.wf (OpenSpec.ofChange Rows.priceWheresSpec)) = true := by kernel_rfl
theorem b4 : (Tryz.f8.params.all (Tryz.prog.readableRec ·)) = true := by kernel_rfl
theorem b5 : (namedTie Tryz.prog Rows.priceWheresRow.named Rows.priceWheresSpec.vars) = true := by kernel_rfl
theorem b6 : ((Rows.priceWheresRow.stops == [])) = true := by kernel_rfl
theorem b8 : ((Rows.priceWheresRow.knobs == [])) = true := by kernel_rfl
theorem b10 : ((Rows.priceWheresRow.inPlace == Tryz.prog.inPlace 8)) = true := by kernel_rfl
theorem b11 : ((Rows.priceWheresRow.unfollowed == Tryz.prog.unfollowed 8)) = true := by kernel_rfl
theorem b12 : ((Rows.priceWheresRow.recurses == Tryz.prog.recurses 8)) = true := by kernel_rfl
theorem b13 : ((Rows.priceWheresRow.named == Tryz.prog.varsNamed 8)) = true := by kernel_rfl
theorem b14 : ((Rows.priceWheresRow.maps == (Tryz.f8.params.toList ++ Rows.priceWheresSpec.plain.varTypes Tryz.prog).any (Tryz.prog.mapsRec ·))) = true := by kernel_rfl
theorem b15 : ((Rows.priceWheresRow.ifaces == (Tryz.f8.params.toList ++ Rows.priceWheresSpec.plain.varTypes Tryz.prog).any (Tryz.prog.ifacesRec ·))) = true := by kernel_rfl
theorem b16 : ((Rows.priceWheresRow.mapsOut == Tryz.prog.mapsAmong Tryz.f8.resultTypes.toList)) = true := by kernel_rfl
theorem b17 : ((Rows.priceWheresRow.loops == (Tryz.f8.params.toList ++ Rows.priceWheresSpec.plain.varTypes Tryz.prog).any (Tryz.prog.loopsFrom ·))) = true := by kernel_rfl
theorem b18 : ((Rows.priceWheresRow.wideKeys == (Tryz.f8.params.toList ++ Rows.priceWheresSpec.plain.varTypes Tryz.prog ++ Tryz.f8.resultTypes.toList).any (Tryz.prog.wideKeysFrom ·))) = true := by kernel_rfl
theorem b19 : (Rows.priceWheresSpec.vars.all (Tryz.prog.varReadable ·)) = true := by kernel_rfl
theorem b20 : (Tryz.f8.resultTypes.all (fun t => Tryz.prog.readableRec t && decide (t < Tryz.prog.types.size))) = true := by kernel_rfl
theorem b21 : ((Rows.priceWheresRow.ifacesOut == Tryz.f8.resultTypes.toList.any (Tryz.prog.ifacesRec ·))) = true := by kernel_rfl
theorem b22 : ((Rows.priceWheresRow.loopsOut == Tryz.f8.resultTypes.toList.any (Tryz.prog.loopsFrom ·))) = true := by kernel_rfl
theorem b24 : (Rows.priceWheresRow.shortTexts.isNone) = true := by kernel_rfl
theorem b29 : ((Rows.priceWheresRow.kinds == (if Rows.priceWheresRow.domain.isEmpty then [] else Tryz.f8.params.toList.map fun t => match Tryz.prog.underlying t with | some (.int k) => some k | _ => none))) = true := by kernel_rfl
theorem b30 : ((Rows.priceWheresRow.pinned == Rows.priceWheresRow.pinnedBy)) = true := by kernel_rfl
theorem b31 : ((Rows.priceWheresRow.veiled == (Tryz.f8.params.toList ++ Rows.priceWheresSpec.plain.varTypes Tryz.prog ++ Tryz.f8.resultTypes.toList).any (Tryz.prog.veiledRec ·))) = true := by kernel_rfl
theorem b32 : (Rows.priceWheresRow.veiledFits Tryz.prog Tryz.f8.params.toList (Tryz.f8.params.toList ++ Rows.priceWheresSpec.plain.varTypes Tryz.prog ++ Tryz.f8.resultTypes.toList)) = true := by kernel_rfl
theorem b23 : (Rows.priceWheresRow.plainKeys == Tryz.prog.plainKeys) = true := by rw [m_keys]; kernel_rfl
theorem b27 : (Rows.priceWheresRow.lifted == Tryz.prog.liftsFinal) = true := by rw [m_final]; kernel_rfl
theorem b28 : (Tryz.prog.make == some Rows.priceWheresRow.make) = true := m_make
set_option maxRecDepth 100000 in
theorem priceWheres_facts : joinedFacts Tryz.prog 8 Tryz.f8 Rows.priceWheresSpec Rows.priceWheresRow = true :=
  joined_of b1 Tryz_laidOut m_mapsRowed b4 b5 b6 m_stops b8 m_knobs b10 b11 b12 b13 b14 b15 b16 b17 b18 b19 b20 b21 b22 b23 b24 m_heard m_enter b27 b28 b29 b30 b31 b32
end Go.Am
