/- PriceNearest: the closed facts of its row. -/
import Derived.Test.YtfnkjclplfhjcaaGreatDoorJ68
set_option linter.unusedSimpArgs false
set_option linter.unusedVariables false
namespace Go.Am
open Go Go.Proofs Go.ChangeShapes Go.WideShapes Go.RowKit Go.Proofs.YtfnkjclplfhjcaaGreatDoor
theorem b1 : (Rows.priceNearestRow.wf (OpenSpec.ofChange Rows.priceNearestSpec)) = true := by kernel_rfl
theorem b4 : (Tryz.f11.params.all (Tryz.prog.readableRec ·)) = true := by kernel_rfl
theorem b5 : (namedTie Tryz.prog Rows.priceNearestRow.named Rows.priceNearestSpec.vars) = true := by kernel_rfl
theorem b6 : ((Rows.priceNearestRow.stops == [])) = true := by kernel_rfl
theorem b8 : ((Rows.priceNearestRow.knobs == [])) = true := by kernel_rfl
theorem b10 : ((Rows.priceNearestRow.inPlace == Tryz.prog.inPlace 11)) = true := by kernel_rfl
theorem b11 : ((Rows.priceNearestRow.unfollowed == Tryz.prog.unfollowed 11)) = true := by kernel_rfl
theorem b12 : ((Rows.priceNearestRow.recurses == Tryz.prog.recurses 11)) = true := by kernel_rfl
theorem b13 : ((Rows.priceNearestRow.named == Tryz.prog.varsNamed 11)) = true := by kernel_rfl
theorem b14 : ((Rows.priceNearestRow.maps == (Tryz.f11.params.toList ++ Rows.priceNearestSpec.plain.varTypes Tryz.prog).any (Tryz.prog.mapsRec ·))) = true := by kernel_rfl
theorem b15 : ((Rows.priceNearestRow.ifaces == (Tryz.f11.params.toList ++ Rows.priceNearestSpec.plain.varTypes Tryz.prog).any (Tryz.prog.ifacesRec ·))) = true := by kernel_rfl
theorem b16 : ((Rows.priceNearestRow.mapsOut == Tryz.prog.mapsAmong Tryz.f11.resultTypes.toList)) = true := by kernel_rfl
theorem b17 : ((Rows.priceNearestRow.loops == (Tryz.f11.params.toList ++ Rows.priceNearestSpec.plain.varTypes Tryz.prog).any (Tryz.prog.loopsFrom ·))) = true := by kernel_rfl
theorem b18 : ((Rows.priceNearestRow.wideKeys == (Tryz.f11.params.toList ++ Rows.priceNearestSpec.plain.varTypes Tryz.prog ++ Tryz.f11.resultTypes.toList).any (Tryz.prog.wideKeysFrom ·))) = true := by kernel_rfl
theorem b19 : (Rows.priceNearestSpec.vars.all (Tryz.prog.varReadable ·)) = true := by kernel_rfl
theorem b20 : (Tryz.f11.resultTypes.all (fun t => Tryz.prog.readableRec t && decide (t < Tryz.prog.types.size))) = true := by kernel_rfl
theorem b21 : ((Rows.priceNearestRow.ifacesOut == Tryz.f11.resultTypes.toList.any (Tryz.prog.ifacesRec ·))) = true := by kernel_rfl
theorem b22 : ((Rows.priceNearestRow.loopsOut == Tryz.f11.resultTypes.toList.any (Tryz.prog.loopsFrom ·))) = true := by kernel_rfl
theorem b24 : (Rows.priceNearestRow.shortTexts.isNone) = true := by kernel_rfl
theorem b29 : ((Rows.priceNearestRow.kinds == (if Rows.priceNearestRow.domain.isEmpty then [] else Tryz.f11.params.toList.map fun t => match Tryz.prog.underlying t with | some (.int k) => some k | _ => none))) = true := by kernel_rfl
theorem b30 : ((Rows.priceNearestRow.pinned == Rows.priceNearestRow.pinnedBy)) = true := by kernel_rfl
theorem b31 : ((Rows.priceNearestRow.veiled == (Tryz.f11.params.toList ++ Rows.priceNearestSpec.plain.varTypes Tryz.prog ++ Tryz.f11.resultTypes.toList).any (Tryz.prog.veiledRec ·))) = true := by kernel_rfl
theorem b32 : (Rows.priceNearestRow.veiledFits Tryz.prog Tryz.f11.params.toList (Tryz.f11.params.toList ++ Rows.priceNearestSpec.plain.varTypes Tryz.prog ++ Tryz.f11.resultTypes.toList)) = true := by kernel_rfl
theorem b23 : (Rows.priceNearestRow.plainKeys == Tryz.prog.plainKeys) = true := by rw [m_keys]; kernel_rfl
theorem b27 : (Rows.priceNearestRow.lifted == Tryz.prog.liftsFinal) = true := by rw [m_final]; kernel_rfl
theorem b28 : (Tryz.prog.make == some Rows.priceNearestRow.make) = true := m_make
set_option maxRecDepth 100000 in
theorem priceNearest_facts : joinedFacts Tryz.prog 11 Tryz.f11 Rows.priceNearestSpec Rows.priceNearestRow = true :=
  joined_of b1 Tryz_laidOut m_mapsRowed b4 b5 b6 m_stops b8 m_knobs b10 b11 b12 b13 b14 b15 b16 b17 b18 b19 b20 b21 b22 b23 b24 m_heard m_enter b27 b28 b29 b30 b31 b32
end Go.Am
