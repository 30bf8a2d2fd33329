/- PriceEqual: the closed facts of its row. -/
import Derived.Test.YtfnkjclplfhjcaaGreatDoorJ68
set_option linter.unusedSimpArgs false
set_option linter.unusedVariables false
namespace Go.Am
open Go Go.Proofs Go.ChangeShapes Go.WideShapes Go.RowKit Go.Proofs.YtfnkjclplfhjcaaGreatDoor
theorem b1 : (Rows.priceEqualRow.wf (OpenSpec.ofChange Rows.priceEqualSpec)) = true := by kernel_rfl
theorem b4 : (Tryz.f7.params.all (Tryz.prog.readableRec ·)) = true := by kernel_rfl
theorem b5 : (namedTie Tryz.prog Rows.priceEqualRow.named Rows.priceEqualSpec.vars) = true := by kernel_rfl
theorem b6 : ((Rows.priceEqualRow.stops == [])) = true := by kernel_rfl
theorem b8 : ((Rows.priceEqualRow.knobs == [])) = true := by kernel_rfl
theorem b10 : ((Rows.priceEqualRow.inPlace == Tryz.prog.inPlace 7)) = true := by kernel_rfl
theorem b11 : ((Rows.priceEqualRow.unfollowed == Tryz.prog.unfollowed 7)) = true := by kernel_rfl
theorem b12 : ((Rows.priceEqualRow.recurses == Tryz.prog.recurses 7)) = true := by kernel_rfl
theorem b13 : ((Rows.priceEqualRow.named == Tryz.prog.varsNamed 7)) = true := by kernel_rfl
theorem b14 : ((Rows.priceEqualRow.maps == (Tryz.f7.params.toList ++ Rows.priceEqualSpec.plain.varTypes Tryz.prog).any (Tryz.prog.mapsRec ·))) = true := by kernel_rfl
theorem b15 : ((Rows.priceEqualRow.ifaces == (Tryz.f7.params.toList ++ Rows.priceEqualSpec.plain.varTypes Tryz.prog).any (Tryz.prog.ifacesRec ·))) = true := by kernel_rfl
theorem b16 : ((Rows.priceEqualRow.mapsOut == Tryz.prog.mapsAmong Tryz.f7.resultTypes.toList)) = true := by kernel_rfl
theorem b17 : ((Rows.priceEqualRow.loops == (Tryz.f7.params.toList ++ Rows.priceEqualSpec.plain.varTypes Tryz.prog).any (Tryz.prog.loopsFrom ·))) = true := by kernel_rfl
theorem b18 : ((Rows.priceEqualRow.wideKeys == (Tryz.f7.params.toList ++ Rows.priceEqualSpec.plain.varTypes Tryz.prog ++ Tryz.f7.resultTypes.toList).any (Tryz.prog.wideKeysFrom ·))) = true := by kernel_rfl
theorem b19 : (Rows.priceEqualSpec.vars.all (Tryz.prog.varReadable ·)) = true := by kernel_rfl
theorem b20 : (Tryz.f7.resultTypes.all (fun t => Tryz.prog.readableRec t && decide (t < Tryz.prog.types.size))) = true := by kernel_rfl
theorem b21 : ((Rows.priceEqualRow.ifacesOut == Tryz.f7.resultTypes.toList.any (Tryz.prog.ifacesRec ·))) = true := by kernel_rfl
theorem b22 : ((Rows.priceEqualRow.loopsOut == Tryz.f7.resultTypes.toList.any (Tryz.prog.loopsFrom ·))) = true := by kernel_rfl
theorem b24 : (Rows.priceEqualRow.shortTexts.isNone) = true := by kernel_rfl
theorem b29 : ((Rows.priceEqualRow.kinds == (if Rows.priceEqualRow.domain.isEmpty then [] else Tryz.f7.params.toList.map fun t => match Tryz.prog.underlying t with | some (.int k) => some k | _ => none))) = true := by kernel_rfl
theorem b30 : ((Rows.priceEqualRow.pinned == Rows.priceEqualRow.pinnedBy)) = true := by kernel_rfl
theorem b31 : ((Rows.priceEqualRow.veiled == (Tryz.f7.params.toList ++ Rows.priceEqualSpec.plain.varTypes Tryz.prog ++ Tryz.f7.resultTypes.toList).any (Tryz.prog.veiledRec ·))) = true := by kernel_rfl
theorem b32 : (Rows.priceEqualRow.veiledFits Tryz.prog Tryz.f7.params.toList (Tryz.f7.params.toList ++ Rows.priceEqualSpec.plain.varTypes Tryz.prog ++ Tryz.f7.resultTypes.toList)) = true := by kernel_rfl
theorem b23 : (Rows.priceEqualRow.plainKeys == Tryz.prog.plainKeys) = true := by rw [m_keys]; kernel_rfl
theorem b27 : (Rows.priceEqualRow.lifted == Tryz.prog.liftsFinal) = true := by rw [m_final]; kernel_rfl
theorem b28 : (Tryz.prog.make == some Rows.priceEqualRow.make) = true := m_make
set_option maxRecDepth 100000 in
theorem priceEqual_facts : joinedFacts Tryz.prog 7 Tryz.f7 Rows.priceEqualSpec Rows.priceEqualRow = true :=
  joined_of b1 Tryz_laidOut m_mapsRowed b4 b5 b6 m_stops b8 m_knobs b10 b11 b12 b13 b14 b15 b16 b17 b18 b19 b20 b21 b22 b23 b24 m_heard m_enter b27 b28 b29 b30 b31 b32
end Go.Am
