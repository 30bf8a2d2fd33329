/- PriceChanges: the closed facts of its row. -/
import Derived.Test.YtfnkjclplfhjcaaGreatDoorJ68
set_option linter.unusedSimpArgs false
set_option linter.unusedVariables false
namespace Go.Am
open Go Go.Proofs Go.ChangeShapes Go.WideShapes Go.RowKit Go.Proofs.YtfnkjclplfhjcaaGreatDoor
theorem b1 : (Rows.priceChangesRow.wf (OpenSpec.ofChange Rows.priceChangesSpec)) = true := by kernel_rfl
theorem b4 : (Tryz.f10.params.all (Tryz.prog.readableRec ·)) = true := by kernel_rfl
theorem b5 : (namedTie Tryz.prog Rows.priceChangesRow.named Rows.priceChangesSpec.vars) = true := by kernel_rfl
theorem b6 : ((Rows.priceChangesRow.stops == [])) = true := by kernel_rfl
theorem b8 : ((Rows.priceChangesRow.knobs == [])) = true := by kernel_rfl
theorem b10 : ((Rows.priceChangesRow.inPlace == Tryz.prog.inPlace 10)) = true := by kernel_rfl
theorem b11 : ((Rows.priceChangesRow.unfollowed == Tryz.prog.unfollowed 10)) = true := by kernel_rfl
theorem b12 : ((Rows.priceChangesRow.recurses == Tryz.prog.recurses 10)) = true := by kernel_rfl
theorem b13 : ((Rows.priceChangesRow.named == Tryz.prog.varsNamed 10)) = true := by kernel_rfl
theorem b14 : ((Rows.priceChangesRow.maps == (Tryz.f10.params.toList ++ Rows.priceChangesSpec.plain.varTypes Tryz.prog).any (Tryz.prog.mapsRec ·))) = true := by kernel_rfl
theorem b15 : ((Rows.priceChangesRow.ifaces == (Tryz.f10.params.toList ++ Rows.priceChangesSpec.plain.varTypes Tryz.prog).any (Tryz.prog.ifacesRec ·))) = true := by kernel_rfl
theorem b16 : ((Rows.priceChangesRow.mapsOut == Tryz.prog.mapsAmong Tryz.f10.resultTypes.toList)) = true := by kernel_rfl
theorem b17 : ((Rows.priceChangesRow.loops == (Tryz.f10.params.toList ++ Rows.priceChangesSpec.plain.varTypes Tryz.prog).any (Tryz.prog.loopsFrom ·))) = true := by kernel_rfl
theorem b18 : ((Rows.priceChangesRow.wideKeys == (Tryz.f10.params.toList ++ Rows.priceChangesSpec.plain.varTypes Tryz.prog ++ Tryz.f10.resultTypes.toList).any (Tryz.prog.wideKeysFrom ·))) = true := by kernel_rfl
theorem b19 : (Rows.priceChangesSpec.vars.all (Tryz.prog.varReadable ·)) = true := by kernel_rfl
theorem b20 : (Tryz.f10.resultTypes.all (fun t => Tryz.prog.readableRec t && decide (t < Tryz.prog.types.size))) = true := by kernel_rfl
theorem b21 : ((Rows.priceChangesRow.ifacesOut == Tryz.f10.resultTypes.toList.any (Tryz.prog.ifacesRec ·))) = true := by kernel_rfl
theorem b22 : ((Rows.priceChangesRow.loopsOut == Tryz.f10.resultTypes.toList.any (Tryz.prog.loopsFrom ·))) = true := by kernel_rfl
theorem b24 : (Rows.priceChangesRow.shortTexts.isNone) = true := by kernel_rfl
theorem b29 : ((Rows.priceChangesRow.kinds == (if Rows.priceChangesRow.domain.isEmpty then [] else Tryz.f10.params.toList.map fun t => match Tryz.prog.underlying t with | some (.int k) => some k | _ => none))) = true := by kernel_rfl
theorem b30 : ((Rows.priceChangesRow.pinned == Rows.priceChangesRow.pinnedBy)) = true := by kernel_rfl
theorem b31 : ((Rows.priceChangesRow.veiled == (Tryz.f10.params.toList ++ Rows.priceChangesSpec.plain.varTypes Tryz.prog ++ Tryz.f10.resultTypes.toList).any (Tryz.prog.veiledRec ·))) = true := by kernel_rfl
theorem b32 : (Rows.priceChangesRow.veiledFits Tryz.prog Tryz.f10.params.toList (Tryz.f10.params.toList ++ Rows.priceChangesSpec.plain.varTypes Tryz.prog ++ Tryz.f10.resultTypes.toList)) = true := by kernel_rfl
theorem b23 : (Rows.priceChangesRow.plainKeys == Tryz.prog.plainKeys) = true := by rw [m_keys]; kernel_rfl
theorem b27 : (Rows.priceChangesRow.lifted == Tryz.prog.liftsFinal) = true := by rw [m_final]; kernel_rfl
theorem b28 : (Tryz.prog.make == some Rows.priceChangesRow.make) = true := m_make
set_option maxRecDepth 100000 in
theorem priceChanges_facts : joinedFacts Tryz.prog 10 Tryz.f10 Rows.priceChangesSpec Rows.priceChangesRow = true :=
  joined_of b1 Tryz_laidOut m_mapsRowed b4 b5 b6 m_stops b8 m_knobs b10 b11 b12 b13 b14 b15 b16 b17 b18 b19 b20 b21 b22 b23 b24 m_heard m_enter b27 b28 b29 b30 b31 b32
end Go.Am
