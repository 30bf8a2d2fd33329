/- PriceParts: the closed facts of its row. -/
import Derived.Test.YtfnkjclplfhjcaaGreatDoorJ68
set_option linter.unusedSimpArgs false
set_option linter.unusedVariables false
namespace Go.Am
open Go Go.Proofs Go.ChangeShapes Go.WideShapes Go.RowKit Go.Proofs.YtfnkjclplfhjcaaGreatDoor
theorem b1 : (Rows.pricePartsRow.wf (OpenSpec.ofChange Rows.pricePartsSpec)) = true := by kernel_rfl
theorem b4 : (Tryz.f4.params.all (Tryz.prog.readableRec ·)) = true := by kernel_rfl
theorem b5 : (namedTie Tryz.prog Rows.pricePartsRow.named Rows.pricePartsSpec.vars) = true := by kernel_rfl
theorem b6 : ((Rows.pricePartsRow.stops == [])) = true := by kernel_rfl
theorem b8 : ((Rows.pricePartsRow.knobs == [])) = true := by kernel_rfl
theorem b10 : ((Rows.pricePartsRow.inPlace == Tryz.prog.inPlace 4)) = true := by kernel_rfl
theorem b11 : ((Rows.pricePartsRow.unfollowed == Tryz.prog.unfollowed 4)) = true := by kernel_rfl
theorem b12 : ((Rows.pricePartsRow.recurses == Tryz.prog.recurses 4)) = true := by kernel_rfl
theorem b13 : ((Rows.pricePartsRow.named == Tryz.prog.varsNamed 4)) = true := by kernel_rfl
theorem b14 : ((Rows.pricePartsRow.maps == (Tryz.f4.params.toList ++ Rows.pricePartsSpec.plain.varTypes Tryz.prog).any (Tryz.prog.mapsRec ·))) = true := by kernel_rfl
theorem b15 : ((Rows.pricePartsRow.ifaces == (Tryz.f4.params.toList ++ Rows.pricePartsSpec.plain.varTypes Tryz.prog).any (Tryz.prog.ifacesRec ·))) = true := by kernel_rfl
theorem b16 : ((Rows.pricePartsRow.mapsOut == Tryz.prog.mapsAmong Tryz.f4.resultTypes.toList)) = true := by kernel_rfl
theorem b17 : ((Rows.pricePartsRow.loops == (Tryz.f4.params.toList ++ Rows.pricePartsSpec.plain.varTypes Tryz.prog).any (Tryz.prog.loopsFrom ·))) = true := by kernel_rfl
theorem b18 : ((Rows.pricePartsRow.wideKeys == (Tryz.f4.params.toList ++ Rows.pricePartsSpec.plain.varTypes Tryz.prog ++ Tryz.f4.resultTypes.toList).any (Tryz.prog.wideKeysFrom ·))) = true := by kernel_rfl
theorem b19 : (Rows.pricePartsSpec.vars.all (Tryz.prog.varReadable ·)) = true := by kernel_rfl
theorem b20 : (Tryz.f4.resultTypes.all (fun t => Tryz.prog.readableRec t && decide (t < Tryz.prog.types.size))) = true := by kernel_rfl
theorem b21 : ((Rows.pricePartsRow.ifacesOut == Tryz.f4.resultTypes.toList.any (Tryz.prog.ifacesRec ·))) = true := by kernel_rfl
theorem b22 : ((Rows.pricePartsRow.loopsOut == Tryz.f4.resultTypes.toList.any (Tryz.prog.loopsFrom ·))) = true := by kernel_rfl
theorem b24 : (Rows.pricePartsRow.shortTexts.isNone) = true := by kernel_rfl
theorem b29 : ((Rows.pricePartsRow.kinds == (if Rows.pricePartsRow.domain.isEmpty then [] else Tryz.f4.params.toList.map fun t => match Tryz.prog.underlying t with | some (.int k) => some k | _ => none))) = true := by kernel_rfl
theorem b30 : ((Rows.pricePartsRow.pinned == Rows.pricePartsRow.pinnedBy)) = true := by kernel_rfl
theorem b31 : ((Rows.pricePartsRow.veiled == (Tryz.f4.params.toList ++ Rows.pricePartsSpec.plain.varTypes Tryz.prog ++ Tryz.f4.resultTypes.toList).any (Tryz.prog.veiledRec ·))) = true := by kernel_rfl
theorem b32 : (Rows.pricePartsRow.veiledFits Tryz.prog Tryz.f4.params.toList (Tryz.f4.params.toList ++ Rows.pricePartsSpec.plain.varTypes Tryz.prog ++ Tryz.f4.resultTypes.toList)) = true := by kernel_rfl
theorem b23 : (Rows.pricePartsRow.plainKeys == Tryz.prog.plainKeys) = true := by rw [m_keys]; kernel_rfl
theorem b27 : (Rows.pricePartsRow.lifted == Tryz.prog.liftsFinal) = true := by rw [m_final]; kernel_rfl
theorem b28 : (Tryz.prog.make == some Rows.pricePartsRow.make) = true := m_make
set_option maxRecDepth 100000 in
theorem priceParts_facts : joinedFacts Tryz.prog 4 Tryz.f4 Rows.pricePartsSpec Rows.pricePartsRow = true :=
  joined_of b1 Tryz_laidOut m_mapsRowed b4 b5 b6 m_stops b8 m_knobs b10 b11 b12 b13 b14 b15 b16 b17 b18 b19 b20 b21 b22 b23 b24 m_heard m_enter b27 b28 b29 b30 b31 b32
end Go.Am
