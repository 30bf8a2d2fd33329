/- PriceJust: the closed facts of its row. -/
import Derived.Test.YtfnkjclplfhjcaaGreatDoorJ68
set_option linter.unusedSimpArgs false
set_option linter.unusedVariables false
namespace Go.Am
open Go Go.Proofs Go.ChangeShapes Go.WideShapes Go.RowKit Go.Proofs.YtfnkjclplfhjcaaGreatDoor
theorem b1 : (Rows.priceJustRow.wf (OpenSpec.ofChange Rows.priceJustSpec)) = true := by kernel_rfl
theorem b4 : (Tryz.f13.params.all (Tryz.prog.readableRec ·)) = true := by kernel_rfl
theorem b5 : (namedTie Tryz.prog Rows.priceJustRow.named Rows.priceJustSpec.vars) = true := by kernel_rfl
theorem b6 : ((Rows.priceJustRow.stops == [])) = true := by kernel_rfl
theorem b8 : ((Rows.priceJustRow.knobs == [])) = true := by kernel_rfl
theorem b10 : ((Rows.priceJustRow.inPlace == Tryz.prog.inPlace 13)) = true := by kernel_rfl
theorem b11 : ((Rows.priceJustRow.unfollowed == Tryz.prog.unfollowed 13)) = true := by kernel_rfl
theorem b12 : ((Rows.priceJustRow.recurses == Tryz.prog.recurses 13)) = true := by kernel_rfl
theorem b13 : ((Rows.priceJustRow.named == Tryz.prog.varsNamed 13)) = true := by kernel_rfl
theorem b14 : ((Rows.priceJustRow.maps == (Tryz.f13.params.toList ++ Rows.priceJustSpec.plain.varTypes Tryz.prog).any (Tryz.prog.mapsRec ·))) = true := by kernel_rfl
theorem b15 : ((Rows.priceJustRow.ifaces == (Tryz.f13.params.toList ++ Rows.priceJustSpec.plain.varTypes Tryz.prog).any (Tryz.prog.ifacesRec ·))) = true := by kernel_rfl
theorem b16 : ((Rows.priceJustRow.mapsOut == Tryz.prog.mapsAmong Tryz.f13.resultTypes.toList)) = true := by kernel_rfl
theorem b17 : ((Rows.priceJustRow.loops == (Tryz.f13.params.toList ++ Rows.priceJustSpec.plain.varTypes Tryz.prog).any (Tryz.prog.loopsFrom ·))) = true := by kernel_rfl
theorem b18 : ((Rows.priceJustRow.wideKeys == (Tryz.f13.params.toList ++ Rows.priceJustSpec.plain.varTypes Tryz.prog ++ Tryz.f13.resultTypes.toList).any (Tryz.prog.wideKeysFrom ·))) = true := by kernel_rfl
theorem b19 : (Rows.priceJustSpec.vars.all (Tryz.prog.varReadable ·)) = true := by kernel_rfl
theorem b20 : (Tryz.f13.resultTypes.all (fun t => Tryz.prog.readableRec t && decide (t < Tryz.prog.types.size))) = true := by kernel_rfl
theorem b21 : ((Rows.priceJustRow.ifacesOut == Tryz.f13.resultTypes.toList.any (Tryz.prog.ifacesRec ·))) = true := by kernel_rfl
theorem b22 : ((Rows.priceJustRow.loopsOut == Tryz.f13.resultTypes.toList.any (Tryz.prog.loopsFrom ·))) = true := by kernel_rfl
theorem b24 : (Rows.priceJustRow.shortTexts.isNone) = true := by kernel_rfl
theorem b29 : ((Rows.priceJustRow.kinds == (if Rows.priceJustRow.domain.isEmpty then [] else Tryz.f13.params.toList.map fun t => match Tryz.prog.underlying t with | some (.int k) => some k | _ => none))) = true := by kernel_rfl
theorem b30 : ((Rows.priceJustRow.pinned == Rows.priceJustRow.pinnedBy)) = true := by kernel_rfl
theorem b31 : ((Rows.priceJustRow.veiled == (Tryz.f13.params.toList ++ Rows.priceJustSpec.plain.varTypes Tryz.prog ++ Tryz.f13.resultTypes.toList).any (Tryz.prog.veiledRec ·))) = true := by kernel_rfl
theorem b32 : (Rows.priceJustRow.veiledFits Tryz.prog Tryz.f13.params.toList (Tryz.f13.params.toList ++ Rows.priceJustSpec.plain.varTypes Tryz.prog ++ Tryz.f13.resultTypes.toList)) = true := by kernel_rfl
theorem b23 : (Rows.priceJustRow.plainKeys == Tryz.prog.plainKeys) = true := by rw [m_keys]; kernel_rfl
theorem b27 : (Rows.priceJustRow.lifted == Tryz.prog.liftsFinal) = true := by rw [m_final]; kernel_rfl
theorem b28 : (Tryz.prog.make == some Rows.priceJustRow.make) = true := m_make
set_option maxRecDepth 100000 in
theorem priceJust_facts : joinedFacts Tryz.prog 13 Tryz.f13 Rows.priceJustSpec Rows.priceJustRow = true :=
  joined_of b1 Tryz_laidOut m_mapsRowed b4 b5 b6 m_stops b8 m_knobs b10 b11 b12 b13 b14 b15 b16 b17 b18 b19 b20 b21 b22 b23 b24 m_heard m_enter b27 b28 b29 b30 b31 b32
end Go.Am
