/- PriceOff: the closed facts of its row. -/
import Derived.Test.YtfnkjclplfhjcaaGreatDoorJ68
set_option linter.unusedSimpArgs false
set_option linter.unusedVariables false
namespace Go.Am
open Go Go.Proofs Go.ChangeShapes Go.WideShapes Go.RowKit Go.Proofs.YtfnkjclplfhjcaaGreatDoor
theorem b1 : (Rows.priceOffRow.wf (OpenSpec.ofChange Rows.priceOffSpec)) = true := by kernel_rfl
theorem b4 : (Tryz.f15.params.all (Tryz.prog.readableRec ·)) = true := by kernel_rfl
theorem b5 : (namedTie Tryz.prog Rows.priceOffRow.named Rows.priceOffSpec.vars) = true := by kernel_rfl
theorem b6 : ((Rows.priceOffRow.stops == [])) = true := by kernel_rfl
theorem b8 : ((Rows.priceOffRow.knobs == [])) = true := by kernel_rfl
theorem b10 : ((Rows.priceOffRow.inPlace == Tryz.prog.inPlace 15)) = true := by kernel_rfl
theorem b11 : ((Rows.priceOffRow.unfollowed == Tryz.prog.unfollowed 15)) = true := by kernel_rfl
theorem b12 : ((Rows.priceOffRow.recurses == Tryz.prog.recurses 15)) = true := by kernel_rfl
theorem b13 : ((Rows.priceOffRow.named == Tryz.prog.varsNamed 15)) = true := by kernel_rfl
theorem b14 : ((Rows.priceOffRow.maps == (Tryz.f15.params.toList ++ Rows.priceOffSpec.plain.varTypes Tryz.prog).any (Tryz.prog.mapsRec ·))) = true := by kernel_rfl
theorem b15 : ((Rows.priceOffRow.ifaces == (Tryz.f15.params.toList ++ Rows.priceOffSpec.plain.varTypes Tryz.prog).any (Tryz.prog.ifacesRec ·))) = true := by kernel_rfl
theorem b16 : ((Rows.priceOffRow.mapsOut == Tryz.prog.mapsAmong Tryz.f15.resultTypes.toList)) = true := by kernel_rfl
theorem b17 : ((Rows.priceOffRow.loops == (Tryz.f15.params.toList ++ Rows.priceOffSpec.plain.varTypes Tryz.prog).any (Tryz.prog.loopsFrom ·))) = true := by kernel_rfl
theorem b18 : ((Rows.priceOffRow.wideKeys == (Tryz.f15.params.toList ++ Rows.priceOffSpec.plain.varTypes Tryz.prog ++ Tryz.f15.resultTypes.toList).any (Tryz.prog.wideKeysFrom ·))) = true := by kernel_rfl
theorem b19 : (Rows.priceOffSpec.vars.all (Tryz.prog.varReadable ·)) = true := by kernel_rfl
theorem b20 : (Tryz.f15.resultTypes.all (fun t => Tryz.prog.readableRec t && decide (t < Tryz.prog.types.size))) = true := by kernel_rfl
theorem b21 : ((Rows.priceOffRow.ifacesOut == Tryz.f15.resultTypes.toList.any (Tryz.prog.ifacesRec ·))) = true := by kernel_rfl
theorem b22 : ((Rows.priceOffRow.loopsOut == Tryz.f15.resultTypes.toList.any (Tryz.prog.loopsFrom ·))) = true := by kernel_rfl
theorem b24 : (Rows.priceOffRow.shortTexts.isNone) = true := by kernel_rfl
theorem b29 : ((Rows.priceOffRow.kinds == (if Rows.priceOffRow.domain.isEmpty then [] else Tryz.f15.params.toList.map fun t => match Tryz.prog.underlying t with | some (.int k) => some k | _ => none))) = true := by kernel_rfl
theorem b30 : ((Rows.priceOffRow.pinned == Rows.priceOffRow.pinnedBy)) = true := by kernel_rfl
theorem b31 : ((Rows.priceOffRow.veiled == (Tryz.f15.params.toList ++ Rows.priceOffSpec.plain.varTypes Tryz.prog ++ Tryz.f15.resultTypes.toList).any (Tryz.prog.veiledRec ·))) = true := by kernel_rfl
theorem b32 : (Rows.priceOffRow.veiledFits Tryz.prog Tryz.f15.params.toList (Tryz.f15.params.toList ++ Rows.priceOffSpec.plain.varTypes Tryz.prog ++ Tryz.f15.resultTypes.toList)) = true := by kernel_rfl
theorem b23 : (Rows.priceOffRow.plainKeys == Tryz.prog.plainKeys) = true := by rw [m_keys]; kernel_rfl
theorem b27 : (Rows.priceOffRow.lifted == Tryz.prog.liftsFinal) = true := by rw [m_final]; kernel_rfl
theorem b28 : (Tryz.prog.make == some Rows.priceOffRow.make) = true := m_make
set_option maxRecDepth 100000 in
theorem priceOff_facts : joinedFacts Tryz.prog 15 Tryz.f15 Rows.priceOffSpec Rows.priceOffRow = true :=
  joined_of b1 Tryz_laidOut m_mapsRowed b4 b5 b6 m_stops b8 m_knobs b10 b11 b12 b13 b14 b15 b16 b17 b18 b19 b20 b21 b22 b23 b24 m_heard m_enter b27 b28 b29 b30 b31 b32
end Go.Am
