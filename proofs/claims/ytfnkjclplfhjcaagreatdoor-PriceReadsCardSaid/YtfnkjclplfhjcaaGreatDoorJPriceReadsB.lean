/- PriceReads: the closed facts of its row. -/
import Derived.Test.YtfnkjclplfhjcaaGreatDoorJ68
set_option linter.unusedSimpArgs false
set_option linter.unusedVariables false
namespace Go.Am
open Go Go.Proofs Go.ChangeShapes Go.WideShapes Go.RowKit Go.Proofs.YtfnkjclplfhjcaaGreatDoor
theorem b1 : (Rows.priceReadsRow.wf (OpenSpec.ofChange Rows.priceReadsSpec)) = true := by kernel_rfl
theorem b4 : (Tryz.f20.params.all (Tryz.prog.readableRec ·)) = true := by kernel_rfl
theorem b5 : (namedTie Tryz.prog Rows.priceReadsRow.named Rows.priceReadsSpec.vars) = true := by kernel_rfl
theorem b6 : ((Rows.priceReadsRow.stops == [])) = true := by kernel_rfl
theorem b8 : ((Rows.priceReadsRow.knobs == [])) = true := by kernel_rfl
theorem b10 : ((Rows.priceReadsRow.inPlace == Tryz.prog.inPlace 20)) = true := by kernel_rfl
theorem b11 : ((Rows.priceReadsRow.unfollowed == Tryz.prog.unfollowed 20)) = true := by kernel_rfl
theorem b12 : ((Rows.priceReadsRow.recurses == Tryz.prog.recurses 20)) = true := by kernel_rfl
theorem b13 : ((Rows.priceReadsRow.named == Tryz.prog.varsNamed 20)) = true := by kernel_rfl
theorem b14 : ((Rows.priceReadsRow.maps == (Tryz.f20.params.toList ++ Rows.priceReadsSpec.plain.varTypes Tryz.prog).any (Tryz.prog.mapsRec ·))) = true := by kernel_rfl
theorem b15 : ((Rows.priceReadsRow.ifaces == (Tryz.f20.params.toList ++ Rows.priceReadsSpec.plain.varTypes Tryz.prog).any (Tryz.prog.ifacesRec ·))) = true := by kernel_rfl
theorem b16 : ((Rows.priceReadsRow.mapsOut == Tryz.prog.mapsAmong Tryz.f20.resultTypes.toList)) = true := by kernel_rfl
theorem b17 : ((Rows.priceReadsRow.loops == (Tryz.f20.params.toList ++ Rows.priceReadsSpec.plain.varTypes Tryz.prog).any (Tryz.prog.loopsFrom ·))) = true := by kernel_rfl
theorem b18 : ((Rows.priceReadsRow.wideKeys == (Tryz.f20.params.toList ++ Rows.priceReadsSpec.plain.varTypes Tryz.prog ++ Tryz.f20.resultTypes.toList).any (Tryz.prog.wideKeysFrom ·))) = true := by kernel_rfl
theorem b19 : (Rows.priceReadsSpec.vars.all (Tryz.prog.varReadable ·)) = true := by kernel_rfl
theorem b20 : (Tryz.f20.resultTypes.all (fun t => Tryz.prog.readableRec t && decide (t < Tryz.prog.types.size))) = true := by kernel_rfl
theorem b21 : ((Rows.priceReadsRow.ifacesOut == Tryz.f20.resultTypes.toList.any (Tryz.prog.ifacesRec ·))) = true := by kernel_rfl
theorem b22 : ((Rows.priceReadsRow.loopsOut == Tryz.f20.resultTypes.toList.any (Tryz.prog.loopsFrom ·))) = true := by kernel_rfl
theorem b24 : (Rows.priceReadsRow.shortTexts.isNone) = true := by kernel_rfl
theorem b29 : ((Rows.priceReadsRow.kinds == (if Rows.priceReadsRow.domain.isEmpty then [] else Tryz.f20.params.toList.map fun t => match Tryz.prog.underlying t with | some (.int k) => some k | _ => none))) = true := by kernel_rfl
theorem b30 : ((Rows.priceReadsRow.pinned == Rows.priceReadsRow.pinnedBy)) = true := by kernel_rfl
theorem b31 : ((Rows.priceReadsRow.veiled == (Tryz.f20.params.toList ++ Rows.priceReadsSpec.plain.varTypes Tryz.prog ++ Tryz.f20.resultTypes.toList).any (Tryz.prog.veiledRec ·))) = true := by kernel_rfl
theorem b32 : (Rows.priceReadsRow.veiledFits Tryz.prog Tryz.f20.params.toList (Tryz.f20.params.toList ++ Rows.priceReadsSpec.plain.varTypes Tryz.prog ++ Tryz.f20.resultTypes.toList)) = true := by kernel_rfl
theorem b23 : (Rows.priceReadsRow.plainKeys == Tryz.prog.plainKeys) = true := by rw [m_keys]; kernel_rfl
theorem b27 : (Rows.priceReadsRow.lifted == Tryz.prog.liftsFinal) = true := by rw [m_final]; kernel_rfl
theorem b28 : (Tryz.prog.make == some Rows.priceReadsRow.make) = true := m_make
set_option maxRecDepth 100000 in
theorem priceReads_facts : joinedFacts Tryz.prog 20 Tryz.f20 Rows.priceReadsSpec Rows.priceReadsRow = true :=
  joined_of b1 Tryz_laidOut m_mapsRowed b4 b5 b6 m_stops b8 m_knobs b10 b11 b12 b13 b14 b15 b16 b17 b18 b19 b20 b21 b22 b23 b24 m_heard m_enter b27 b28 b29 b30 b31 b32
end Go.Am
