/- PricePaids: the closed facts of its row. -/
import Derived.Test.YtfnkjclplfhjcaaGreatDoorJ68
set_option linter.unusedSimpArgs false
set_option linter.unusedVariables false
namespace Go.Am
open Go Go.Proofs Go.ChangeShapes Go.WideShapes Go.RowKit Go.Proofs.YtfnkjclplfhjcaaGreatDoor
theorem b1 : (Rows.pricePaidsRow.wf (OpenSpec.ofChange Rows.pricePaidsSpec)) = true := by kernel_rfl
theorem b4 : (Tryz.f18.params.all (Tryz.prog.readableRec ·)) = true := by kernel_rfl
theorem b5 : (namedTie Tryz.prog Rows.pricePaidsRow.named Rows.pricePaidsSpec.vars) = true := by kernel_rfl
theorem b6 : ((Rows.pricePaidsRow.stops == [])) = true := by kernel_rfl
theorem b8 : ((Rows.pricePaidsRow.knobs == [])) = true := by kernel_rfl
theorem b10 : ((Rows.pricePaidsRow.inPlace == Tryz.prog.inPlace 18)) = true := by kernel_rfl
theorem b11 : ((Rows.pricePaidsRow.unfollowed == Tryz.prog.unfollowed 18)) = true := by kernel_rfl
theorem b12 : ((Rows.pricePaidsRow.recurses == Tryz.prog.recurses 18)) = true := by kernel_rfl
theorem b13 : ((Rows.pricePaidsRow.named == Tryz.prog.varsNamed 18)) = true := by kernel_rfl
theorem b14 : ((Rows.pricePaidsRow.maps == (Tryz.f18.params.toList ++ Rows.pricePaidsSpec.plain.varTypes Tryz.prog).any (Tryz.prog.mapsRec ·))) = true := by kernel_rfl
theorem b15 : ((Rows.pricePaidsRow.ifaces == (Tryz.f18.params.toList ++ Rows.pricePaidsSpec.plain.varTypes Tryz.prog).any (Tryz.prog.ifacesRec ·))) = true := by kernel_rfl
theorem b16 : ((Rows.pricePaidsRow.mapsOut == Tryz.prog.mapsAmong Tryz.f18.resultTypes.toList)) = true := by kernel_rfl
theorem b17 : ((Rows.pricePaidsRow.loops == (Tryz.f18.params.toList ++ Rows.pricePaidsSpec.plain.varTypes Tryz.prog).any (Tryz.prog.loopsFrom ·))) = true := by kernel_rfl
theorem b18 : ((Rows.pricePaidsRow.wideKeys == (Tryz.f18.params.toList ++ Rows.pricePaidsSpec.plain.varTypes Tryz.prog ++ Tryz.f18.resultTypes.toList).any (Tryz.prog.wideKeysFrom ·))) = true := by kernel_rfl
theorem b19 : (Rows.pricePaidsSpec.vars.all (Tryz.prog.varReadable ·)) = true := by kernel_rfl
theorem b20 : (Tryz.f18.resultTypes.all (fun t => Tryz.prog.readableRec t && decide (t < Tryz.prog.types.size))) = true := by kernel_rfl
theorem b21 : ((Rows.pricePaidsRow.ifacesOut == Tryz.f18.resultTypes.toList.any (Tryz.prog.ifacesRec ·))) = true := by kernel_rfl
theorem b22 : ((Rows.pricePaidsRow.loopsOut == Tryz.f18.resultTypes.toList.any (Tryz.prog.loopsFrom ·))) = true := by kernel_rfl
theorem b24 : (Rows.pricePaidsRow.shortTexts.isNone) = true := by kernel_rfl
theorem b29 : ((Rows.pricePaidsRow.kinds == (if Rows.pricePaidsRow.domain.isEmpty then [] else Tryz.f18.params.toList.map fun t => match Tryz.prog.underlying t with | some (.int k) => some k | _ => none))) = true := by kernel_rfl
theorem b30 : ((Rows.pricePaidsRow.pinned == Rows.pricePaidsRow.pinnedBy)) = true := by kernel_rfl
theorem b31 : ((Rows.pricePaidsRow.veiled == (Tryz.f18.params.toList ++ Rows.pricePaidsSpec.plain.varTypes Tryz.prog ++ Tryz.f18.resultTypes.toList).any (Tryz.prog.veiledRec ·))) = true := by kernel_rfl
theorem b32 : (Rows.pricePaidsRow.veiledFits Tryz.prog Tryz.f18.params.toList (Tryz.f18.params.toList ++ Rows.pricePaidsSpec.plain.varTypes Tryz.prog ++ Tryz.f18.resultTypes.toList)) = true := by kernel_rfl
theorem b23 : (Rows.pricePaidsRow.plainKeys == Tryz.prog.plainKeys) = true := by rw [m_keys]; kernel_rfl
theorem b27 : (Rows.pricePaidsRow.lifted == Tryz.prog.liftsFinal) = true := by rw [m_final]; kernel_rfl
theorem b28 : (Tryz.prog.make == some Rows.pricePaidsRow.make) = true := m_make
set_option maxRecDepth 100000 in
theorem pricePaids_facts : joinedFacts Tryz.prog 18 Tryz.f18 Rows.pricePaidsSpec Rows.pricePaidsRow = true :=
  joined_of b1 Tryz_laidOut m_mapsRowed b4 b5 b6 m_stops b8 m_knobs b10 b11 b12 b13 b14 b15 b16 b17 b18 b19 b20 b21 b22 b23 b24 m_heard m_enter b27 b28 b29 b30 b31 b32
end Go.Am
