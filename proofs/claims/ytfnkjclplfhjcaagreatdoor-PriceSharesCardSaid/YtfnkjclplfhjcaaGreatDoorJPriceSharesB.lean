/- PriceShares: the closed facts of its row. -/
import Derived.Test.YtfnkjclplfhjcaaGreatDoorJ68
set_option linter.unusedSimpArgs false
set_option linter.unusedVariables false
namespace Go.Am
open Go Go.Proofs Go.ChangeShapes Go.WideShapes Go.RowKit Go.Proofs.YtfnkjclplfhjcaaGreatDoor
theorem b1 : (Rows.priceSharesRow.wf (OpenSpec.ofChange Rows.priceSharesSpec)) = true := by kernel_rfl
theorem b4 : (Tryz.f12.params.all (Tryz.prog.readableRec ·)) = true := by kernel_rfl
theorem b5 : (namedTie Tryz.prog Rows.priceSharesRow.named Rows.priceSharesSpec.vars) = true := by kernel_rfl
theorem b6 : ((Rows.priceSharesRow.stops == [])) = true := by kernel_rfl
theorem b8 : ((Rows.priceSharesRow.knobs == [])) = true := by kernel_rfl
theorem b10 : ((Rows.priceSharesRow.inPlace == Tryz.prog.inPlace 12)) = true := by kernel_rfl
theorem b11 : ((Rows.priceSharesRow.unfollowed == Tryz.prog.unfollowed 12)) = true := by kernel_rfl
theorem b12 : ((Rows.priceSharesRow.recurses == Tryz.prog.recurses 12)) = true := by kernel_rfl
theorem b13 : ((Rows.priceSharesRow.named == Tryz.prog.varsNamed 12)) = true := by kernel_rfl
theorem b14 : ((Rows.priceSharesRow.maps == (Tryz.f12.params.toList ++ Rows.priceSharesSpec.plain.varTypes Tryz.prog).any (Tryz.prog.mapsRec ·))) = true := by kernel_rfl
theorem b15 : ((Rows.priceSharesRow.ifaces == (Tryz.f12.params.toList ++ Rows.priceSharesSpec.plain.varTypes Tryz.prog).any (Tryz.prog.ifacesRec ·))) = true := by kernel_rfl
theorem b16 : ((Rows.priceSharesRow.mapsOut == Tryz.prog.mapsAmong Tryz.f12.resultTypes.toList)) = true := by kernel_rfl
theorem b17 : ((Rows.priceSharesRow.loops == (Tryz.f12.params.toList ++ Rows.priceSharesSpec.plain.varTypes Tryz.prog).any (Tryz.prog.loopsFrom ·))) = true := by kernel_rfl
theorem b18 : ((Rows.priceSharesRow.wideKeys == (Tryz.f12.params.toList ++ Rows.priceSharesSpec.plain.varTypes Tryz.prog ++ Tryz.f12.resultTypes.toList).any (Tryz.prog.wideKeysFrom ·))) = true := by kernel_rfl
theorem b19 : (Rows.priceSharesSpec.vars.all (Tryz.prog.varReadable ·)) = true := by kernel_rfl
theorem b20 : (Tryz.f12.resultTypes.all (fun t => Tryz.prog.readableRec t && decide (t < Tryz.prog.types.size))) = true := by kernel_rfl
theorem b21 : ((Rows.priceSharesRow.ifacesOut == Tryz.f12.resultTypes.toList.any (Tryz.prog.ifacesRec ·))) = true := by kernel_rfl
theorem b22 : ((Rows.priceSharesRow.loopsOut == Tryz.f12.resultTypes.toList.any (Tryz.prog.loopsFrom ·))) = true := by kernel_rfl
theorem b24 : (Rows.priceSharesRow.shortTexts.isNone) = true := by kernel_rfl
theorem b29 : ((Rows.priceSharesRow.kinds == (if Rows.priceSharesRow.domain.isEmpty then [] else Tryz.f12.params.toList.map fun t => match Tryz.prog.underlying t with | some (.int k) => some k | _ => none))) = true := by kernel_rfl
theorem b30 : ((Rows.priceSharesRow.pinned == Rows.priceSharesRow.pinnedBy)) = true := by kernel_rfl
theorem b31 : ((Rows.priceSharesRow.veiled == (Tryz.f12.params.toList ++ Rows.priceSharesSpec.plain.varTypes Tryz.prog ++ Tryz.f12.resultTypes.toList).any (Tryz.prog.veiledRec ·))) = true := by kernel_rfl
theorem b32 : (Rows.priceSharesRow.veiledFits Tryz.prog Tryz.f12.params.toList (Tryz.f12.params.toList ++ Rows.priceSharesSpec.plain.varTypes Tryz.prog ++ Tryz.f12.resultTypes.toList)) = true := by kernel_rfl
theorem b23 : (Rows.priceSharesRow.plainKeys == Tryz.prog.plainKeys) = true := by rw [m_keys]; kernel_rfl
theorem b27 : (Rows.priceSharesRow.lifted == Tryz.prog.liftsFinal) = true := by rw [m_final]; kernel_rfl
theorem b28 : (Tryz.prog.make == some Rows.priceSharesRow.make) = true := m_make
set_option maxRecDepth 100000 in
theorem priceShares_facts : joinedFacts Tryz.prog 12 Tryz.f12 Rows.priceSharesSpec Rows.priceSharesRow = true :=
  joined_of b1 Tryz_laidOut m_mapsRowed b4 b5 b6 m_stops b8 m_knobs b10 b11 b12 b13 b14 b15 b16 b17 b18 b19 b20 b21 b22 b23 b24 m_heard m_enter b27 b28 b29 b30 b31 b32
end Go.Am
