/- PriceOwes: the closed facts of its row. -/
import Derived.Test.YtfnkjclplfhjcaaGreatDoorJ68
set_option linter.unusedSimpArgs false
set_option linter.unusedVariables false
namespace Go.Am
open Go Go.Proofs Go.ChangeShapes Go.WideShapes Go.RowKit Go.Proofs.YtfnkjclplfhjcaaGreatDoor
theorem b1 : (Rows.priceOwesRow.wf (OpenSpec.ofChange Rows.priceOwesSpec)) = true := by kernel_rfl
theorem b4 : (Tryz.f14.params.all (Tryz.prog.readableRec ·)) = true := by kernel_rfl
theorem b5 : (namedTie Tryz.prog Rows.priceOwesRow.named Rows.priceOwesSpec.vars) = true := by kernel_rfl
theorem b6 : ((Rows.priceOwesRow.stops == [])) = true := by kernel_rfl
theorem b8 : ((Rows.priceOwesRow.knobs == [])) = true := by kernel_rfl
theorem b10 : ((Rows.priceOwesRow.inPlace == Tryz.prog.inPlace 14)) = true := by kernel_rfl
theorem b11 : ((Rows.priceOwesRow.unfollowed == Tryz.prog.unfollowed 14)) = true := by kernel_rfl
theorem b12 : ((Rows.priceOwesRow.recurses == Tryz.prog.recurses 14)) = true := by kernel_rfl
theorem b13 : ((Rows.priceOwesRow.named == Tryz.prog.varsNamed 14)) = true := by kernel_rfl
theorem b14 : ((Rows.priceOwesRow.maps == (Tryz.f14.params.toList ++ Rows.priceOwesSpec.plain.varTypes Tryz.prog).any (Tryz.prog.mapsRec ·))) = true := by kernel_rfl
theorem b15 : ((Rows.priceOwesRow.ifaces == (Tryz.f14.params.toList ++ Rows.priceOwesSpec.plain.varTypes Tryz.prog).any (Tryz.prog.ifacesRec ·))) = true := by kernel_rfl
theorem b16 : ((Rows.priceOwesRow.mapsOut == Tryz.prog.mapsAmong Tryz.f14.resultTypes.toList)) = true := by kernel_rfl
theorem b17 : ((Rows.priceOwesRow.loops == (Tryz.f14.params.toList ++ Rows.priceOwesSpec.plain.varTypes Tryz.prog).any (Tryz.prog.loopsFrom ·))) = true := by kernel_rfl
theorem b18 : ((Rows.priceOwesRow.wideKeys == (Tryz.f14.params.toList ++ Rows.priceOwesSpec.plain.varTypes Tryz.prog ++ Tryz.f14.resultTypes.toList).any (Tryz.prog.wideKeysFrom ·))) = true := by kernel_rfl
theorem b19 : (Rows.priceOwesSpec.vars.all (Tryz.prog.varReadable ·)) = true := by kernel_rfl
theorem b20 : (Tryz.f14.resultTypes.all (fun t => Tryz.prog.readableRec t && decide (t < Tryz.prog.types.size))) = true := by kernel_rfl
theorem b21 : ((Rows.priceOwesRow.ifacesOut == Tryz.f14.resultTypes.toList.any (Tryz.prog.ifacesRec ·))) = true := by kernel_rfl
theorem b22 : ((Rows.priceOwesRow.loopsOut == Tryz.f14.resultTypes.toList.any (Tryz.prog.loopsFrom ·))) = true := by kernel_rfl
theorem b24 : (Rows.priceOwesRow.shortTexts.isNone) = true := by kernel_rfl
theorem b29 : ((Rows.priceOwesRow.kinds == (if Rows.priceOwesRow.domain.isEmpty then [] else Tryz.f14.params.toList.map fun t => match Tryz.prog.underlying t with | some (.int k) => some k | _ => none))) = true := by kernel_rfl
theorem b30 : ((Rows.priceOwesRow.pinned == Rows.priceOwesRow.pinnedBy)) = true := by kernel_rfl
theorem b31 : ((Rows.priceOwesRow.veiled == (Tryz.f14.params.toList ++ Rows.priceOwesSpec.plain.varTypes Tryz.prog ++ Tryz.f14.resultTypes.toList).any (Tryz.prog.veiledRec ·))) = true := by kernel_rfl
theorem b32 : (Rows.priceOwesRow.veiledFits Tryz.prog Tryz.f14.params.toList (Tryz.f14.params.toList ++ Rows.priceOwesSpec.plain.varTypes Tryz.prog ++ Tryz.f14.resultTypes.toList)) = true := by kernel_rfl
theorem b23 : (Rows.priceOwesRow.plainKeys == Tryz.prog.plainKeys) = true := by rw [m_keys]; kernel_rfl
theorem b27 : (Rows.priceOwesRow.lifted == Tryz.prog.liftsFinal) = true := by rw [m_final]; kernel_rfl
theorem b28 : (Tryz.prog.make == some Rows.priceOwesRow.make) = true := m_make
set_option maxRecDepth 100000 in
theorem priceOwes_facts : joinedFacts Tryz.prog 14 Tryz.f14 Rows.priceOwesSpec Rows.priceOwesRow = true :=
  joined_of b1 Tryz_laidOut m_mapsRowed b4 b5 b6 m_stops b8 m_knobs b10 b11 b12 b13 b14 b15 b16 b17 b18 b19 b20 b21 b22 b23 b24 m_heard m_enter b27 b28 b29 b30 b31 b32
end Go.Am
