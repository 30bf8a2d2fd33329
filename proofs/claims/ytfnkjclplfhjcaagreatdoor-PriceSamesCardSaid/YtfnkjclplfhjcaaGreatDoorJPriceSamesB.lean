/- PriceSames: the closed facts of its row. -/
import Derived.Test.YtfnkjclplfhjcaaGreatDoorJ68
set_option linter.unusedSimpArgs false
set_option linter.unusedVariables false
namespace Go.Am
open Go Go.Proofs Go.ChangeShapes Go.WideShapes Go.RowKit Go.Proofs.YtfnkjclplfhjcaaGreatDoor
theorem b1 : (Rows.priceSamesRow.wf (OpenSpec.ofChange Rows.priceSamesSpec)) = true := by kernel_rfl
theorem b4 : (Tryz.f6.params.all (Tryz.prog.readableRec ·)) = true := by kernel_rfl
theorem b5 : (namedTie Tryz.prog Rows.priceSamesRow.named Rows.priceSamesSpec.vars) = true := by kernel_rfl
theorem b6 : ((Rows.priceSamesRow.stops == [])) = true := by kernel_rfl
theorem b8 : ((Rows.priceSamesRow.knobs == [])) = true := by kernel_rfl
theorem b10 : ((Rows.priceSamesRow.inPlace == Tryz.prog.inPlace 6)) = true := by kernel_rfl
theorem b11 : ((Rows.priceSamesRow.unfollowed == Tryz.prog.unfollowed 6)) = true := by kernel_rfl
theorem b12 : ((Rows.priceSamesRow.recurses == Tryz.prog.recurses 6)) = true := by kernel_rfl
theorem b13 : ((Rows.priceSamesRow.named == Tryz.prog.varsNamed 6)) = true := by kernel_rfl
theorem b14 : ((Rows.priceSamesRow.maps == (Tryz.f6.params.toList ++ Rows.priceSamesSpec.plain.varTypes Tryz.prog).any (Tryz.prog.mapsRec ·))) = true := by kernel_rfl
theorem b15 : ((Rows.priceSamesRow.ifaces == (Tryz.f6.params.toList ++ Rows.priceSamesSpec.plain.varTypes Tryz.prog).any (Tryz.prog.ifacesRec ·))) = true := by kernel_rfl
theorem b16 : ((Rows.priceSamesRow.mapsOut == Tryz.prog.mapsAmong Tryz.f6.resultTypes.toList)) = true := by kernel_rfl
theorem b17 : ((Rows.priceSamesRow.loops == (Tryz.f6.params.toList ++ Rows.priceSamesSpec.plain.varTypes Tryz.prog).any (Tryz.prog.loopsFrom ·))) = true := by kernel_rfl
theorem b18 : ((Rows.priceSamesRow.wideKeys == (Tryz.f6.params.toList ++ Rows.priceSamesSpec.plain.varTypes Tryz.prog ++ Tryz.f6.resultTypes.toList).any (Tryz.prog.wideKeysFrom ·))) = true := by kernel_rfl
theorem b19 : (Rows.priceSamesSpec.vars.all (Tryz.prog.varReadable ·)) = true := by kernel_rfl
theorem b20 : (Tryz.f6.resultTypes.all (fun t => Tryz.prog.readableRec t && decide (t < Tryz.prog.types.size))) = true := by kernel_rfl
theorem b21 : ((Rows.priceSamesRow.ifacesOut == Tryz.f6.resultTypes.toList.any (Tryz.prog.ifacesRec ·))) = true := by kernel_rfl
theorem b22 : ((Rows.priceSamesRow.loopsOut == Tryz.f6.resultTypes.toList.any (Tryz.prog.loopsFrom ·))) = true := by kernel_rfl
theorem b24 : (Rows.priceSamesRow.shortTexts.isNone) = true := by kernel_rfl
theorem b29 : ((Rows.priceSamesRow.kinds == (if Rows.priceSamesRow.domain.isEmpty then [] else Tryz.f6.params.toList.map fun t => match Tryz.prog.underlying t with | some (.int k) => some k | _ => none))) = true := by kernel_rfl
theorem b30 : ((Rows.priceSamesRow.pinned == Rows.priceSamesRow.pinnedBy)) = true := by kernel_rfl
theorem b31 : ((Rows.priceSamesRow.veiled == (Tryz.f6.params.toList ++ Rows.priceSamesSpec.plain.varTypes Tryz.prog ++ Tryz.f6.resultTypes.toList).any (Tryz.prog.veiledRec ·))) = true := by kernel_rfl
theorem b32 : (Rows.priceSamesRow.veiledFits Tryz.prog Tryz.f6.params.toList (Tryz.f6.params.toList ++ Rows.priceSamesSpec.plain.varTypes Tryz.prog ++ Tryz.f6.resultTypes.toList)) = true := by kernel_rfl
theorem b23 : (Rows.priceSamesRow.plainKeys == Tryz.prog.plainKeys) = true := by rw [m_keys]; kernel_rfl
theorem b27 : (Rows.priceSamesRow.lifted == Tryz.prog.liftsFinal) = true := by rw [m_final]; kernel_rfl
theorem b28 : (Tryz.prog.make == some Rows.priceSamesRow.make) = true := m_make
set_option maxRecDepth 100000 in
theorem priceSames_facts : joinedFacts Tryz.prog 6 Tryz.f6 Rows.priceSamesSpec Rows.priceSamesRow = true :=
  joined_of b1 Tryz_laidOut m_mapsRowed b4 b5 b6 m_stops b8 m_knobs b10 b11 b12 b13 b14 b15 b16 b17 b18 b19 b20 b21 b22 b23 b24 m_heard m_enter b27 b28 b29 b30 b31 b32
end Go.Am
