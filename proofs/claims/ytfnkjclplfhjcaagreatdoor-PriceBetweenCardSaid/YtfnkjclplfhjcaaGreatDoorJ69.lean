/- Parts 69 of the abstract machine over this program, joined: what each part says stands at its head. -/
import Derived.Test.YtfnkjclplfhjcaaGreatDoorJ68
set_option linter.unusedSimpArgs false
set_option linter.unusedVariables false
/- THE ROW OF PriceBetween, proved: the law returns true whatever comes in, and its input reads as it did. -/
namespace Go.Am
open Go Go.Proofs Go.ChangeShapes Go.WideShapes Go.RowKit Go.Proofs.YtfnkjclplfhjcaaGreatDoor
theorem b1 : (Rows.priceBetweenRow.wf (OpenSpec.ofChange Rows.priceBetweenSpec)) = true := by kernel_rfl
theorem b4 : (Tryz.f3.params.all (Tryz.prog.readableRec ·)) = true := by kernel_rfl
theorem b5 : (namedTie Tryz.prog Rows.priceBetweenRow.named Rows.priceBetweenSpec.vars) = true := by kernel_rfl
theorem b6 : ((Rows.priceBetweenRow.stops == [])) = true := by kernel_rfl
theorem b8 : ((Rows.priceBetweenRow.knobs == [])) = true := by kernel_rfl
theorem b10 : ((Rows.priceBetweenRow.inPlace == Tryz.prog.inPlace 3)) = true := by kernel_rfl
theorem b11 : ((Rows.priceBetweenRow.unfollowed == Tryz.prog.unfollowed 3)) = true := by kernel_rfl
theorem b12 : ((Rows.priceBetweenRow.recurses == Tryz.prog.recurses 3)) = true := by kernel_rfl
theorem b13 : ((Rows.priceBetweenRow.named == Tryz.prog.varsNamed 3)) = true := by kernel_rfl
theorem b14 : ((Rows.priceBetweenRow.maps == (Tryz.f3.params.toList ++ Rows.priceBetweenSpec.plain.varTypes Tryz.prog).any (Tryz.prog.mapsRec ·))) = true := by kernel_rfl
theorem b15 : ((Rows.priceBetweenRow.ifaces == (Tryz.f3.params.toList ++ Rows.priceBetweenSpec.plain.varTypes Tryz.prog).any (Tryz.prog.ifacesRec ·))) = true := by kernel_rfl
theorem b16 : ((Rows.priceBetweenRow.mapsOut == Tryz.prog.mapsAmong Tryz.f3.resultTypes.toList)) = true := by kernel_rfl
theorem b17 : ((Rows.priceBetweenRow.loops == (Tryz.f3.params.toList ++ Rows.priceBetweenSpec.plain.varTypes Tryz.prog).any (Tryz.prog.loopsFrom ·))) = true := by kernel_rfl
theorem b18 : ((Rows.priceBetweenRow.wideKeys == (Tryz.f3.params.toList ++ Rows.priceBetweenSpec.plain.varTypes Tryz.prog ++ Tryz.f3.resultTypes.toList).any (Tryz.prog.wideKeysFrom ·))) = true := by kernel_rfl
theorem b19 : (Rows.priceBetweenSpec.vars.all (Tryz.prog.varReadable ·)) = true := by kernel_rfl
theorem b20 : (Tryz.f3.resultTypes.all (fun t => Tryz.prog.readableRec t && decide (t < Tryz.prog.types.size))) = true := by kernel_rfl
theorem b21 : ((Rows.priceBetweenRow.ifacesOut == Tryz.f3.resultTypes.toList.any (Tryz.prog.ifacesRec ·))) = true := by kernel_rfl
theorem b22 : ((Rows.priceBetweenRow.loopsOut == Tryz.f3.resultTypes.toList.any (Tryz.prog.loopsFrom ·))) = true := by kernel_rfl
theorem b24 : (Rows.priceBetweenRow.shortTexts.isNone) = true := by kernel_rfl
theorem b29 : ((Rows.priceBetweenRow.kinds == (if Rows.priceBetweenRow.domain.isEmpty then [] else Tryz.f3.params.toList.map fun t => match Tryz.prog.underlying t with | some (.int k) => some k | _ => none))) = true := by kernel_rfl
theorem b30 : ((Rows.priceBetweenRow.pinned == Rows.priceBetweenRow.pinnedBy)) = true := by kernel_rfl
theorem b31 : ((Rows.priceBetweenRow.veiled == (Tryz.f3.params.toList ++ Rows.priceBetweenSpec.plain.varTypes Tryz.prog ++ Tryz.f3.resultTypes.toList).any (Tryz.prog.veiledRec ·))) = true := by kernel_rfl
theorem b32 : (Rows.priceBetweenRow.veiledFits Tryz.prog Tryz.f3.params.toList (Tryz.f3.params.toList ++ Rows.priceBetweenSpec.plain.varTypes Tryz.prog ++ Tryz.f3.resultTypes.toList)) = true := by kernel_rfl
theorem b23 : (Rows.priceBetweenRow.plainKeys == Tryz.prog.plainKeys) = true := by rw [m_keys]; kernel_rfl
theorem b27 : (Rows.priceBetweenRow.lifted == Tryz.prog.liftsFinal) = true := by rw [m_final]; kernel_rfl
theorem b28 : (Tryz.prog.make == some Rows.priceBetweenRow.make) = true := m_make
set_option maxRecDepth 100000 in
theorem between_facts : joinedFacts Tryz.prog 3 Tryz.f3 Rows.priceBetweenSpec Rows.priceBetweenRow = true :=
  joined_of b1 Tryz_laidOut m_mapsRowed b4 b5 b6 m_stops b8 m_knobs b10 b11 b12 b13 b14 b15 b16 b17 b18 b19 b20 b21 b22 b23 b24 m_heard m_enter b27 b28 b29 b30 b31 b32
end Go.Am
