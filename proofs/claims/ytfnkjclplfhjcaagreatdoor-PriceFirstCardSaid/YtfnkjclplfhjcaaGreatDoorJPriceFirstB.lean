/- PriceFirst: the closed facts of its row. -/
import Derived.Test.YtfnkjclplfhjcaaGreatDoorJ68
set_option linter.unusedSimpArgs false
set_option linter.unusedVariables false
namespace Go.Am
open Go Go.Proofs Go.ChangeShapes Go.WideShapes Go.RowKit Go.Proofs.YtfnkjclplfhjcaaGreatDoor
theorem b1 : (Rows.priceFirstRow.wf (OpenSpec.ofChange Rows.priceFirstSpec)) = true := by kernel_rfl
theorem b4 : (Tryz.f9.params.all (Tryz.prog.readableRec ·)) = true := by kernel_rfl
theorem b5 : (namedTie Tryz.prog Rows.priceFirstRow.named Rows.priceFirstSpec.vars) = true := by kernel_rfl
theorem b6 : ((Rows.priceFirstRow.stops == [])) = true := by kernel_rfl
theorem b8 : ((Rows.priceFirstRow.knobs == [])) = true := by kernel_rfl
theorem b10 : ((Rows.priceFirstRow.inPlace == Tryz.prog.inPlace 9)) = true := by kernel_rfl
theorem b11 : ((Rows.priceFirstRow.unfollowed == Tryz.prog.unfollowed 9)) = true := by kernel_rfl
theorem b12 : ((Rows.priceFirstRow.recurses == Tryz.prog.recurses 9)) = true := by kernel_rfl
theorem b13 : ((Rows.priceFirstRow.named == Tryz.prog.varsNamed 9)) = true := by kernel_rfl
theorem b14 : ((Rows.priceFirstRow.maps == (Tryz.f9.params.toList ++ Rows.priceFirstSpec.plain.varTypes Tryz.prog).any (Tryz.prog.mapsRec ·))) = true := by kernel_rfl
theorem b15 : ((Rows.priceFirstRow.ifaces == (Tryz.f9.params.toList ++ Rows.priceFirstSpec.plain.varTypes Tryz.prog).any (Tryz.prog.ifacesRec ·))) = true := by kernel_rfl
theorem b16 : ((Rows.priceFirstRow.mapsOut == Tryz.prog.mapsAmong Tryz.f9.resultTypes.toList)) = true := by kernel_rfl
theorem b17 : ((Rows.priceFirstRow.loops == (Tryz.f9.params.toList ++ Rows.priceFirstSpec.plain.varTypes Tryz.prog).any (Tryz.prog.loopsFrom ·))) = true := by kernel_rfl
theorem b18 : ((Rows.priceFirstRow.wideKeys == (Tryz.f9.params.toList ++ Rows.priceFirstSpec.plain.varTypes Tryz.prog ++ Tryz.f9.resultTypes.toList).any (Tryz.prog.wideKeysFrom ·))) = true := by kernel_rfl
theorem b19 : (Rows.priceFirstSpec.vars.all (Tryz.prog.varReadable ·)) = true := by kernel_rfl
theorem b20 : (Tryz.f9.resultTypes.all (fun t => Tryz.prog.readableRec t && decide (t < Tryz.prog.types.size))) = true := by kernel_rfl
theorem b21 : ((Rows.priceFirstRow.ifacesOut == Tryz.f9.resultTypes.toList.any (Tryz.prog.ifacesRec ·))) = true := by kernel_rfl
theorem b22 : ((Rows.priceFirstRow.loopsOut == Tryz.f9.resultTypes.toList.any (Tryz.prog.loopsFrom ·))) = true := by kernel_rfl
theorem b24 : (Rows.priceFirstRow.shortTexts.isNone) = true := by kernel_rfl
theorem b29 : ((Rows.priceFirstRow.kinds == (if Rows.priceFirstRow.domain.isEmpty then [] else Tryz.f9.params.toList.map fun t => match Tryz.prog.underlying t with | some (.int k) => some k | _ => none))) = true := by kernel_rfl
theorem b30 : ((Rows.priceFirstRow.pinned == Rows.priceFirstRow.pinnedBy)) = true := by kernel_rfl
theorem b31 : ((Rows.priceFirstRow.veiled == (Tryz.f9.params.toList ++ Rows.priceFirstSpec.plain.varTypes Tryz.prog ++ Tryz.f9.resultTypes.toList).any (Tryz.prog.veiledRec ·))) = true := by kernel_rfl
theorem b32 : (Rows.priceFirstRow.veiledFits Tryz.prog Tryz.f9.params.toList (Tryz.f9.params.toList ++ Rows.priceFirstSpec.plain.varTypes Tryz.prog ++ Tryz.f9.resultTypes.toList)) = true := by kernel_rfl
theorem b23 : (Rows.priceFirstRow.plainKeys == Tryz.prog.plainKeys) = true := by rw [m_keys]; kernel_rfl
theorem b27 : (Rows.priceFirstRow.lifted == Tryz.prog.liftsFinal) = true := by rw [m_final]; kernel_rfl
theorem b28 : (Tryz.prog.make == some Rows.priceFirstRow.make) = true := m_make
set_option maxRecDepth 100000 in
theorem priceFirst_facts : joinedFacts Tryz.prog 9 Tryz.f9 Rows.priceFirstSpec Rows.priceFirstRow = true :=
  joined_of b1 Tryz_laidOut m_mapsRowed b4 b5 b6 m_stops b8 m_knobs b10 b11 b12 b13 b14 b15 b16 b17 b18 b19 b20 b21 b22 b23 b24 m_heard m_enter b27 b28 b29 b30 b31 b32
end Go.Am
