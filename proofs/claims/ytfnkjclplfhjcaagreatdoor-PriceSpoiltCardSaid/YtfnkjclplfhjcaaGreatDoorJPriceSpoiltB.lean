/- PriceSpoilt: the closed facts of its row. -/
import Derived.Test.YtfnkjclplfhjcaaGreatDoorJ68
set_option linter.unusedSimpArgs false
set_option linter.unusedVariables false
namespace Go.Am
open Go Go.Proofs Go.ChangeShapes Go.WideShapes Go.RowKit Go.Proofs.YtfnkjclplfhjcaaGreatDoor
theorem b1 : (Rows.priceSpoiltRow.wf (OpenSpec.ofChange Rows.priceSpoiltSpec)) = true := by kernel_rfl
theorem b4 : (Tryz.f21.params.all (Tryz.prog.readableRec ·)) = true := by kernel_rfl
theorem b5 : (namedTie Tryz.prog Rows.priceSpoiltRow.named Rows.priceSpoiltSpec.vars) = true := by kernel_rfl
theorem b6 : ((Rows.priceSpoiltRow.stops == [])) = true := by kernel_rfl
theorem b8 : ((Rows.priceSpoiltRow.knobs == [])) = true := by kernel_rfl
theorem b10 : ((Rows.priceSpoiltRow.inPlace == Tryz.prog.inPlace 21)) = true := by kernel_rfl
theorem b11 : ((Rows.priceSpoiltRow.unfollowed == Tryz.prog.unfollowed 21)) = true := by kernel_rfl
theorem b12 : ((Rows.priceSpoiltRow.recurses == Tryz.prog.recurses 21)) = true := by kernel_rfl
theorem b13 : ((Rows.priceSpoiltRow.named == Tryz.prog.varsNamed 21)) = true := by kernel_rfl
theorem b14 : ((Rows.priceSpoiltRow.maps == (Tryz.f21.params.toList ++ Rows.priceSpoiltSpec.plain.varTypes Tryz.prog).any (Tryz.prog.mapsRec ·))) = true := by kernel_rfl
theorem b15 : ((Rows.priceSpoiltRow.ifaces == (Tryz.f21.params.toList ++ Rows.priceSpoiltSpec.plain.varTypes Tryz.prog).any (Tryz.prog.ifacesRec ·))) = true := by kernel_rfl
theorem b16 : ((Rows.priceSpoiltRow.mapsOut == Tryz.prog.mapsAmong Tryz.f21.resultTypes.toList)) = true := by kernel_rfl
theorem b17 : ((Rows.priceSpoiltRow.loops == (Tryz.f21.params.toList ++ Rows.priceSpoiltSpec.plain.varTypes Tryz.prog).any (Tryz.prog.loopsFrom ·))) = true := by kernel_rfl
theorem b18 : ((Rows.priceSpoiltRow.wideKeys == (Tryz.f21.params.toList ++ Rows.priceSpoiltSpec.plain.varTypes Tryz.prog ++ Tryz.f21.resultTypes.toList).any (Tryz.prog.wideKeysFrom ·))) = true := by kernel_rfl
theorem b19 : (Rows.priceSpoiltSpec.vars.all (Tryz.prog.varReadable ·)) = true := by kernel_rfl
theorem b20 : (Tryz.f21.resultTypes.all (fun t => Tryz.prog.readableRec t && decide (t < Tryz.prog.types.size))) = true := by kernel_rfl
theorem b21 : ((Rows.priceSpoiltRow.ifacesOut == Tryz.f21.resultTypes.toList.any (Tryz.prog.ifacesRec ·))) = true := by kernel_rfl
theorem b22 : ((Rows.priceSpoiltRow.loopsOut == Tryz.f21.resultTypes.toList.any (Tryz.prog.loopsFrom ·))) = true := by kernel_rfl
theorem b24 : (Rows.priceSpoiltRow.shortTexts.isNone) = true := by kernel_rfl
theorem b29 : ((Rows.priceSpoiltRow.kinds == (if Rows.priceSpoiltRow.domain.isEmpty then [] else Tryz.f21.params.toList.map fun t => match Tryz.prog.underlying t with | some (.int k) => some k | _ => none))) = true := by kernel_rfl
theorem b30 : ((Rows.priceSpoiltRow.pinned == Rows.priceSpoiltRow.pinnedBy)) = true := by kernel_rfl
theorem b31 : ((Rows.priceSpoiltRow.veiled == (Tryz.f21.params.toList ++ Rows.priceSpoiltSpec.plain.varTypes Tryz.prog ++ Tryz.f21.resultTypes.toList).any (Tryz.prog.veiledRec ·))) = true := by kernel_rfl
theorem b32 : (Rows.priceSpoiltRow.veiledFits Tryz.prog Tryz.f21.params.toList (Tryz.f21.params.toList ++ Rows.priceSpoiltSpec.plain.varTypes Tryz.prog ++ Tryz.f21.resultTypes.toList)) = true := by kernel_rfl
theorem b23 : (Rows.priceSpoiltRow.plainKeys == Tryz.prog.plainKeys) = true := by rw [m_keys]; kernel_rfl
theorem b27 : (Rows.priceSpoiltRow.lifted == Tryz.prog.liftsFinal) = true := by rw [m_final]; kernel_rfl
theorem b28 : (Tryz.prog.make == some Rows.priceSpoiltRow.make) = true := m_make
set_option maxRecDepth 100000 in
theorem priceSpoilt_facts : joinedFacts Tryz.prog 21 Tryz.f21 Rows.priceSpoiltSpec Rows.priceSpoiltRow = true :=
  joined_of b1 Tryz_laidOut m_mapsRowed b4 b5 b6 m_stops b8 m_knobs b10 b11 b12 b13 b14 b15 b16 b17 b18 b19 b20 b21 b22 b23 b24 m_heard m_enter b27 b28 b29 b30 b31 b32
end Go.Am
