/- PriceRules: the closed facts of its row. -/
import Derived.Test.YtfnkjclplfhjcaaGreatDoorJ68
set_option linter.unusedSimpArgs false
set_option linter.unusedVariables false
namespace Go.Am
open Go Go.Proofs Go.ChangeShapes Go.WideShapes Go.RowKit Go.Proofs.YtfnkjclplfhjcaaGreatDoor
theorem b1 : (Rows.priceRulesRow.wf (OpenSpec.ofChange Rows.priceRulesSpec)) = true := by kernel_rfl
theorem b4 : (Tryz.f5.params.all (Tryz.prog.readableRec ·)) = true := by kernel_rfl
theorem b5 : (namedTie Tryz.prog Rows.priceRulesRow.named Rows.priceRulesSpec.vars) = true := by kernel_rfl
theorem b6 : ((Rows.priceRulesRow.stops == [])) = true := by kernel_rfl
theorem b8 : ((Rows.priceRulesRow.knobs == [])) = true := by kernel_rfl
theorem b10 : ((Rows.priceRulesRow.inPlace == Tryz.prog.inPlace 5)) = true := by kernel_rfl
theorem b11 : ((Rows.priceRulesRow.unfollowed == Tryz.prog.unfollowed 5)) = true := by kernel_rfl
theorem b12 : ((Rows.priceRulesRow.recurses == Tryz.prog.recurses 5)) = true := by kernel_rfl
theorem b13 : ((Rows.priceRulesRow.named == Tryz.prog.varsNamed 5)) = true := by kernel_rfl
theorem b14 : ((Rows.priceRulesRow.maps == (Tryz.f5.params.toList ++ Rows.priceRulesSpec.plain.varTypes Tryz.prog).any (Tryz.prog.mapsRec ·))) = true := by kernel_rfl
theorem b15 : ((Rows.priceRulesRow.ifaces == (Tryz.f5.params.toList ++ Rows.priceRulesSpec.plain.varTypes Tryz.prog).any (Tryz.prog.ifacesRec ·))) = true := by kernel_rfl
theorem b16 : ((Rows.priceRulesRow.mapsOut == Tryz.prog.mapsAmong Tryz.f5.resultTypes.toList)) = true := by kernel_rfl
theorem b17 : ((Rows.priceRulesRow.loops == (Tryz.f5.params.toList ++ Rows.priceRulesSpec.plain.varTypes Tryz.prog).any (Tryz.prog.loopsFrom ·))) = true := by kernel_rfl
theorem b18 : ((Rows.priceRulesRow.wideKeys == (Tryz.f5.params.toList ++ Rows.priceRulesSpec.plain.varTypes Tryz.prog ++ Tryz.f5.resultTypes.toList).any (Tryz.prog.wideKeysFrom ·))) = true := by kernel_rfl
theorem b19 : (Rows.priceRulesSpec.vars.all (Tryz.prog.varReadable ·)) = true := by kernel_rfl
theorem b20 : (Tryz.f5.resultTypes.all (fun t => Tryz.prog.readableRec t && decide (t < Tryz.prog.types.size))) = true := by kernel_rfl
theorem b21 : ((Rows.priceRulesRow.ifacesOut == Tryz.f5.resultTypes.toList.any (Tryz.prog.ifacesRec ·))) = true := by kernel_rfl
theorem b22 : ((Rows.priceRulesRow.loopsOut == Tryz.f5.resultTypes.toList.any (Tryz.prog.loopsFrom ·))) = true := by kernel_rfl
theorem b24 : (Rows.priceRulesRow.shortTexts.isNone) = true := by kernel_rfl
theorem b29 : ((Rows.priceRulesRow.kinds == (if Rows.priceRulesRow.domain.isEmpty then [] else Tryz.f5.params.toList.map fun t => match Tryz.prog.underlying t with | some (.int k) => some k | _ => none))) = true := by kernel_rfl
theorem b30 : ((Rows.priceRulesRow.pinned == Rows.priceRulesRow.pinnedBy)) = true := by kernel_rfl
theorem b31 : ((Rows.priceRulesRow.veiled == (Tryz.f5.params.toList ++ Rows.priceRulesSpec.plain.varTypes Tryz.prog ++ Tryz.f5.resultTypes.toList).any (Tryz.prog.veiledRec ·))) = true := by kernel_rfl
theorem b32 : (Rows.priceRulesRow.veiledFits Tryz.prog Tryz.f5.params.toList (Tryz.f5.params.toList ++ Rows.priceRulesSpec.plain.varTypes Tryz.prog ++ Tryz.f5.resultTypes.toList)) = true := by kernel_rfl
theorem b23 : (Rows.priceRulesRow.plainKeys == Tryz.prog.plainKeys) = true := by rw [m_keys]; kernel_rfl
theorem b27 : (Rows.priceRulesRow.lifted == Tryz.prog.liftsFinal) = true := by rw [m_final]; kernel_rfl
theorem b28 : (Tryz.prog.make == some Rows.priceRulesRow.make) = true := m_make
set_option maxRecDepth 100000 in
theorem priceRules_facts : joinedFacts Tryz.prog 5 Tryz.f5 Rows.priceRulesSpec Rows.priceRulesRow = true :=
  joined_of b1 Tryz_laidOut m_mapsRowed b4 b5 b6 m_stops b8 m_knobs b10 b11 b12 b13 b14 b15 b16 b17 b18 b19 b20 b21 b22 b23 b24 m_heard m_enter b27 b28 b29 b30 b31 b32
end Go.Am
