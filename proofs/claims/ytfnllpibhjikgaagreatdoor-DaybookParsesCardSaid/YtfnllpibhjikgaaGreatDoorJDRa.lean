/- Functions of the program at the data of the document's examples: runs of the machine, done by the kernel. -/
import Derived.Test.YtfnllpibhjikgaaGreatDoorJD37
set_option linter.unusedSimpArgs false
set_option linter.unusedVariables false
namespace Go.Am
open Go Go.Proofs
theorem coatFirst0_run : runIs C0 1000000 77 10 coatFirst0A coatFirst0R = true := by kernel_rfl
theorem coatMend0_run : runIs C0 1000000 129 10 coatMend0A coatMend0R = true := by kernel_rfl
theorem coatMend1_run : runIs C0 1000000 129 10 coatMend1A coatMend1R = true := by kernel_rfl
end Go.Am
