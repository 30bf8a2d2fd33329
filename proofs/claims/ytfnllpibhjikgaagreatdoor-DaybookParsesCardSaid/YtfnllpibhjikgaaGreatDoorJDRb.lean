/- Functions of the program at the data of the document's examples: runs of the machine, done by the kernel. -/
import Derived.Test.YtfnllpibhjikgaaGreatDoorJD37
set_option linter.unusedSimpArgs false
set_option linter.unusedVariables false
namespace Go.Am
open Go Go.Proofs
theorem letterRows0_run : runIs C0 1000000 196 10 letterRows0A letterRows0R = true := by kernel_rfl
theorem letterRows1_run : runIs C0 1000000 196 10 letterRows1A letterRows1R = true := by kernel_rfl
theorem letterRows2_run : runIs C0 1000000 196 10 letterRows2A letterRows2R = true := by kernel_rfl
theorem letterSet0_run : runIs C0 1000000 101 10 letterSet0A letterSet0R = true := by kernel_rfl
theorem letterSet1_run : runIs C0 1000000 101 10 letterSet1A letterSet1R = true := by kernel_rfl
end Go.Am
