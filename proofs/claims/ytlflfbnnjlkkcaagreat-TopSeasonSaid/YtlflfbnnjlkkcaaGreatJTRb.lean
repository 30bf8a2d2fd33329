/- Functions of the program at the data of the document's examples: runs of the machine, done by the kernel. -/
import Derived.Test.YtlflfbnnjlkkcaaGreatJT37
set_option linter.unusedSimpArgs false
set_option linter.unusedVariables false
set_option linter.defProp false
namespace Go.Am
open Go Go.Proofs
theorem benchCheck0_run : runIs C0 1000000 84 10 benchCheck0A benchCheck0R = true := by kernel_rfl
theorem letterRows0_run : runIs C0 1000000 195 10 letterRows0A letterRows0R = true := by kernel_rfl
theorem stripFirst0_run : runIs C0 1000000 11 10 stripFirst0A stripFirst0R = true := by kernel_rfl
theorem tintCheck0_run : runIs C0 1000000 13 10 tintCheck0A tintCheck0R = true := by kernel_rfl
theorem repeat4_run : runIs C0 1000000 156 10 repeat4A repeat4R = true := by kernel_rfl
theorem repeat1_run : runIs C0 1000000 156 10 repeat1A repeat1R = true := by kernel_rfl
theorem repeat2_run : runIs C0 1000000 156 10 repeat2A repeat2R = true := by kernel_rfl
theorem benchEnds0_run : runIs C0 1000000 24 10 benchEnds0A benchEnds0R = true := by kernel_rfl
theorem suite_run : runIs C0 1000000 18 10 [] suiteR = true := by kernel_rfl
end Go.Am
