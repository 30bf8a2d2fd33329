/- Functions of the program at the data of the document's examples: runs of the machine, done by the kernel. -/
import Derived.Test.YtfnllpibhjikgaaGreatDoorJD37
set_option linter.unusedSimpArgs false
set_option linter.unusedVariables false
namespace Go.Am
open Go Go.Proofs
theorem benchBest0_run : runIs C0 1000000 109 10 benchBest0A benchBest0R = true := by kernel_rfl
theorem benchCheck0_run : runIs C0 1000000 132 10 benchCheck0A benchCheck0R = true := by kernel_rfl
theorem benchEnds0_run : runIs C0 1000000 108 10 benchEnds0A benchEnds0R = true := by kernel_rfl
theorem daybookown0_run : runIs C0 1000000 76 10 daybookown0A daybookown0R = true := by kernel_rfl
theorem priceCheck0_run : runIs C0 1000000 135 10 priceCheck0A priceCheck0R = true := by kernel_rfl
theorem priceOwes0_run : runIs C0 1000000 111 10 priceOwes0A priceOwes0R = true := by kernel_rfl
theorem priceSame0_run : runIs C0 1000000 112 10 priceSame0A priceSame0R = true := by kernel_rfl
theorem stripBefore0_run : runIs C0 1000000 103 10 stripBefore0A stripBefore0R = true := by kernel_rfl
theorem stripBefore1_run : runIs C0 1000000 103 10 stripBefore1A stripBefore1R = true := by kernel_rfl
theorem stripFirst0_run : runIs C0 1000000 102 10 stripFirst0A stripFirst0R = true := by kernel_rfl
theorem stripFirst1_run : runIs C0 1000000 102 10 stripFirst1A stripFirst1R = true := by kernel_rfl
theorem stripFirst2_run : runIs C0 1000000 102 10 stripFirst2A stripFirst2R = true := by kernel_rfl
theorem tintCheck0_run : runIs C0 1000000 133 10 tintCheck0A tintCheck0R = true := by kernel_rfl
theorem tintWord0_run : runIs C0 1000000 104 10 tintWord0A tintWord0R = true := by kernel_rfl
theorem tintWord1_run : runIs C0 1000000 104 10 tintWord1A tintWord1R = true := by kernel_rfl
theorem tintWord2_run : runIs C0 1000000 104 10 tintWord2A tintWord2R = true := by kernel_rfl
theorem tintWord3_run : runIs C0 1000000 104 10 tintWord3A tintWord3R = true := by kernel_rfl
end Go.Am
