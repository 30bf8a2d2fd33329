/- Functions of the program at the data of the document's examples: runs of the machine, done by the kernel. -/
import Derived.Test.YtfnllpibhjikgaaGreatDoorJD37
set_option linter.unusedSimpArgs false
set_option linter.unusedVariables false
namespace Go.Am
open Go Go.Proofs
theorem daybookstands0_run : runIs C1 1000000 33 10 daybookstands0A daybookstands0R = true := by kernel_rfl
theorem daybookstands1_run : runIs C1 1000000 33 10 daybookstands1A daybookstands1R = true := by kernel_rfl
theorem daybookstands2_run : runIs C1 1000000 33 10 daybookstands2A daybookstands2R = true := by kernel_rfl
theorem daybookstands3_run : runIs C1 1000000 33 10 daybookstands3A daybookstands3R = true := by kernel_rfl
theorem daybookstands4_run : runIs C1 1000000 33 10 daybookstands4A daybookstands4R = true := by kernel_rfl
theorem daybookstands5_run : runIs C1 1000000 33 10 daybookstands5A daybookstands5R = true := by kernel_rfl
theorem daybookstands6_run : runIs C1 1000000 33 10 daybookstands6A daybookstands6R = true := by kernel_rfl
theorem daybookstands7_run : runIs C1 1000000 33 10 daybookstands7A daybookstands7R = true := by kernel_rfl
theorem daybookstands8_run : runIs C1 1000000 33 10 daybookstands8A daybookstands8R = true := by kernel_rfl
theorem daybookstands9_run : runIs C1 1000000 33 10 daybookstands9A daybookstands9R = true := by kernel_rfl
theorem daybookstands10_run : runIs C1 1000000 33 10 daybookstands10A daybookstands10R = true := by kernel_rfl
theorem daybookstands11_run : runIs C1 1000000 33 10 daybookstands11A daybookstands11R = true := by kernel_rfl
theorem daybookstands12_run : runIs C1 1000000 33 10 daybookstands12A daybookstands12R = true := by kernel_rfl
theorem daybookstands13_run : runIs C1 1000000 33 10 daybookstands13A daybookstands13R = true := by kernel_rfl
theorem daybookstands14_run : runIs C1 1000000 33 10 daybookstands14A daybookstands14R = true := by kernel_rfl
theorem daybookstands15_run : runIs C1 1000000 33 10 daybookstands15A daybookstands15R = true := by kernel_rfl
theorem daybookstands16_run : runIs C1 1000000 33 10 daybookstands16A daybookstands16R = true := by kernel_rfl
theorem daybookstands17_run : runIs C1 1000000 33 10 daybookstands17A daybookstands17R = true := by kernel_rfl
theorem daybookstands18_run : runIs C1 1000000 33 10 daybookstands18A daybookstands18R = true := by kernel_rfl
theorem daybookstands19_run : runIs C1 1000000 33 10 daybookstands19A daybookstands19R = true := by kernel_rfl
theorem daybookstands20_run : runIs C1 1000000 33 10 daybookstands20A daybookstands20R = true := by kernel_rfl
theorem daybookstands21_run : runIs C1 1000000 33 10 daybookstands21A daybookstands21R = true := by kernel_rfl
theorem daybookstands22_run : runIs C1 1000000 33 10 daybookstands22A daybookstands22R = true := by kernel_rfl
theorem daybookstands23_run : runIs C1 1000000 33 10 daybookstands23A daybookstands23R = true := by kernel_rfl
theorem daybookstands24_run : runIs C1 1000000 33 10 daybookstands24A daybookstands24R = true := by kernel_rfl
theorem daybookstands25_run : runIs C1 1000000 33 10 daybookstands25A daybookstands25R = true := by kernel_rfl
end Go.Am
