/- Functions of the program at the data of the document's examples: runs of the machine, done by the kernel. -/
import Derived.Test.YtfnllpibhjikgaaGreatDoorJD37
set_option linter.unusedSimpArgs false
set_option linter.unusedVariables false
namespace Go.Am
open Go Go.Proofs
theorem daybookparted0_run : runIs C0 1000000 55 10 daybookparted0A daybookparted0R = true := by kernel_rfl
theorem daybookparted1_run : runIs C0 1000000 55 10 daybookparted1A daybookparted1R = true := by kernel_rfl
theorem daybookparted2_run : runIs C0 1000000 55 10 daybookparted2A daybookparted2R = true := by kernel_rfl
theorem daybookparted3_run : runIs C0 1000000 55 10 daybookparted3A daybookparted3R = true := by kernel_rfl
theorem daybookparted4_run : runIs C0 1000000 55 10 daybookparted4A daybookparted4R = true := by kernel_rfl
theorem daybookparted5_run : runIs C0 1000000 55 10 daybookparted5A daybookparted5R = true := by kernel_rfl
theorem daybookparted6_run : runIs C0 1000000 55 10 daybookparted6A daybookparted6R = true := by kernel_rfl
theorem daybookparted7_run : runIs C0 1000000 55 10 daybookparted7A daybookparted7R = true := by kernel_rfl
theorem daybookparted8_run : runIs C0 1000000 55 10 daybookparted8A daybookparted8R = true := by kernel_rfl
theorem daybookparted9_run : runIs C0 1000000 55 10 daybookparted9A daybookparted9R = true := by kernel_rfl
theorem daybookparted10_run : runIs C0 1000000 55 10 daybookparted10A daybookparted10R = true := by kernel_rfl
theorem daybookparted11_run : runIs C0 1000000 55 10 daybookparted11A daybookparted11R = true := by kernel_rfl
theorem daybookparted12_run : runIs C0 1000000 55 10 daybookparted12A daybookparted12R = true := by kernel_rfl
theorem daybookparted13_run : runIs C0 1000000 55 10 daybookparted13A daybookparted13R = true := by kernel_rfl
theorem daybookparted14_run : runIs C0 1000000 55 10 daybookparted14A daybookparted14R = true := by kernel_rfl
theorem daybookparted15_run : runIs C0 1000000 55 10 daybookparted15A daybookparted15R = true := by kernel_rfl
theorem daybookparted16_run : runIs C0 1000000 55 10 daybookparted16A daybookparted16R = true := by kernel_rfl
theorem daybookparted17_run : runIs C0 1000000 55 10 daybookparted17A daybookparted17R = true := by kernel_rfl
theorem daybookparted18_run : runIs C0 1000000 55 10 daybookparted18A daybookparted18R = true := by kernel_rfl
theorem daybookparted19_run : runIs C0 1000000 55 10 daybookparted19A daybookparted19R = true := by kernel_rfl
theorem daybookparted20_run : runIs C0 1000000 55 10 daybookparted20A daybookparted20R = true := by kernel_rfl
theorem daybookparted21_run : runIs C0 1000000 55 10 daybookparted21A daybookparted21R = true := by kernel_rfl
theorem daybookparted22_run : runIs C0 1000000 55 10 daybookparted22A daybookparted22R = true := by kernel_rfl
theorem daybookparted23_run : runIs C0 1000000 55 10 daybookparted23A daybookparted23R = true := by kernel_rfl
theorem daybookparted24_run : runIs C0 1000000 55 10 daybookparted24A daybookparted24R = true := by kernel_rfl
theorem daybookparted25_run : runIs C0 1000000 55 10 daybookparted25A daybookparted25R = true := by kernel_rfl
theorem daybookparted26_run : runIs C0 1000000 55 10 daybookparted26A daybookparted26R = true := by kernel_rfl
theorem daybookparted27_run : runIs C0 1000000 55 10 daybookparted27A daybookparted27R = true := by kernel_rfl
theorem daybookparted28_run : runIs C0 1000000 55 10 daybookparted28A daybookparted28R = true := by kernel_rfl
theorem daybookparted29_run : runIs C0 1000000 55 10 daybookparted29A daybookparted29R = true := by kernel_rfl
theorem daybookparted30_run : runIs C0 1000000 55 10 daybookparted30A daybookparted30R = true := by kernel_rfl
theorem daybookparted31_run : runIs C0 1000000 55 10 daybookparted31A daybookparted31R = true := by kernel_rfl
theorem daybookparted32_run : runIs C0 1000000 55 10 daybookparted32A daybookparted32R = true := by kernel_rfl
theorem daybookparted33_run : runIs C0 1000000 55 10 daybookparted33A daybookparted33R = true := by kernel_rfl
theorem daybookparted34_run : runIs C0 1000000 55 10 daybookparted34A daybookparted34R = true := by kernel_rfl
theorem daybookparted35_run : runIs C0 1000000 55 10 daybookparted35A daybookparted35R = true := by kernel_rfl
theorem daybookparted36_run : runIs C0 1000000 55 10 daybookparted36A daybookparted36R = true := by kernel_rfl
theorem daybookparted37_run : runIs C0 1000000 55 10 daybookparted37A daybookparted37R = true := by kernel_rfl
theorem daybookparted38_run : runIs C0 1000000 55 10 daybookparted38A daybookparted38R = true := by kernel_rfl
theorem daybookparted39_run : runIs C0 1000000 55 10 daybookparted39A daybookparted39R = true := by kernel_rfl
theorem daybookparted40_run : runIs C0 1000000 55 10 daybookparted40A daybookparted40R = true := by kernel_rfl
theorem daybookparted41_run : runIs C0 1000000 55 10 daybookparted41A daybookparted41R = true := by kernel_rfl
theorem daybookparted42_run : runIs C0 1000000 55 10 daybookparted42A daybookparted42R = true := by kernel_rfl
theorem daybookparted43_run : runIs C0 1000000 55 10 daybookparted43A daybookparted43R = true := by kernel_rfl
theorem daybookparted44_run : runIs C0 1000000 55 10 daybookparted44A daybookparted44R = true := by kernel_rfl
theorem daybookparted45_run : runIs C0 1000000 55 10 daybookparted45A daybookparted45R = true := by kernel_rfl
theorem daybookparted46_run : runIs C0 1000000 55 10 daybookparted46A daybookparted46R = true := by kernel_rfl
theorem daybookparted47_run : runIs C0 1000000 55 10 daybookparted47A daybookparted47R = true := by kernel_rfl
theorem daybookparted48_run : runIs C0 1000000 55 10 daybookparted48A daybookparted48R = true := by kernel_rfl
theorem daybookparted49_run : runIs C0 1000000 55 10 daybookparted49A daybookparted49R = true := by kernel_rfl
end Go.Am
