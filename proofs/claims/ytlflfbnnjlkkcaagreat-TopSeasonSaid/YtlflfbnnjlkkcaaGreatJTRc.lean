/- Functions of the program at the data of the document's examples: runs of the machine, done by the kernel. -/
import Derived.Test.YtlflfbnnjlkkcaaGreatJT37
set_option linter.unusedSimpArgs false
set_option linter.unusedVariables false
set_option linter.defProp false
namespace Go.Am
open Go Go.Proofs
theorem known_run : isTrue (callF C0 (run C0 1000000) 7 [] ⟨10, .nil⟩) = true := by kernel_rfl
end Go.Am
