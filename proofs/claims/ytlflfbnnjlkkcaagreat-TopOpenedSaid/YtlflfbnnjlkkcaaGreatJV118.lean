/- The document's examples of the statement: a run of the machine, done by the kernel. -/
import Derived.Test.YtlflfbnnjlkkcaaGreatJAm36
set_option linter.unusedSimpArgs false
set_option linter.unusedVariables false
set_option linter.defProp false
namespace Go.Am
open Go Go.Proofs
noncomputable def JF:Option FRes ->Bool
 |some (.ret (.bool true) _ _)=>true
 |_=>false
theorem MK:JF (cI C0 (run C0 1000000) 7 [] ⟨10, .nil⟩)=true:=by kernel_rfl
end Go.Am
