/- Parts 60 of the abstract machine over this program, joined: what each part says stands at its head. -/
import Derived.Test.YtfnkjclplfhjcaaGreatDoorJ38
set_option linter.unusedSimpArgs false
set_option linter.unusedVariables false
/- The abstract machine, part 60: the kernel's checks of this program. -/
namespace Go.Am
open Go Go.Proofs

noncomputable def zeroOKB (i : TypeInfo) : Bool := match i.zero with | some z => !(notTup z) || plain z | none => true
theorem zeros_ok : Tryz.prog.types.toList.all zeroOKB = true := by kernel_rfl
noncomputable def fieldsOKB (t : Nat) : Bool := match CC.und t with | some (.struct fs) => fs.toList.all fun f => (CC.size f.type).isSome | _ => true
theorem fields_ok : (List.range 239).all fieldsOKB = true := by kernel_rfl
theorem types_len : Tryz.prog.types.size = 239 := by kernel_rfl
noncomputable def goodF (C : Ctx) (f : Func) : Bool := !(f.name == "runtime.NumGoroutine") && (match f.body with | some c => goodCode C drawOK c | none => true)
theorem funcs_ok : Tryz.prog.funcs.toList.all (goodF CC) = true := by kernel_rfl
theorem funcs_ok0 : Tryz.prog.funcs.toList.all (goodF C0) = true := by kernel_rfl
noncomputable def isTrue : Option FRes → Bool
  | some (.ret (.bool true) _ _) => true
  | _ => false
/-- the examples, once for all -/
theorem known_run : isTrue (callF C0 (run C0 1000000) 23 [] ⟨10, .nil⟩) = true := by kernel_rfl
theorem globals_len : Tryz.prog.globals.size = 6 := by kernel_rfl
end Go.Am
