/- The abstract machine, part 60: the kernel's checks of this program. -/
import Derived.Test.YtlflfbnnjlkkcaaGreatJT37
set_option linter.unusedSimpArgs false
set_option linter.unusedVariables false
set_option linter.defProp false
namespace Go.Am
open Go Go.Proofs
noncomputable def zeroOKB (i : TypeInfo) : Bool := match i.zero with | some z => !(notTup z) || plain z | none => true
theorem zeros_ok : Tryz.prog.types.toList.all zeroOKB = true := by kernel_rfl
noncomputable def fieldsOKB (t : Nat) : Bool := match CC.und t with | some (.struct fs) => fs.toList.all fun f => (CC.size f.type).isSome | _ => true
theorem fields_ok : (List.range 463).all fieldsOKB = true := by kernel_rfl
theorem types_len : Tryz.prog.types.size = 463 := by kernel_rfl
noncomputable def goodF (C : Ctx) (f : Func) : Bool := !(f.name == "runtime.NumGoroutine") && (match f.body with | some c => goodCode C drawOK c | none => true)
theorem funcs_ok : Tryz.prog.funcs.toList.all (goodF C0) = true := by kernel_rfl
theorem goodO_eq (A : Nat → Option Spec) : goodO (Ctx.mk Tryz.prog FT TT eqTypes A) = goodO C0 := by funext x; cases x <;> rfl
theorem goodOp_eq (A : Nat → Option Spec) : goodOp (Ctx.mk Tryz.prog FT TT eqTypes A) = goodOp C0 := by funext x; unfold goodOp; rw [goodO_eq]
theorem goodCode_eq (A : Nat → Option Spec) (c : Code) : goodCode (Ctx.mk Tryz.prog FT TT eqTypes A) drawOK c = goodCode C0 drawOK c := by
  induction c <;> simp_all only [goodCode, goodRegion, goodO_eq, goodOp_eq]
theorem goodF_eq (A : Nat → Option Spec) (f : Func) : goodF (Ctx.mk Tryz.prog FT TT eqTypes A) f = goodF C0 f := by
  unfold goodF
  congr 1
  cases f.body with
  | none => rfl
  | some c => exact goodCode_eq A c
theorem globals_len : Tryz.prog.globals.size = 0 := by kernel_rfl
end Go.Am
