/- The abstract machine, part 60: the kernel's checks of this program. -/
import Derived.Test.YtlflfbnnjlkkcaaGreatJAm36
set_option linter.unusedSimpArgs false
set_option linter.unusedVariables false
set_option linter.defProp false
namespace Go.Am
open Go Go.Proofs
noncomputable def KE (i:TypeInfo):Bool:=match i.zero with|some z=> !(Jl z)||plain z|none=>true
theorem N2:Tryz.prog.types.toList.all KE=true:=by kernel_rfl
noncomputable def DQ (t:Nat):Bool:=match CC.und t with|some (.struct fs)=>fs.toList.all fun f=>(CC.size f.type).isSome|_=>true
theorem Nj:(List.range 463).all DQ=true:=by kernel_rfl
theorem L5:Tryz.prog.types.size=463:=by kernel_rfl
noncomputable def HC (C:Ctx) (f:Func):Bool:= !(f.name== "runtime.NumGoroutine")&&(match f.body with|some c=>cH C iw c|none=>true)
theorem RQ:Tryz.prog.funcs.toList.all (HC C0)=true:=by kernel_rfl
theorem HB (A:Nat ->Option yp):BK (Ctx.mk Tryz.prog FT TT iS A)=BK C0:=by funext x;cases x<;>rfl
theorem M3 (A:Nat ->Option yp):jI (Ctx.mk Tryz.prog FT TT iS A)=jI C0:=by funext x;unfold jI;rw[HB]
theorem HD (A:Nat ->Option yp) (c:Code):cH (Ctx.mk Tryz.prog FT TT iS A) iw c=cH C0 iw c:=by
 induction c<;>simp_all only[cH,uz,HB,M3]
theorem RJ (A:Nat ->Option yp) (f:Func):HC (Ctx.mk Tryz.prog FT TT iS A) f=HC C0 f:=by
 unfold HC
 congr 1
 cases f.body with
 |none=>rfl
 |some c=>exact HD A c
theorem HE:Tryz.prog.globals.size=0:=by kernel_rfl
end Go.Am
