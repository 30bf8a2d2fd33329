/- The abstract machine, part 61: this program meets the machine's conditions; the document's examples. -/
import Derived.Test.YtlflfbnnjlkkcaaGreatJAm36
import Derived.Test.YtlflfbnnjlkkcaaGreatJV117
import Derived.Test.YtlflfbnnjlkkcaaGreatJV118
set_option linter.unusedSimpArgs false
set_option linter.unusedVariables false
set_option linter.defProp false
namespace Go.Am
open Go Go.Proofs
theorem HRel.below {good:Code ->Prop} {w0:World} {μ:Mu} {h:Heap} {w w':World} (H:HRel good w0 μ h w) (os:w'.os=w.os) (out:w'.output=w.output) (size:w.heap.size<=w'.heap.size) (block: ∀k,k<w.heap.size ->w'.heap[k]? =w.heap[k]?):HRel good w0 μ h w':=by
 have same: ∀i e o,μ i=some e ->h.get i=some o ->o.live=true ->w'.heap[e.blk]? =w.heap[e.blk]? :=fun i e o a b l=>by
  obtain⟨X,hX⟩:=(H.obj i e o a b).some l
  exact block _ (Array.getElem?_eq_some_iff.1 hX).1
 refine{H with os:=os.trans H.os,output:=out.trans H.output,size:=Nat.le_trans H.size size,old:=fun b hb=>(block b (Nat.lt_of_lt_of_le hb H.size)).trans (H.old b hb),obj:=fun i e o a b=> ?_}
 cases o with
 |dead=>trivial
 |row c s b'=>rw[same i e _ a b rfl];exact H.obj i e _ a b
 |map es c=>rw[same i e _ a b rfl];exact H.obj i e _ a b
 |iter s p=>rw[same i e _ a b rfl];exact H.obj i e _ a b
 |loop r=>rw[same i e _ a b rfl];exact H.obj i e _ a b
 |deferred b'=>rw[same i e _ a b rfl];exact H.obj i e _ a b
def T6 (C:Ctx) (gd:List Oper ->Bool) (w0:World) (f:FuncId) (sp:yp):Prop:=
 ∀μ h w args ARGS res,HRel (goodP C gd) w0 μ h w ->GRel C μ ->VRels μ args ARGS.toList ->sp args h=some res ->Calls C.P f ARGS w (wM C gd w0 μ h.next res)
theorem TY {α:Type} {a:Array α} {p:α ->Bool} (h:a.toList.all p=true) {i:Nat} {x:α} (hx:a[i]? =some x):p x=true:=List.all_eq_true.1 h x (Array.mem_toList_iff.2 (Array.mem_of_getElem? hx))
theorem Mw {n:Nat} {p:Nat ->Bool} (h:(List.range n).all p=true) {t:Nat} (ht:t<n):p t=true:=List.all_eq_true.1 h t (List.mem_range.2 ht)
theorem T5 {t:Nat} {i:TypeInfo} (h:TT.get t=some i):Tryz.prog.types[t]? =some i:=NT.get_ofFn 9 _ t i h
theorem FT_at {f:Nat} {fn:Func} (h:FT.get f=some fn):Tryz.prog.funcs[f]? =some fn:=NT.get_ofFn 9 _ f fn h
theorem q9:CC.zero 221=some (.agg ⟨[.int .i64 0, .int .i64 0]⟩):=by kernel_rfl
theorem uo:CC.zero 285=some (.agg ⟨[.int .i64 0, .int .i64 0]⟩):=by kernel_rfl
theorem qD:CC.zero 353=some (.agg ⟨[.int .i64 0, .int .i64 0, .int .i64 0, .int .i64 0, .bool false, .int .i64 0]⟩):=by kernel_rfl
theorem un:CC.zero 387=some (.agg ⟨[.int .i64 0, .int .i64 0]⟩):=by kernel_rfl
theorem uk:CC.zero 344=some (.agg ⟨[.int .i64 0, .int .i64 0]⟩):=by kernel_rfl
theorem um:CC.zero 428=some (.agg ⟨[.int .i64 0, .int .i64 0, .int .i64 0]⟩):=by kernel_rfl
theorem JW {t:Nat} (h:iS t=true):t=221 \/t=285 \/t=353 \/t=387 \/t=344 \/t=428:=by
 unfold iS at h
 simp only[Bool.or_eq_true]at h
 rcases h with h|h|h|h|h|h
 ·exact .inl (dR h)
 ·exact .inr (.inl (dR h))
 ·exact .inr (.inr (.inl (dR h)))
 ·exact .inr (.inr (.inr (.inl (dR h))))
 ·exact .inr (.inr (.inr (.inr (.inl (dR h)))))
 ·exact .inr (.inr (.inr (.inr (.inr (dR h)))))
theorem VX {P:Program} {t:TypeId} {i:TypeInfo} (h:P.types[t]? =some i):P.info? t=some i:=by
 have hlt:=(Array.getElem?_eq_some_iff.1 h).1
 unfold Tables.info?
 rw[if_pos hlt];exact h
theorem ok0 (A:Nat ->Option yp):(Ctx.mk Tryz.prog FT TT iS A).Ok0 where
 T:=fun t i h=>by
  show Tryz.prog.info? t=some i
  exact VX (T5 h)
 Z:=fun t i z h hz hn=>by
  have:=TY N2 (T5 h)
  unfold KE at this
  rw[hz]at this
  simpa[hn]using this
 S:=fun t fs h f hf=>by
  have ht:t<463:=by
   obtain⟨i,hi,_⟩:=ab h
   have:=(Array.getElem?_eq_some_iff.1 (T5 hi)).1
   rwa [L5]at this
  have:=Mw Nj ht
  unfold DQ at this
  have h2:CC.und t=some (.struct fs):=h
  rw[h2]at this
  have:=List.all_eq_true.1 this f hf
  exact Option.isSome_iff_exists.1 this
 eq:=fun t z h hz=>by
  have hz:CC.zero t=some z:=hz
  rcases JW h with rfl|rfl|rfl|rfl|rfl|rfl
  ·rw[q9]at hz;simp at hz;subst hz;exact wT
  ·rw[uo]at hz;simp at hz;subst hz;exact AE
  ·rw[qD]at hz;simp at hz;subst hz;exact Vd
  ·rw[un]at hz;simp at hz;subst hz;exact AD
  ·rw[uk]at hz;simp at hz;subst hz;exact AB
  ·rw[um]at hz;simp at hz;subst hz;exact AC
theorem RL {A:Nat ->Option yp} {f:Nat} {fn:Func} (h:FT.get f=some fn):Tryz.prog.funcs[f]? =some fn/\ fn.name≠ "runtime.NumGoroutine" /\ ∀c,fn.body=some c ->cH (Ctx.mk Tryz.prog FT TT iS A) iw c=true:=by
 have h1:=FT_at h
 have:=TY RQ h1
 rw[<-RJ A]at this
 unfold HC at this
 obtain⟨h2,h3⟩:=(Bool.and_eq_true _ _).mp this
 refine⟨h1,by simpa using h2,fun c hc=> ?_⟩
 rw[hc]at h3;exact h3
noncomputable def IM (f:Nat):Bool:=match Tryz.prog.funcs[f]? with|some fn=> !(fn.name== "runtime.NumGoroutine")&&fn.body.isSome|none=>false
theorem OJ {f:Nat} (h:IM f=true): ∃fn,Tryz.prog.funcs[f]? =some fn/\ fn.name≠ "runtime.NumGoroutine" /\ fn.body.isSome=true:=by
 unfold IM at h
 split at h
 ·rename_i fn hfn
  obtain⟨h2,h3⟩:=(Bool.and_eq_true _ _).mp h
  exact⟨fn,hfn,by simpa using h2,h3⟩
 ·simp at h
theorem Ty {A:Nat ->Option yp} {w:World} (hA: ∀f sp,A f=some sp ->IM f=true/\ T6 (Ctx.mk Tryz.prog FT TT iS A) iw w f sp):(Ctx.mk Tryz.prog FT TT iS A).Ok iw w where
 ok0:=ok0 A
 F:=fun f fn h=>RL h
 A:=fun f sp h=>⟨OJ (hA f sp h).1,(hA f sp h).2⟩
theorem JE {x:Option FRes} (h:JF x=true): ∃h' p,x=some (.ret (.bool true) h' p):=by
 unfold JF at h
 split at h
 ·exact⟨_,_,rfl⟩
 ·simp at h
theorem C0_ok (w:World):C0.Ok iw w:=Ty fun f sp h=>by cases h
def muG:Mu:=fun _=>none
theorem Uw {C:Ctx} (hP:C.P=Tryz.prog):GRel C muG:=by
 intro g hg
 rw[hP,HE]at hg
 omega
theorem VB: ∀i e,muG i=some e ->i<10/\ i≠0:=fun i e h=>by simp[muG]at h
theorem Ut (good:Code ->Prop) (w:World):HRel good w muG ⟨10, .nil⟩ w where
 os:=rfl
 output:=rfl
 size:=Nat.le_refl _
 old:=fun _ _=>rfl
 dom:=VB
 pos:=by show 0<10;omega
 obj:=fun i e o _ h=>by simp[Heap.get,NT.get_nil]at h
 inj:=fun i j e f o p _ _ _ h=>by simp[Heap.get,NT.get_nil]at h
section
variable {C':Ctx} (hP:C'.P=Tryz.prog) {gd:List Oper ->Bool} {w0:World}
include hP
theorem Rh:T6 C' gd w0 7 sQ:=by
 intro μ h w args ARGS res H _ hA hs
 unfold sQ at hs
 split at hs
 case h_2=>simp at hs
 simp at hs
 subst hs
 have hARGS:ARGS= #[]:=Array.ext' (by simpa using hA.nil_inv)
 subst hARGS
 obtain⟨h',p,hc⟩:=JE MK
 have hOk:=C0_ok w
 rw[hP]
 refine(th hOk (Qk hOk 1000000) hc (ARGS:= #[]) .nil (Ut _ w) (Uw rfl)).2.mono ?_
 intro e w' hp
 cases e with
 |returned V=>
  obtain⟨μ',_,_,_,HI,hv⟩:=hp
  rw[hv.bool_inv]
  exact⟨μ,fun _ _ a=>a,Fresh.refl _ _,Nat.le_refl _,H.below HI.os HI.output HI.size HI.old, .plain _ rfl⟩
 |panicked c=>exact hp.elim
 |_=>exact hp.elim
end
theorem CC_ok (w:World):CC.Ok iw w:=Ty fun f sp h=>by
 have h:IT f=some sp:=h
 unfold IT at h
 split at h
 ·rename_i e;cases h;rw[dR e];exact⟨by kernel_rfl,Rh rfl⟩
 ·cases h
end Go.Am
