/- Parts V120, V121, V122, V70, V71, V72, VX0 of the abstract machine over this program, joined: what each part says stands at its head. -/
import Derived.Test.YtlflfbnnjlkkcaaGreatJV119
import Derived.Test.YtlflfbnnjlkkcaaGreatJV39
import Derived.ProofKit
import Derived.Test.YtlflfbnnjlkkcaaGreatRows
import Derived.LaidMore
import Derived.Shelf.Vars
set_option linter.unusedSimpArgs false
set_option linter.unusedVariables false
set_option linter.defProp false
open Nat renaming reduceLT→Q1,reduceEqDiff→Q2,reduceAdd→Q3,reduceMul→Q4,reduceLeDiff→Q5
open Int renaming reduceNe→Q6,reduceEq→Q7
namespace Go.Am
open Go Go.Proofs Go.ChangeShapes Go.WideShapes Go.RowKit
section
variable {H:Type} {enc:TypeId×Value ->H} {w:World} {base:Nat} {spare:Nat ->Bool} {held:Bool} {fuel:Nat}
theorem c3:Tryz.prog.cellsOf 3=1:=by kernel_rfl
theorem bT {t:TypeId} (hu:Tryz.prog.underlying t=some (.int .i64)) {cs:List Value} {x:DataW H×List MemPlace} (h:DataW.trod enc Tryz.prog w base spare held fuel t cs=some x): ∃n:Int,cs=[.int .i64 n]:=by
 obtain⟨m,rfl,_⟩:=DataW.trod_int hu h
 exact⟨m,rfl⟩
theorem fieldAt {fs:Array Field} {xs:List (DataW H×List MemPlace)} {n:Nat} {cs:List Value}
  (hf: ∀(i:Nat) (f:Field),fs[i]? =some f ->DataW.trod enc Tryz.prog w base spare held n f.type ((cs.drop f.offset).take (Tryz.prog.cellsOf f.type))=xs[i]?)
  (i t o c:Nat) (x:DataW H×List MemPlace) (hi:(fs[i]?).map (fun f=>(f.type,f.offset))=some (t,o)) (hc:Tryz.prog.cellsOf t=c) (hx:xs[i]? =some x):
  DataW.trod enc Tryz.prog w base spare held n t ((cs.drop o).take c)=some x:=by
 cases hq:fs[i]? with
 |none=>rw[hq]at hi;cases hi
 |some f=>
  rw[hq]at hi
  have:=hf i f hq
  simp only[Option.map_some,Option.some.injEq,Prod.mk.injEq]at hi
  rw[hi.1,hi.2,hc,hx]at this
  exact this
def bX {α:Type} (w:World) (V:Value) (xs:List α) (f:α ->List Value) (s:Nat):Prop:=
 (V= .slice none 0 0/\ xs=[]) \/(∃a,V= .slice (some a) 0 0/\ xs=[]) \/
  ∃a cap C el fz,V= .slice (some a) xs.length cap/\ xs.length<=cap/\ a.spot=none/\ w.heap[a.block]? =some (.cells C el fz)/\ a.off+xs.length*s<=C.size/\ (C.toList.drop a.off).take (xs.length*s)=xs.flatMap f
theorem iF {α:Type} {t e s:Nat} {f:α ->List Value} (R:α ->Prop) (ht:Tryz.prog.underlying t=some (.slice e)) (hs:Tryz.prog.cellsOf e=s) (s0:0<s) (hf: ∀x,(f x).length=s)
  (each: ∀(n:Nat) (cs:List Value) (x:DataW H×List MemPlace),DataW.trod enc Tryz.prog w base (fun _=>true) held n e cs=some x -> ∃y:α,cs=f y/\ R y) {V:Value} {x:DataW H×List MemPlace}
  (h:DataW.trod enc Tryz.prog w base (fun _=>true) held fuel t [V]=some x): ∃xs:List α,bX w V xs f s/\ ∀x∈xs,R x:=by
 rcases DataW.trod_slice ht h with⟨h0,_⟩|⟨a,len,cap,elems,rest,n,_,h0,_,hb,hl,hm,hlen,hel,hsp,_⟩
 ·simp at h0
  exact⟨[], .inl ⟨h0,rfl⟩,by simp⟩
 ·simp at h0
  subst h0
  obtain⟨hrl,hr⟩:=hsp rfl
  have all: ∀i,i<cap -> ∃y:α,w.cells? base (a.add (i*s)) s=some (f y)/\ R y:=by
   intro i hi
   have: ∃z,(w.cells? base (a.add (i*s)) s).bind (DataW.trod enc Tryz.prog w base (fun _=>true) held n e)=some z:=by
    by_cases hil:i<len
    ·have:=hel i hil
     rw[hs]at this
     exact⟨elems[i]'(by omega),by rw[this];exact List.getElem?_eq_getElem (by omega)⟩
    ·have:=hr (i -len) (by omega)
     rw[hs,show len+(i -len)=i by omega]at this
     exact⟨rest[i -len]'(by omega),by rw[this];exact List.getElem?_eq_getElem (by omega)⟩
   obtain⟨z,hz⟩:=this
   rw[Option.bind_eq_some_iff]at hz
   obtain⟨cs,h1,h2⟩:=hz
   obtain⟨y,rfl,hy⟩:=each _ _ _ h2
   exact⟨y,h1,hy⟩
  by_cases hc:cap=0
  ·subst hc
   have:len=0:=by omega
   subst this
   exact⟨[], .inr (.inl ⟨a,rfl,rfl⟩),by simp⟩
  obtain⟨y0,hy0,_⟩:=all 0 (by omega)
  have hcell0:=(World.cells?_some hy0).2.2 0 s0
  have hspot:a.spot=none/\ ∃C el fz,w.heap[a.block]? =some (.cells C el fz):=by
   have e0:(a.add (0*s)).add 0=a:=by simp[Addr.add]
   rw[e0]at hcell0
   have: ∃v,w.cell? a=some v:=⟨(f y0)[0]'(by rw[hf];exact s0),by rw[hcell0];exact List.getElem?_eq_getElem _⟩
   obtain⟨v,hv⟩:=this
   unfold World.cell? at hv
   split at hv
   ·rename_i C el fz hblk
    split at hv
    ·simp at hv
    ·rename_i hsp'
     refine⟨by cases hq:a.spot with|none=>rfl|some q=>rw[hq]at hsp';simp at hsp',C,el,fz,hblk⟩
   ·simp at hv
  obtain⟨hspot,C,el,fz,hblk⟩:=hspot
  have cellAt: ∀j,w.cell? (a.add j)=C[a.off+j]? :=by
   intro j
   have:a.add j=⟨a.block,a.off+j,none⟩:=eG hspot j
   rw[this]
   unfold World.cell?
   simp[hblk]
  have rowAt': ∀i,i<cap -> ∃y:α,(∀j,j<s ->C[a.off+(i*s+j)]? =(f y)[j]?)/\ R y:=by
   intro i hi
   obtain⟨y,hy,hR⟩:=all i hi
   refine⟨y,fun j hj=> ?_,hR⟩
   have:=(World.cells?_some hy).2.2 j hj
   rw[<-this,<-cellAt]
   refine congrArg w.cell? ?_
   rw[eG hspot (i*s)]
   by_cases h0:j=0
   ·subst h0;rw[eG hspot];simp[Addr.add]
   ·simp[Addr.add,h0,eG hspot,Nat.add_assoc]
  have build: ∀k,k<=len -> ∃xs:List α,xs.length=k/\ a.off+k*s<=C.size/\ (C.toList.drop a.off).take (k*s)=xs.flatMap f/\ ∀x∈xs,R x:=by
   intro k
   induction k with
   |zero=>
    intro _
    refine⟨[],rfl,?_,by simp,by simp⟩
    obtain⟨y,hy,_⟩:=rowAt' 0 (by omega)
    have:=hy 0 s0
    rw[List.getElem?_eq_getElem (by rw[hf];exact s0)]at this
    have:=(Array.getElem?_eq_some_iff.1 this).1
    simp at this⊢
    omega
   |succ k ih=>
    intro hk
    obtain⟨xs,h1,h2,h3,h4⟩:=ih (by omega)
    obtain⟨y,hy,hR⟩:=rowAt' k (by omega)
    have hlast:=hy (s -1) (by omega)
    rw[List.getElem?_eq_getElem (by rw[hf];omega)]at hlast
    have hsz:=(Array.getElem?_eq_some_iff.1 hlast).1
    have hsz':a.off+(k+1)*s<=C.size:=by
     have:(k+1)*s=k*s+s:=by rw[Nat.add_mul];simp
     omega
    refine⟨xs++[y],by simp[h1],hsz',?_,fun x hx=>by rcases List.mem_append.1 hx with h|h;exact h4 x h;simp at h;subst h;exact hR⟩
    have e:(k+1)*s=k*s+s:=by rw[Nat.add_mul];simp
    rw[e,List.take_add,h3,List.flatMap_append]
    refine congrArg (List.flatMap f xs++ ·) ?_
    simp only[List.flatMap_cons,List.flatMap_nil,List.append_nil]
    apply List.ext_getElem?
    intro j
    by_cases hj:j<s
    ·rw[List.getElem?_take,if_pos hj,List.getElem?_drop,List.getElem?_drop,Array.getElem?_toList,<-Nat.add_assoc,Nat.add_assoc,hy j hj]
    ·rw[List.getElem?_take,if_neg hj,List.getElem?_eq_none (by rw[hf];omega)]
  obtain⟨xs,h1,h2,h3,h4⟩:=build len (Nat.le_refl _)
  subst h1
  exact⟨xs, .inr (.inr ⟨a,cap,C,el,fz,rfl,hl,hspot,hblk,h2,h3⟩),h4⟩
end
end Go.Am

namespace Go.Am
open Go Go.Proofs
def Lent (h:Heap):Prop:= ∀i o,h.get i=some o ->o.own=false
structure Start (C:Ctx) (good:Code ->Prop) (w:World) (μ:Mu) (h:Heap):Prop where
 rel:HRel good w μ h w
 glob:GRel C μ
 ok:HOK h
 lent:Lent h
theorem Start.zero {C:Ctx} (hP:C.P=Tryz.prog) (good:Code ->Prop) (w:World):Start C good w muG ⟨10, .nil⟩where
 rel:=Ut good w
 glob:=Uw hP
 ok:=fun i _=>by simp[Heap.get,NT.get_nil]
 lent:=fun i o h=>by simp[Heap.get,NT.get_nil]at h
theorem VRels.plainly {μ : Mu} {l : List Value} (h : l.all aU = true) : VRels μ l l :=
  ⟨rfl, fun i x X a b => by
    rw [a] at b
    simp at b
    subst b
    exact .plain _ (List.all_eq_true.1 h _ (List.mem_of_getElem? a))⟩
theorem JS {α:Type} {f:α ->List Value} (hp: ∀x,(f x).all aU=true) (xs:List α):(xs.flatMap f).all aU=true:=by
 rw[List.all_flatMap]
 exact List.all_eq_true.2 fun x _=>hp x
theorem C8 {C:Ctx} {good:Code ->Prop} {w:World} {μ:Mu} {h:Heap} (S:Start C good w μ h) {α:Type} {V:Value} {us xs:List α} {f:α ->List Value} {s:Nat}
  (hf: ∀x,(f x).length=s) (hl:us.length=xs.length) (hp:VRels μ (us.flatMap f) (xs.flatMap f)) (q:bX w V xs f s):
  ∃μ' h' v,μ.le μ'/\ Start C good w μ' h'/\ Fr h h'/\ VRel μ' v V/\ LS h' v us f s/\ (us≠[] -> ∃b c,v= .slice (some ⟨b+1,0,none⟩) us.length c/\ us.length<=c):=by
 rcases q with⟨rfl,rfl⟩|⟨a,rfl,rfl⟩|⟨a,cap,Cs,el,fz,rfl,h1,h2,h3,h4,h5⟩
 ·have e:=List.eq_nil_of_length_eq_zero (show us.length=0 from hl)
  exact⟨μ,h,_,fun _ _ a=>a,S,Fr.refl S.ok, .plain _ rfl, .inl ⟨e,_,_,rfl⟩,fun hn=>absurd e hn⟩
 ·have e:=List.eq_nil_of_length_eq_zero (show us.length=0 from hl)
  exact⟨μ,h, .slice (some ⟨0,0,none⟩) 0 0,fun _ _ a=>a,S,Fr.refl S.ok, .slice _ _ _ _ _ (Nat.le_refl _) (Nat.le_refl _) (.inl ⟨rfl,rfl⟩), .inl ⟨e,_,_,rfl⟩,fun hn=>absurd e hn⟩
 have hlen:(us.flatMap f).length=xs.length*s:=by rw[gP hf us,hl]
 have hnone:μ h.next=none:=by
  cases e:μ h.next with
  |none=>rfl
  |some e'=>exact absurd (S.rel.dom _ _ e).1 (Nat.lt_irrefl _)
 refine⟨μ.upd h.next ⟨a.block,a.off,xs.length*s,s⟩,h.alloc (.row (us.flatMap f) s false), .slice (some ⟨h.next,0,none⟩) us.length us.length,Mu.le_upd _ hnone,?_,(Fr.refl S.ok).alloc _,?_,?_,fun hn=>⟨h.next -1,us.length,by rw[Nat.sub_add_cancel S.rel.pos],Nat.le_refl _⟩⟩
 ·refine⟨?_,S.glob.mono (Mu.le_upd _ hnone),S.ok.alloc _,?_⟩
  ·refine{S.rel with dom:= ?_,pos:= ?_,obj:= ?_,inj:= ?_}
   ·intro i e hi
    by_cases hn:i=h.next
    ·subst hn
     exact⟨by simp,by have:=S.rel.pos;omega⟩
    ·rw[Mu.upd_ne _ _ hn]at hi
     have:=S.rel.dom _ _ hi
     exact⟨by simp;omega,this.2⟩
   ·have:=S.rel.pos;simp
   ·intro i e o hi ho
    by_cases hn:i=h.next
    ·subst hn
     rw[Mu.upd_self]at hi
     rw[Heap.get_alloc_self]at ho
     simp at hi ho
     subst hi;subst ho
     refine⟨Cs,el,fz,h3,h4,by show(us.flatMap f).length<=xs.length*s;omega,rfl,?_,fun hx=>by simp at hx⟩
     rw[hlen,h5]
     exact hp.mono (Mu.le_upd _ hnone)
    ·rw[Mu.upd_ne _ _ hn]at hi
     rw[Heap.get_alloc_ne _ _ hn]at ho
     exact(S.rel.obj i e o hi ho).mono (Mu.le_upd _ hnone)
   ·intro i j e f' o p _ _ _ ho hp' hown
    by_cases hn:i=h.next
    ·subst hn
     rw[Heap.get_alloc_self]at ho
     simp at ho
     subst ho
     simp[AObj.own]at hown
    ·rw[Heap.get_alloc_ne _ _ hn]at ho
     rw[S.lent i o ho]at hown
     simp at hown
  ·intro i o ho
   by_cases hn:i=h.next
   ·subst hn
    rw[Heap.get_alloc_self]at ho
    simp at ho
    subst ho
    rfl
   ·rw[Heap.get_alloc_ne _ _ hn]at ho
    exact S.lent i o ho
 ·rw[hl]
  refine .slice _ _ _ _ _ h1 h1 (.inr ⟨by have:=S.rel.pos;show h.next≠0;omega,_,Mu.upd_self _ _ _, .inl ⟨h2,rfl,rfl,fun s' hs=>by simp at hs⟩⟩)
 ·exact LS.of_row hf (by unfold rowAt;rw[Heap.get_alloc_self];rfl)
theorem yD {C:Ctx} {good:Code ->Prop} {w:World} {μ:Mu} {h:Heap} (S:Start C good w μ h) {α:Type} {V:Value} {xs:List α} {f:α ->List Value} {s:Nat}
  (hf: ∀x,(f x).length=s) (hp: ∀x,(f x).all aU=true) (q:bX w V xs f s):
  ∃μ' h' v,μ.le μ'/\ Start C good w μ' h'/\ Fr h h'/\ VRel μ' v V/\ LS h' v xs f s/\ (xs≠[] -> ∃b c,v= .slice (some ⟨b+1,0,none⟩) xs.length c/\ xs.length<=c):=
 C8 S hf rfl (VRels.plainly (JS hp xs)) q
theorem jG (n:Int):(aQ n).all aU=true:=rfl
end Go.Am

namespace Go.Am
open Go Go.Proofs Go.ChangeShapes Go.WideShapes Go.RowKit Go.Proofs.YtlflfbnnjlkkcaaGreat
def Fw (w:World) (e:Ending) (w':World):Prop:=
 e= .returned (.bool true)/\ w'.os=w.os/\ w'.output=w.output/\ w.heap.size<=w'.heap.size/\ ∀b,b<w.heap.size ->w'.heap[b]? =w.heap[b]?
theorem MI {f:FuncId} {args:List Value} {h:Heap} {ARGS:Array Value} {w:World} {μ:Mu} (S:Start CC (goodP CC iw) w μ h) (hA:VRels μ args ARGS.toList)
  (c:CW CC f args h fun r h'=>r= .bool true/\ Fr h h'):Calls Tryz.prog f ARGS w (Fw w):=by
 obtain⟨r,h',hc,rfl,_⟩:=c
 obtain⟨n,hn⟩:=Kc hc
 have hOk:=CC_ok w
 refine(th hOk (Qk hOk n) hn hA S.rel S.glob).2.mono ?_
 intro e w' hp
 cases e with
 |returned V=>
  obtain⟨μ',_,_,_,H,hv⟩:=hp
  rw[hv.bool_inv]
  exact⟨rfl,H.os,H.output,H.size,H.old⟩
 |panicked c=>exact hp.elim
 |_=>exact hp.elim
theorem I4 {w w':World} (h: ∀b,b<w.heap.size ->w'.heap[b]? =w.heap[b]?) {p:MemPlace} (hp:p.block<w.heap.size):w.sameAt w' p:=by
 cases p with
 |cell b o=>exact World.cell?_of_block (w:=w) (h b hp)
 |map b=>exact h b hp
theorem Hn {w w':World} (os:w'.os=w.os) (out:w'.output=w.output) (h: ∀b,b<w.heap.size ->w'.heap[b]? =w.heap[b]?) (may:MemPlace ->Prop):w.keptBut w' may:=by
 refine⟨os,out,fun i hi=> ?_⟩
 rw[h i hi]
 exact(World.keptBut_refl w may).2.2 i hi
theorem v3:laidOutB Tryz.prog=true:=by kernel_rfl
theorem T4:ownKnob Tryz.prog.godebug=none:=by kernel_rfl
section
variable {H:Type} {enc:TypeId×Value ->H}
theorem F7 {w w':World} (h: ∀b,b<w.heap.size ->w'.heap[b]? =w.heap[b]?) {ts:List TypeId}: ∀{vs:List Value} {ds:List (DataW H)} {ps:List MemPlace},
  (∀t∈ts,Tryz.prog.readableRec t=true/\ t<Tryz.prog.types.size) ->(∀x∈ps,x.block<w.heap.size) ->DataW.TrodAll enc Tryz.prog w 0 (fun _=>true) true ts vs ds ps ->
  DataW.TrodAll enc Tryz.prog w' 0 (fun b=>decide (b<w.heap.size)) true ts vs ds ps:=by
 induction ts with
 |nil=>
  intro vs ds ps _ _ ht
  obtain⟨rfl,rfl,rfl⟩:=trodAll_nil ht
  exact rfl
 |cons t ts ih=>
  intro vs ds ps ha hp ht
  obtain⟨v,vs1,d,ds1,a,b,rfl,rfl,rfl,h1,h2⟩:=trodAll_cons ht
  have r:=ha t (List.mem_cons_self ..)
  have ea: ∀x∈a,x.block<w.heap.size:=fun x hx=>hp x (List.mem_append.2 (.inl hx))
  have eb: ∀x∈b,x.block<w.heap.size:=fun x hx=>hp x (List.mem_append.2 (.inr hx))
  exact⟨a,b,WideElems.Trod_stays v3 r.1 r.2 h1 (fun x hx=>I4 h (ea x hx)) (fun x hx=>decide_eq_true (ea x hx)),ih (fun t ht=>ha t (List.mem_cons_of_mem _ ht)) eb h2,rfl⟩
theorem OF {ts:List TypeId} (h:ts.all (fun t=>Tryz.prog.readableRec t&&decide (t<Tryz.prog.types.size))=true): ∀t∈ts,Tryz.prog.readableRec t=true/\ t<Tryz.prog.types.size:=by
 intro t ht
 have:=List.all_eq_true.1 h t ht
 rw[Bool.and_eq_true]at this
 exact⟨this.1,of_decide_eq_true this.2⟩
theorem GW {fn:Func} {s:ChangeSpec} {W W':World} {args:Array Value} {e:Ending} {ds gs:List (DataW H)} {before:List MemPlace}
  (hW:DataW.Whole enc Tryz.prog fn.params.toList s.vars false W args.toList ds gs before) (hv:s.vars=[]) (hr:fn.resultTypes= #[4])
  (hp:fn.params.toList.all (fun t=>Tryz.prog.readableRec t&&decide (t<Tryz.prog.types.size))=true)
  (hs:s.fn H ds={results:=[.lit (.bool true)],args:=ds}) (hl:Fw W e W'): ∃v,e= .returned v/\ s.post enc Tryz.prog fn false true false false W args v W':=by
 obtain⟨rfl,os,out,size,old⟩:=hl
 have hlt:=hW.lt
 have hW':=hW
 obtain⟨p,q,hA,hV,rfl,hfz,hnd⟩:=hW
 rw[hv]at hV
 obtain⟨rfl,rfl⟩:=trodVars_none hV
 refine⟨_,rfl,ds,[],p++[],[],p,[],hW',?_,?_,?_,?_,fun x=>by cases x⟩
 ·rw[List.append_nil,hs,hr]
  exact trodAll_mk1 (shut_bool Tryz.underlying4 true)
 ·rw[List.append_nil,hs]
  exact F7 old (OF hp) (fun x hx=>hlt x (by simpa using hx)) hA
 ·rw[List.append_nil,hs,hv]
  exact rfl
 ·exact Hn os out old _
end
section
variable {H:Type} {enc:TypeId×Value ->H}
set_option maxRecDepth 100000 in
theorem CJ {os:Os} {f:FuncId} {fn:Func} {s:ChangeSpec}
  (started:os.Started) (noInit:Tryz.prog.inits.idxOf? f=none) (hfn:Tryz.prog.funcs[f]? =some fn)
  (witness: ∃(w:World) (tape:Tape) (i:Input),w.os=os/\ (w.forCall tape i).Shaped Tryz.prog/\ i.vars=[]/\ Input.okWide Tryz.prog (w.forCall tape i) .any w.heap.size f i/\
   ((s.pre enc Tryz.prog fn [] false (w.forCall tape i).memory i.args/\ True)/\ sizedMet enc Tryz.prog fn (OpenSpec.ofChange s) false (w.forCall tape i).memory i.args)/\ ({}:Assume).holds Tryz.prog (lone (Frame.enter Tryz.prog f i.args .normal) [] (w.forCall tape i)))
  (hv:s.vars=[]) (hr:fn.resultTypes= #[4])
  (hp:fn.params.toList.all (fun t=>Tryz.prog.readableRec t&&decide (t<Tryz.prog.types.size))=true)
  (hs: ∀ds:List (DataW H),ds.length=fn.params.toList.length ->s.fn H ds={results:=[.lit (.bool true)],args:=ds})
  (contract: ∀(W:World) (base:Nat) (args:Array Value) (ds:List (DataW H)) (ps:List MemPlace),
   (∀(j:Nat) t v,fn.params[j]? =some t ->args[j]? =some v ->Value.okWide Tryz.prog W .any base t v) ->
   DataW.TrodAll enc Tryz.prog W 0 (fun _=>true) true fn.params.toList args.toList ds ps ->ds.length=fn.params.toList.length/\ Calls Tryz.prog f args W (Fw W)):
  ReturnsInHanded {} Tryz.checked os f .any (fun w args=>s.pre enc Tryz.prog fn [] false w args/\ sizedMet enc Tryz.prog fn (OpenSpec.ofChange s) false w args)
   (s.post enc Tryz.prog fn false true false false):=by
 refine returnsInHanded_of_calls (C:=Tryz.checked) T4 started noInit (by
  obtain⟨w,t,i,h1,h2,h3,h4,h5,h6⟩:=witness
  exact⟨w,t,i,h1,h2,h3,h4,⟨h5.1.1,h5.2⟩,h6⟩) ?_
 intro w tape i _ hsh _ hok hpre _
 obtain⟨_,_,_,fn',hfn',_,_,_,_,hval0⟩:=hok
 have e:fn'=fn:=Option.some.inj (hfn'.symm.trans hfn)
 subst e
 obtain⟨⟨ds,gs,before,hw,hc⟩,hz⟩:=hpre
 have hw':=DataW.Whole.of_heap (w':=w.forCall tape i) (by rfl) hw
 have hwh:DataW.Whole enc Tryz.prog fn'.params.toList s.vars false (w.forCall tape i) i.args.toList ds gs before:=hw'
 obtain⟨p,q,hA,_⟩:=hw'
 have hval: ∀(j:Nat) t v,fn'.params[j]? =some t ->i.args[j]? =some v ->Value.okWide Tryz.prog (w.forCall tape i) .any w.heap.size t v:=hval0
 have hA':DataW.TrodAll enc Tryz.prog (w.forCall tape i) 0 (fun _=>true) true fn'.params.toList i.args.toList ds p:=hA
 have hc:=contract (w.forCall tape i) w.heap.size i.args ds p hval hA'
 obtain⟨hd,hcalls⟩:=hc
 refine hcalls.mono fun e W' he=> ?_
 obtain⟨v,rfl,hpost⟩:=GW hwh hv hr hp (hs ds hd) he
 exact ChangeSpec.post_blind hpost
end
theorem H5 (os:Os) (args:Array Value):((World.doorLaid Tryz.prog 100 os).forCall (fun _ _=>0) ⟨#[],args,[]⟩).Shaped Tryz.prog:=World.shaped_of_RefB (by kernel_rfl) (by kernel_rfl)
end Go.Am

namespace Go.Am
open Go Go.Proofs
theorem MW (x lo hi:Int) (h:Heap):cI CC (bH CC) 131 [.int .i64 x, .int .i64 lo, .int .i64 hi] h=some (.ret (.bool (cL x lo hi)) h none):=by
 refine CW.eq (aw Tryz.f131 (by kernel_rfl) (by kernel_rfl) rfl rfl ?_)
 simp only[Tryz.f131]
 by_cases h1:x>=lo
 ·simp(maxDischargeDepth:=30)only[AA,↓reduceIte,Q1,Q2,Q3,Q4,reduceCtorEq,Q5,Q6,Q7,h1]
  simp[cL,show lo<=x from h1]
 ·simp(maxDischargeDepth:=30)only[AA,↓reduceIte,Q1,Q2,Q3,Q4,reduceCtorEq,Q5,Q6,Q7,h1]
  simp[cL,show¬lo<=x from h1]
theorem in_d (x lo hi:Int) (h:Heap):cI CC (bH CC) 153 [.int .i64 x, .int .i64 lo, .int .i64 hi] h=some (.ret (.bool (cL x lo hi)) h none):=by
 refine CW.eq (aw Tryz.f153 (by kernel_rfl) (by kernel_rfl) rfl rfl ?_)
 simp only[Tryz.f153]
 by_cases h1:x>=lo
 ·simp(maxDischargeDepth:=30)only[AA,↓reduceIte,Q1,Q2,Q3,Q4,reduceCtorEq,Q5,Q6,Q7,h1]
  simp[cL,show lo<=x from h1]
 ·simp(maxDischargeDepth:=30)only[AA,↓reduceIte,Q1,Q2,Q3,Q4,reduceCtorEq,Q5,Q6,Q7,h1]
  simp[cL,show¬lo<=x from h1]
def AF (a b most:Int):Bool:=cL a 0 most&&cL b a most
theorem IV (a b most:Int) {h:Heap} (hk:HOK h):CW CC 132 [.agg ⟨[.int .i64 a, .int .i64 b]⟩, .int .i64 most] h fun r h'=>r= .bool (AF a b most)/\ Fr h h':=by
 refine aw Tryz.f132 (by kernel_rfl) (by kernel_rfl) rfl rfl ?_
 simp only[Tryz.f132]
 have f1:Fr h (h.alloc (.row [.int .i64 a, .int .i64 b] 0 true)):=(Fr.refl hk).alloc _
 cases h1:cL a 0 most with
 |false=>
  simp(maxDischargeDepth:=30)only[AA,↓reduceIte,Q1,Q2,Q3,Q4,reduceCtorEq,Q5,Q6,Q7,iR,iQ,cS,hk,MW,h1]
  exact⟨by unfold AF;rw[h1];rfl,f1⟩
 |true=>
  simp(maxDischargeDepth:=30)only[AA,↓reduceIte,Q1,Q2,Q3,Q4,reduceCtorEq,Q5,Q6,Q7,iR,iQ,cS,hk,MW,h1]
  exact⟨by unfold AF;rw[h1];rfl,f1⟩
end Go.Am

namespace Go.Am
open Go Go.Proofs
def wF:=A2 @cG<|A2 @cS<|A2 @cA<|A2 @bJ<|A2 @aV<|A2 @ba<|A2 @bm @bh
def ww:=A2 @Li<|A2 @YK<|A2 @Bs<|A2 @vq<|A2 @lJ<|A2 @zx<|A2 @qJ @zm
structure Sp where
 lo:Int
 hi:Int
def Sp.cells (x:Sp):List Value:=[.int .i64 x.lo, .int .i64 x.hi]
theorem Sp.len (x:Sp):x.cells.length=2:=rfl
structure CoatC where
 need:Int
 peel:Int
def CoatC.cells (x:CoatC):List Value:=[.int .i64 x.need, .int .i64 x.peel]
theorem CoatC.len (x:CoatC):x.cells.length=2:=rfl
structure LPair where
 l:Int
 r:Int
 lo:Int
 hi:Int
def LPair.cells (x:LPair):List Value:=[.int .i64 x.l, .int .i64 x.r, .int .i64 x.lo, .int .i64 x.hi]
theorem LPair.len (x:LPair):x.cells.length=4:=rfl
structure WordV where
 signs:Value
 cuts:Value
 free:Bool
def WordV.cells (x:WordV):List Value:=[x.signs,x.cuts, .bool x.free]
theorem WordV.len (x:WordV):x.cells.length=3:=rfl
structure StrokeV where
 board:Int
 round:Bool
 lo:Int
 hi:Int
 needs:Value
def StrokeV.cells (x:StrokeV):List Value:=[.int .i64 x.board, .bool x.round, .int .i64 x.lo, .int .i64 x.hi,x.needs]
theorem StrokeV.len (x:StrokeV):x.cells.length=5:=rfl
structure Tin where
 a:Sp
 b:Sp
 c:Sp
def Tin.cells (x:Tin):List Value:=[.int .i64 x.a.lo, .int .i64 x.a.hi, .int .i64 x.b.lo, .int .i64 x.b.hi, .int .i64 x.c.lo, .int .i64 x.c.hi]
theorem Tin.len (x:Tin):x.cells.length=6:=rfl
structure Board where
 L:Int
 F:Int
 lo:Int
 hi:Int
 ow:Int
structure Tar where
 kind:Int
 coins:Int
 units:Int
 rule:Int
 each:Bool
def Board.cells (b:Board):List Value:=[.int .i64 b.L, .int .i64 b.F, .int .i64 b.lo, .int .i64 b.hi, .int .i64 b.ow]
def Tar.cells (t:Tar):List Value:=[.int .i64 t.kind, .int .i64 t.coins, .int .i64 t.units, .int .i64 t.rule, .bool t.each]
theorem Board.len (b:Board):b.cells.length=5:=rfl
theorem Tar.len (b:Tar):b.cells.length=5:=rfl
structure TintS where
 o1:Int
 o2:Int
 o3:Int
 f1:Sp
 f2:Sp
 f3:Sp
 years:Sp
 off:Int
 tins:List Tin
theorem ij {α:Type} {xs:List α} {g:α ->Bool} {n:Nat} (hn:n=xs.length) (h: ∀(j:Nat) x,j<n ->xs[j]? =some x ->g x=false):xs.any g=false:=by
 subst hn
 rw[List.any_eq_false]
 intro x hx
 obtain⟨j,hj⟩:=List.mem_iff_getElem?.1 hx
 simp[h j x (List.getElem?_eq_some_iff.1 hj).1 hj]
theorem eZ {α:Type} {xs:List α} {g:α ->Bool} {i:Nat} {x:α} (hx:xs[i]? =some x) (hg:g x=false) (h: ∀(j:Nat) y,j<i ->xs[j]? =some y ->g y=false): ∀(j:Nat) y,j<i+1 ->xs[j]? =some y ->g y=false:=by
 intro j y hj hy
 by_cases hji:j<i
 ·exact h j y hji hy
 ·have:j=i:=by omega
  subst this
  rw[hx]at hy;simp at hy;subst hy;exact hg
set_option maxRecDepth 10000 in
theorem JN {h:Heap} (hk:HOK h) {v fv:Value} {xs:List Int} (g:Int ->Bool) (hv:LS h v xs aQ 1) (hl:xs.length<=1000)
  (hcl: ∀h1,Fr h h1 -> ∀x∈xs,∃h2,iy CC fv [.int .i64 x] h1=some (.ret (.bool (g x)) h2 none)/\ Fr h1 h2):
  CW CC 199 [v,fv] h fun r h'=>(∃i:Int,r= .int .i64 i/\ decide (i>=0)=xs.any g)/\ Fr h h':=by
 obtain⟨p,c,rfl,hx⟩:=hv.open
 refine aw Tryz.f199 (by kernel_rfl) (by kernel_rfl) rfl rfl ?_
 simp only[Tryz.f199]
 simp(maxDischargeDepth:=30)only[AA,↓reduceIte,Q1,Q2,Q3,Q4,reduceCtorEq,Q5,Q6,Q7,wF,hk]
 refine eT xs.length (fun m f h'=> ∃i,i<=xs.length/\ m=xs.length -i/\ f 0= .slice p xs.length c/\ f 1=fv/\ f 7= .int .i64 xs.length/\ f 8= .int .i64 i/\ (∀(j:Nat) x,j<i ->xs[j]? =some x ->g x=false)/\ Fr h h')
  ⟨0,by omega,by omega,by simp[aa,aW],by simp[aa,aW],by simp[aa,aW],by simp[aa],fun j x hj=>by omega,Fr.refl hk⟩ ?_
 rintro m f h' ⟨i,hi,rfl,f0,f1,f7,f8,hall,fr⟩ ih
 have hk':=fr.ok
 by_cases hil:i<xs.length
 ·have hlt:=cX hil
  obtain⟨x,g1⟩: ∃x,xs[i]? =some x:=⟨_,List.getElem?_eq_getElem hil⟩
  rcases hx with hx|⟨b,o,sp,row,rfl,hr,hx⟩
  ·rw[hx]at hil;simp at hil
  have k1:row[o+i]? =some (.int .i64 x):=by simpa[aQ,jB]using(hx _ _ g1).2 0 (by omega)
  have hr':=fr.row' hk hr
  obtain⟨h2,e2,fr2⟩:=hcl h' fr x (List.mem_of_getElem? g1)
  cases hg:g x with
  |true=>
   rw[hg]at e2
   simp(maxDischargeDepth:=30)only[AA,↓reduceIte,Q1,Q2,Q3,Q4,reduceCtorEq,Q5,Q6,Q7,wF,hk',f0,f1,f7,f8,hlt,hil,hr',Nat.mul_one,k1,e2]
   refine⟨⟨_,rfl,?_⟩,fr.trans fr2⟩
   rw[show xs.any g=true from List.any_eq_true.2 ⟨x,List.mem_of_getElem? g1,hg⟩];simp
  |false=>
   rw[hg]at e2
   have w:=bp hil hl
   simp(maxDischargeDepth:=30)only[AA,↓reduceIte,Q1,Q2,Q3,Q4,reduceCtorEq,Q5,Q6,Q7,wF,hk',f0,f1,f7,f8,hlt,hil,hr',Nat.mul_one,k1,e2,w]
   refine ih (xs.length -(i+1)) _ _ (by omega) ?_
   exact⟨i+1,by omega,rfl,by simp[aa,f0],by simp[aa,f1],by simp[aa,f7],by simp[aa],eZ g1 hg hall,fr.trans fr2⟩
 ·have he:i=xs.length:=by omega
  subst he
  have hlt:=dL xs.length
  simp(maxDischargeDepth:=30)only[AA,↓reduceIte,Q1,Q2,Q3,Q4,reduceCtorEq,Q5,Q6,Q7,wF,hk',f0,f1,f7,f8,hlt]
  refine⟨⟨_,rfl,?_⟩,fr⟩
  rw[ij rfl hall];simp
theorem fX {h:Heap} (hk:HOK h) {v fv:Value} {xs:List Int} (g:Int ->Bool) (hv:LS h v xs aQ 1) (hl:xs.length<=1000)
  (hcl: ∀h1,Fr h h1 -> ∀x∈xs,∃h2,iy CC fv [.int .i64 x] h1=some (.ret (.bool (g x)) h2 none)/\ Fr h1 h2):
  CW CC 105 [v,fv] h fun r h'=>r= .bool (xs.any g)/\ Fr h h':=by
 obtain⟨r,h1,e,⟨i,rfl,hi⟩,fr⟩:=JN hk g hv hl hcl
 refine aw Tryz.f105 (by kernel_rfl) (by kernel_rfl) rfl rfl ?_
 simp only[Tryz.f105]
 simp(maxDischargeDepth:=30)only[AA,↓reduceIte,Q1,Q2,Q3,Q4,reduceCtorEq,Q5,Q6,Q7,fT,hk,e]
 exact⟨by rw[hi],fr⟩
set_option maxRecDepth 10000 in
theorem JK {h:Heap} (hk:HOK h) {v fv:Value} {xs:List Tin} (g:Tin ->Bool) (hv:LS h v xs Tin.cells 6) (hl:xs.length<=1000)
  (hcl: ∀h1,Fr h h1 -> ∀x∈xs,∃h2,iy CC fv [.agg ⟨x.cells⟩] h1=some (.ret (.bool (g x)) h2 none)/\ Fr h1 h2):
  CW CC 231 [v,fv] h fun r h'=>(∃i:Int,r= .int .i64 i/\ decide (i>=0)=xs.any g)/\ Fr h h':=by
 obtain⟨p,c,rfl,hx⟩:=hv.open
 refine aw Tryz.f231 (by kernel_rfl) (by kernel_rfl) rfl rfl ?_
 simp only[Tryz.f231]
 simp(maxDischargeDepth:=30)only[AA,↓reduceIte,Q1,Q2,Q3,Q4,reduceCtorEq,Q5,Q6,Q7,ww,hk]
 refine eT xs.length (fun m f h'=> ∃i,i<=xs.length/\ m=xs.length -i/\ f 0= .slice p xs.length c/\ f 1=fv/\ f 7= .int .i64 xs.length/\ f 8= .int .i64 i/\ (∀(j:Nat) x,j<i ->xs[j]? =some x ->g x=false)/\ Fr h h')
  ⟨0,by omega,by omega,by simp[aa,aW],by simp[aa,aW],by simp[aa,aW],by simp[aa],fun j x hj=>by omega,Fr.refl hk⟩ ?_
 rintro m f h' ⟨i,hi,rfl,f0,f1,f7,f8,hall,fr⟩ ih
 have hk':=fr.ok
 by_cases hil:i<xs.length
 ·have hlt:=cX hil
  obtain⟨x,g1⟩: ∃x,xs[i]? =some x:=⟨_,List.getElem?_eq_getElem hil⟩
  rcases hx with hx|⟨b,o,sp,row,rfl,hr,hx⟩
  ·rw[hx]at hil;simp at hil
  have k1:aA row (o+i*6) 6=some (x.cells):=(hx i x g1).1
  have hr':=fr.row' hk hr
  obtain⟨h2,e2,fr2⟩:=hcl h' fr x (List.mem_of_getElem? g1)
  cases hg:g x with
  |true=>
   rw[hg]at e2
   simp(maxDischargeDepth:=30)only[AA,↓reduceIte,Q1,Q2,Q3,Q4,reduceCtorEq,Q5,Q6,Q7,ww,hk',f0,f1,f7,f8,hlt,hil,hr',Nat.mul_one,k1,e2]
   refine⟨⟨_,rfl,?_⟩,fr.trans fr2⟩
   rw[show xs.any g=true from List.any_eq_true.2 ⟨x,List.mem_of_getElem? g1,hg⟩];simp
  |false=>
   rw[hg]at e2
   have w:=bp hil hl
   simp(maxDischargeDepth:=30)only[AA,↓reduceIte,Q1,Q2,Q3,Q4,reduceCtorEq,Q5,Q6,Q7,ww,hk',f0,f1,f7,f8,hlt,hil,hr',Nat.mul_one,k1,e2,w]
   refine ih (xs.length -(i+1)) _ _ (by omega) ?_
   exact⟨i+1,by omega,rfl,by simp[aa,f0],by simp[aa,f1],by simp[aa,f7],by simp[aa],eZ g1 hg hall,fr.trans fr2⟩
 ·have he:i=xs.length:=by omega
  subst he
  have hlt:=dL xs.length
  simp(maxDischargeDepth:=30)only[AA,↓reduceIte,Q1,Q2,Q3,Q4,reduceCtorEq,Q5,Q6,Q7,ww,hk',f0,f1,f7,f8,hlt]
  refine⟨⟨_,rfl,?_⟩,fr⟩
  rw[ij rfl hall];simp
theorem CQ {h:Heap} (hk:HOK h) {v fv:Value} {xs:List Tin} (g:Tin ->Bool) (hv:LS h v xs Tin.cells 6) (hl:xs.length<=1000)
  (hcl: ∀h1,Fr h h1 -> ∀x∈xs,∃h2,iy CC fv [.agg ⟨x.cells⟩] h1=some (.ret (.bool (g x)) h2 none)/\ Fr h1 h2):
  CW CC 133 [v,fv] h fun r h'=>r= .bool (xs.any g)/\ Fr h h':=by
 obtain⟨r,h1,e,⟨i,rfl,hi⟩,fr⟩:=JK hk g hv hl hcl
 refine aw Tryz.f133 (by kernel_rfl) (by kernel_rfl) rfl rfl ?_
 simp only[Tryz.f133]
 simp(maxDischargeDepth:=30)only[AA,↓reduceIte,Q1,Q2,Q3,Q4,reduceCtorEq,Q5,Q6,Q7,fT,hk,e]
 exact⟨by rw[hi],fr⟩
end Go.Am

namespace Go.Am
open Go Go.Proofs
def TintS.cells (s:TintS) (v:Value):List Value:=[.int .i64 s.o1, .int .i64 s.o2, .int .i64 s.o3, .int .i64 s.f1.lo, .int .i64 s.f1.hi, .int .i64 s.f2.lo, .int .i64 s.f2.hi, .int .i64 s.f3.lo, .int .i64 s.f3.hi, .int .i64 s.years.lo, .int .i64 s.years.hi, .int .i64 s.off,v]
def Sp.ok (x:Sp) (most:Int):Bool:=AF x.lo x.hi most
def TintS.old (s:TintS):Nat ->Int
 |0=>s.o1
 |1=>s.o2
 |_=>s.o3
def TintS.fade (s:TintS):Nat ->Sp
 |0=>s.f1
 |1=>s.f2
 |_=>s.f3
def Tin.pig (t:Tin):Nat ->Sp
 |0=>t.a
 |1=>t.b
 |_=>t.c
def TintS.okP (s:TintS) (p:Nat):Bool:=cL (s.old p) 0 99&&((s.fade p).ok 9&&s.tins.all fun t=>(t.pig p).ok 99)
end Go.Am

namespace Go.Am
open Go Go.Proofs
noncomputable def Heap.ex (h:Heap) (l:List AObj):Heap:=l.foldl Heap.alloc h
theorem sZ (h:Heap) (x:AObj) (l:List AObj):h.ex (x::l)=(h.alloc x).ex l:=rfl
theorem Tm (h:Heap) (x:AObj):h.alloc x=h.ex [x]:=rfl
theorem Tn (h:Heap) (l m:List AObj):(h.ex l).ex m=h.ex (l++m):=by
 unfold Heap.ex;rw[List.foldl_append]
theorem bc (h:Heap) (l:List AObj):(h.ex l).next=h.next+l.length:=by
 induction l generalizing h with
 |nil=>rfl
 |cons x l ih=>rw[sZ,ih];simp;omega
theorem aI {a h:Heap} (l:List AObj) (f:Fr a h):Fr a (h.ex l):=by
 induction l generalizing h with
 |nil=>exact f
 |cons x l ih=>exact ih (f.alloc x)
theorem ex_ok {h:Heap} (l:List AObj) (hk:HOK h):HOK (h.ex l):=(aI l (Fr.refl hk)).ok
theorem gz {h:Heap} {l:List AObj} {i:Nat} (hi:i<h.next):(h.ex l).get i=h.get i:=by
 induction l generalizing h with
 |nil=>rfl
 |cons x l ih=>rw[sZ,ih (by simp;omega)];exact cP x hi
theorem jd {h:Heap} {l:List AObj} {n i:Nat} (hn:h.next=n) (hi:i<l.length):(h.ex l).get (n+i)=l[i]? :=by
 subst hn
 induction l generalizing h i with
 |nil=>simp at hi
 |cons x l ih=>
  rw[sZ]
  cases i with
  |zero=>rw[gz (by simp)];simp
  |succ i=>have:= @ih (h.alloc x) i (by simpa using hi);rw[show h.next+(i+1)=(h.alloc x).next+i by simp;omega,this];rfl
theorem dG {h:Heap} {x:AObj} {l:List AObj} {n:Nat} (hn:h.next=n):(h.ex (x::l)).get n=some x:=jd (i:=0) hn (by simp)
theorem rx_lt {h:Heap} {l:List AObj} {i:Nat} (hi:i<h.next):rowAt (h.ex l) i=rowAt h i:=by unfold rowAt;rw[gz hi]
theorem jy {h:Heap} {l:List AObj} {n i:Nat} (hn:h.next=n) (hi:i<l.length):rowAt (h.ex l) (n+i)=ae l[i]? Dh:=by unfold rowAt;rw[jd hn hi]
theorem aZ {h:Heap} {c:List Value} {s:Nat} {o:Bool} {l:List AObj} {n:Nat} (hn:h.next=n):rowAt (h.ex (.row c s o::l)) n=some c:=by unfold rowAt;rw[dG hn];rfl
theorem Ms (c:List Value) (s:Nat) (o:Bool):Dh (.row c s o)=some c:=rfl
theorem Dv {α:Type} (l:NT α) (o:Option α) (r:NT α):(NT.node l o r).left=l:=rfl
theorem DC {α:Type} (l:NT α) (o:Option α) (r:NT α):(NT.node l o r).here=o:=rfl
theorem AU {α:Type} (l:NT α) (o:Option α) (r:NT α):(NT.node l o r).right=r:=rfl
theorem GT {α:Type} (f g:Nat) (a b:α): ∀(t:NT α) (n m:Nat),n≠m ->n<f ->m<g ->NT.put g (NT.put f t n a) m b=NT.put f (NT.put g t m b) n a:=by
 induction f generalizing g with
 |zero=>intro t n m _ h;omega
 |succ f ih=>
  cases g with
  |zero=>intro t n m _ _ h;omega
  |succ g=>
   intro t n m hne hf hg
   cases n with
   |zero=>
    cases m with
    |zero=>exact absurd rfl hne
    |succ m=>simp only[NT.put_zero,NT.put_succ];split<;>rfl
   |succ n=>
    cases m with
    |zero=>simp only[NT.put_zero,NT.put_succ];split<;>rfl
    |succ m=>
     simp only[NT.put_succ]
     by_cases h1:n % 2=0<;>by_cases h2:m % 2=0<;>simp only[h1,h2,if_true,if_false,Dv,AU,DC]
     ·rw[ih g t.left (n/2) (m/2) (by omega) (by omega) (by omega)]
     ·rw[ih g t.right (n/2) (m/2) (by omega) (by omega) (by omega)]
theorem KY {α:Type} (f:Nat) (a b:α): ∀(t:NT α) (n:Nat),n<f ->NT.put f (NT.put f t n a) n b=NT.put f t n b:=by
 induction f with
 |zero=>intro t n h;omega
 |succ f ih=>
  intro t n hf
  cases n with
  |zero=>rfl
  |succ n=>
   simp only[NT.put_succ]
   by_cases h1:n % 2=0<;>simp only[h1,if_true,if_false,Dv,AU,DC]
   ·rw[ih t.left (n/2) (by omega)]
   ·rw[ih t.right (n/2) (by omega)]
theorem set_comm (h:Heap) {i j:Nat} (x y:AObj) (hij:i≠j):(h.set i x).set j y=(h.set j y).set i x:=by
 unfold Heap.set NT.ins;simp only;rw[GT _ _ _ _ _ _ _ hij (by omega) (by omega)]
theorem iM (h:Heap) (i:Nat) (x y:AObj):(h.set i x).set i y=h.set i y:=by
 unfold Heap.set NT.ins;simp only;rw[KY _ _ _ _ _ (by omega)]
theorem NM (h:Heap) (x y:AObj) {j:Nat} (hj:j≠h.next):(h.alloc x).set j y=(h.set j y).alloc x:=by
 unfold Heap.alloc Heap.set NT.ins;simp only;rw[GT _ _ _ _ _ _ _ (by omega) (by omega) (by omega)]
theorem NN (h:Heap) (x y:AObj):(h.alloc x).set h.next y=h.alloc y:=by
 unfold Heap.alloc Heap.set NT.ins;simp only;rw[KY _ _ _ _ _ (by omega)]
theorem Tk {h:Heap} {l:List AObj} {j:Nat} (y:AObj) (hj:j<h.next):(h.ex l).set j y=(h.set j y).ex l:=by
 induction l generalizing h with
 |nil=>rfl
 |cons x l ih=>rw[sZ,ih (by simp;omega),NM h x y (by omega)];rfl
theorem Tl {h:Heap} {l:List AObj} {n i:Nat} (y:AObj) (hn:h.next=n) (hi:i<l.length):(h.ex l).set (n+i) y=h.ex (l.set i y):=by
 subst hn
 induction l generalizing h i with
 |nil=>simp at hi
 |cons x l ih=>
  cases i with
  |zero=>rw[sZ,Tk y (by simp)];show Heap.ex ((h.alloc x).set h.next y) l=_;rw[NN];rfl
  |succ i=>have:= @ih (h.alloc x) i (by simpa using hi);rw[sZ,show h.next+(i+1)=(h.alloc x).next+i by simp;omega,this];rfl
theorem Wj {h:Heap} {x:AObj} {l:List AObj} {n:Nat} (y:AObj) (hn:h.next=n):(h.ex (x::l)).set n y=h.ex (y::l):=Tl (i:=0) y hn (by simp)
theorem Yv {a c:Nat} (h:0<c):a<a+c:=Nat.lt_add_of_pos_right h
theorem Yw {a b c:Nat} (h:a<b):a<b+c:=Nat.lt_add_right c h
theorem X6 {α:Type} (a b:α) (l:List α):(a::l).set 0 b=b::l:=rfl
theorem X5 {α:Type} (a b:α) (l:List α) (n:Nat):(a::l).set (n+1) b=a::l.set n b:=rfl
theorem Fr.S {h h':Heap} (f:Fr h h'):HOK h'/\ (∀i,i<h.next ->h'.get i=h.get i)/\ (∀i,i<h.next ->rowAt h' i=rowAt h i)/\ ∀i,i<h.next ->i<h'.next:=
 ⟨f.ok,f.get,fun _ hi=>f.row hi,fun _ hi=>Nat.lt_of_lt_of_le hi f.next⟩
def XH:=A2 @Tm<|A2 @Tn<|A2 @bc<|A2 @ex_ok<|A2 @gz<|A2 @jd<|A2 @dG<|A2 @rx_lt<|A2 @jy<|A2 @aZ<|A2 @Ms<|A2 @Tk<|A2 @Tl<|A2 @Wj<|A2 @Yv<|A2 @Yw<|A2 @X6<|A2 @X5 @Nat.add_lt_add_iff_left
def Ag (ws:List Nat) (g f:Nat ->Value):Prop:= ∀t,t∉ws ->g t=f t
def NE:=A2 (@List.mem_cons Nat)<|A2 (@List.not_mem_nil Nat)<|A2 @or_false<|A2 @false_or @or_self
theorem Ag.refl (ws:List Nat) (f:Nat ->Value):Ag ws f f:=fun _ _=>rfl
theorem aae {ws:List Nat} {g f:Nat ->Value} {d:Nat} {v:Value} (hd:d∈ws):Ag ws (upd g d v) f↔Ag ws g f:=by
 have: ∀t,t∉ws ->upd g d v t=g t:=fun t ht=>by rw[aa,if_neg (by rintro rfl;exact ht hd)]
 exact⟨fun h t ht=>(this t ht).symm.trans (h t ht),fun h t ht=>(this t ht).trans (h t ht)⟩
theorem Ag.r {ws:List Nat} {g f:Nat ->Value} (h:Ag ws g f): ∀t,t∉ws ->g t=f t:=h
theorem Ag.thru {ws ws2:List Nat} {g f' f:Nat ->Value} (h:Ag ws2 g f') (hs:(ws2.all fun t=>ws.contains t)=true) (h2:Ag ws f' f):Ag ws g f:=fun t ht=>
 (h t fun hm=>ht (by have:=List.all_eq_true.1 hs t hm;simpa using this)).trans (h2 t ht)
theorem SL.other {N:Nat} {h:Heap} {v:Value} {l:List Value} {s n m:Nat} {x:AObj} (q:SL N h v l s n) (hg:h.get m=some x) (hx: ∀c,x≠ .row c s true):ay v≠some m:=by
 rcases q with⟨rfl,_,_⟩|⟨b,rfl,_,_,h3,_⟩
 ·simp[ay]
 ·intro e
  simp[ay]at e
  subst e
  rw[h3]at hg
  simp at hg
  exact hx _ hg.symm
def AG:=A2 @aae<|A2 (@List.mem_cons Nat)<|A2 (@List.not_mem_nil Nat)<|A2 @true_or<|A2 @or_true<|A2 @false_or @or_false
section
variable {C:Ctx} {rd:Option Nat} {body:Code} {k:List Item} {N:Nat} {f:Nat ->Value} {D:List Deferred} {p:Option Value} {h:Heap} {Q:FEnd ->FrS ->Heap ->Prop}
theorem dN (ws:List Nat) (ti n:Nat) (I:Nat ->(Nat ->Value) ->Heap ->Prop) (h0:f ti= .int .i64 0) (hI:I 0 f h)
  (step: ∀i g h,i<n ->Ag ws g f ->g ti= .int .i64 (i:Int) ->I i g h ->(∀g' h',Ag ws g' f ->g' ti= .int .i64 ((i+1:Nat):Int) ->I (i+1) g' h' ->W (bH C rd (.inLoop body::k) ⟨T N g',D,p⟩ h') Q) ->W (bH C rd (.code body:: .inLoop body::k) ⟨T N g,D,p⟩ h) Q)
  (fin: ∀g h,Ag ws g f ->g ti= .int .i64 (n:Int) ->I n g h ->W (bH C rd (.code body:: .inLoop body::k) ⟨T N g,D,p⟩ h) Q):
  W (bH C rd (.inLoop body::k) ⟨T N f,D,p⟩ h) Q:=by
 refine eT n (fun m g h=> ∃i,i<=n/\ m=n -i/\ Ag ws g f/\ g ti= .int .i64 (i:Int)/\ I i g h) ⟨0,by omega,by omega,Ag.refl _ _,h0,hI⟩ ?_
 rintro m g h ⟨i,hi,rfl,ag,gi,hI⟩ ih
 by_cases hil:i<n
 ·exact step i g h hil ag gi hI fun g' h' ag' gi' hI'=>ih (n -(i+1)) g' h' (by omega) ⟨i+1,by omega,rfl,ag',gi',hI'⟩
 ·have:i=n:=by omega
  subst this
  exact fin g h ag gi hI
end
end Go.Am
