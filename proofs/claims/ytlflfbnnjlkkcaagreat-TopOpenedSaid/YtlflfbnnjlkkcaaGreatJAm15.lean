/- Parts Am15, Am16, Am17, Am18 of the abstract machine over this program, joined: what each part says stands at its head. -/
import Derived.Test.YtlflfbnnjlkkcaaGreatJAm13
import Derived.Defers
set_option linter.unusedSimpArgs false
set_option linter.unusedVariables false
set_option linter.defProp false
namespace Go.Am
open Go
noncomputable def jI (C:Ctx) (o:Oper):Bool:=o.op.operands.toList.all (BK C)
noncomputable def uz (C:Ctx) (gd:List Oper ->Bool) (ops:List Oper) (draw:Bool):Bool:=
 ops.all (jI C)&&(match draw with|true=>gd ops|false=>true)
noncomputable def cH (C:Ctx) (gd:List Oper ->Bool):Code ->Bool
 | .seq a b=>cH C gd a&&cH C gd b
 | .cond c a b=>BK C c&&(cH C gd a&&cH C gd b)
 | .block _ c=>cH C gd c
 | .loop c=>cH C gd c
 | .scope c=>cH C gd c
 | .region _ ops draw=>uz C gd ops.toList draw
 | .rangeFunc f _ a c=>BK C f&&(cH C gd a&&cH C gd c)
 |_=>true
def goodP (C:Ctx) (gd:List Oper ->Bool) (c:Code):Prop:=cH C gd c=true
def vD (C:Ctx) (gd:List Oper ->Bool):Item ->Prop
 | .code c=>cH C gd c=true
 | .inLoop c=>cH C gd c=true
 |_=>True
def goodItems (C:Ctx) (gd:List Oper ->Bool) (k:List Item):Prop:= ∀it∈k,vD C gd it
theorem goodItems.cons {C:Ctx} {gd:List Oper ->Bool} {it:Item} {k:List Item} (h:vD C gd it) (hk:goodItems C gd k):goodItems C gd (it::k):=by
 intro x hx
 rcases List.mem_cons.1 hx with rfl|hx
 ·exact h
 ·exact hk x hx
theorem goodItems.tail {C:Ctx} {gd:List Oper ->Bool} {it:Item} {k:List Item} (hk:goodItems C gd (it::k)):goodItems C gd k:=fun x hx=>hk x (List.mem_cons_of_mem _ hx)
theorem goodItems.head {C:Ctx} {gd:List Oper ->Bool} {it:Item} {k:List Item} (hk:goodItems C gd (it::k)):vD C gd it:=hk it List.mem_cons_self
theorem rE {C:Ctx} {gd:List Oper ->Bool} {id:Nat}: ∀{k k':List Item},exitTo id k=some k' ->goodItems C gd k ->goodItems C gd k'
 |[],k',h,_=>by simp[exitTo]at h
 |it::k,k',h,hk=>by
  by_cases hb: ∃i,it= .inBlock i
  ·obtain⟨i,rfl⟩:=hb
   simp only[exitTo]at h
   split at h
   ·simp at h;subst h;exact hk.tail
   ·exact rE h hk.tail
  ·have:exitTo id (it::k)=exitTo id k:=by cases it<;>first|rfl|(exact absurd ⟨_,rfl⟩ hb)
   rw[this]at h
   exact rE h hk.tail
def bW (b:Frame) (tmps:Array Value) (ds:List Deferred) (todo:List Item):Frame:=
 {fn:=b.fn,tmps,todo,defers:=ds,mode:= .run,kind:=b.kind,roundOf:=b.roundOf}
def GRel (C:Ctx) (μ:Mu):Prop:= ∀g,g<C.P.globals.size -> ∃e,μ (g+1)=some e/\ e.blk=g/\ e.base=0
theorem GRel.mono {C:Ctx} {μ μ':Mu} (hle:μ.le μ') (h:GRel C μ):GRel C μ':=fun g hg=>let⟨e,a,b⟩:=h g hg;⟨e,hle _ _ a,b⟩
theorem B8 {C:Ctx} {μ:Mu} {τ:List (List Value)} {tmps:Array Value} {b:Frame} {ds:List Deferred} {todo:List Item} (hg:GRel C μ) (ht:TRel μ τ tmps) {x:Operand} (hx:BK C x=true):
  VRel μ (ev τ x) ((bW b tmps ds todo).eval x):=by
 cases x with
 |tmp t=>exact(ht t).1
 |const v=>exact .ofPlain hx
 |global g=>
  obtain⟨e,h1,h2,h3⟩:=hg g (Nat.le_of_ble_eq_true hx)
  exact .ptr _ _ ⟨rfl,e,h1,h2.symm,by simp[h3]⟩
 |func f=>exact .func _ _ _ _ _ _ (.func f) rfl rfl (fun i x X a _=>by simp at a) (fun i x X a _=>by simp at a)
def DRel (μ:Mu) (d D:Deferred):Prop:=
 match d.target with
 | .collected b=> ∃e,μ b=some e/\ D.target= .collected e.blk
 | .fn f cap=> ∃g Cap,D.target= .fn g Cap/\ FnRel μ f g/\ VRels μ cap.toList Cap.toList/\ VRels μ d.args.toList D.args.toList
 |_=>False
theorem FnRel.mono' {μ μ':Mu} (hle:μ.le μ') {f g:Fn} (h:FnRel μ f g):FnRel μ' f g:=by
 cases h with
 |func f=>exact .func f
 |method n=>exact .method n
 |yield l e hl=>exact .yield l e (hle _ _ hl)
theorem DRel.mono {μ μ':Mu} (hle:μ.le μ') {d D:Deferred} (h:DRel μ d D):DRel μ' d D:=by
 obtain⟨t,a⟩:=d
 cases t<;>simp only[DRel]at h⊢
 ·obtain⟨g,Cap,h1,h2,h3,h4⟩:=h
  exact⟨g,Cap,h1,h2.mono' hle,h3.mono hle,h4.mono hle⟩
 ·obtain⟨e,h1,h2⟩:=h
  exact⟨e,hle _ _ h1,h2⟩
def DRels (μ:Mu):List Deferred ->List Deferred ->Prop
 |[],[]=>True
 |d::ds,D::DS=>DRel μ d D/\ DRels μ ds DS
 |_,_=>False
theorem DRels.mono {μ μ':Mu} (hle:μ.le μ'): ∀{ds DS:List Deferred},DRels μ ds DS ->DRels μ' ds DS
 |[],[],_=>trivial
 |_::_,_::_,h=>⟨h.1.mono hle,DRels.mono hle h.2⟩
 |[],_::_,h=>h.elim
 |_::_,[],h=>h.elim
theorem DRels.append {μ:Mu}: ∀{ds DS es ES:List Deferred},DRels μ ds DS ->DRels μ es ES ->DRels μ (ds++es) (DS++ES)
 |[],[],_,_,_,h=>h
 |_::_,_::_,_,_,h,h'=>⟨h.1,DRels.append h.2 h'⟩
 |[],_::_,_,_,h,_=>h.elim
 |_::_,[],_,_,h,_=>h.elim
theorem DRels.nil_inv {μ:Mu} {DS:List Deferred} (h:DRels μ [] DS):DS=[]:=by
 cases DS with
 |nil=>rfl
 |cons _ _=>exact h.elim
def RdRel (μ:Mu):Option Nat ->Option Nat ->Prop
 |none,none=>True
 |some l,some L=> ∃e,μ l=some e/\ L=e.blk
 |_,_=>False
theorem RdRel.mono {μ μ':Mu} (hle:μ.le μ') {a b:Option Nat} (h:RdRel μ a b):RdRel μ' a b:=by
 cases a<;>cases b<;>first|exact h|(obtain⟨e,h1,h2⟩:=h;exact⟨e,hle _ _ h1,h2⟩)
def PanRel (μ:Mu) (kind:CallKind) (cs:List Frame):Option Value ->Prop
 |none=> ∀fr:Frame,fr.kind=kind ->tryRecover fr cs=none
 |some v=>kind= .deferred/\ ∃c rest V,cs=c::rest/\ VRel μ v V/\ c.mode= .panicking [{v:=V,recovered:=false}]
theorem PanRel.mono {μ μ':Mu} (hle:μ.le μ') {k:CallKind} {cs:List Frame} {p:Option Value} (h:PanRel μ k cs p):PanRel μ' k cs p:=by
 cases p with
 |none=>exact h
 |some v=>obtain⟨h1,c,r,V,h2,h3,h4⟩:=h;exact⟨h1,c,r,V,h2,h3.mono hle,h4⟩
def Cs (p p':Option Value) (cs cs':List Frame):Prop:=
 (p'=p/\ cs'=cs) \/(∃v c rest V,p=some v/\ p'=none/\ cs=c::rest/\ c.mode= .panicking [{v:=V,recovered:=false}]/\ cs'={c with mode:= .panicking [{v:=V,recovered:=true}]}::rest)
theorem Cs.refl (p:Option Value) (cs:List Frame):Cs p p cs cs:= .inl ⟨rfl,rfl⟩
theorem Cs.trans {p p' p'':Option Value} {cs cs' cs'':List Frame} (h:Cs p p' cs cs') (h':Cs p' p'' cs' cs''):Cs p p'' cs cs'':=by
 rcases h with⟨rfl,rfl⟩|⟨v,c,r,V,h1,h2,h3,h4,h5⟩
 ·exact h'
 ·rcases h' with⟨rfl,rfl⟩|⟨v',c',r',V',h1',_⟩
  ·exact .inr ⟨v,c,r,V,h1,h2,h3,h4,h5⟩
  ·rw[h2]at h1';simp at h1'
structure St (C:Ctx) (gd:List Oper ->Bool) (w0:World) (μ:Mu) (s:FrS) (h:Heap) (rd:Option Nat) (b:Frame) (tmps:Array Value) (ds:List Deferred) (cs:List Frame) (w:World):Prop where
 H:HRel (goodP C gd) w0 μ h w
 T:TRel μ s.tmps tmps
 D:DRels μ s.defers ds
 R:RdRel μ rd b.roundOf
 N:PanRel μ b.kind cs s.pan
 G:GRel C μ
structure Aft (C:Ctx) (gd:List Oper ->Bool) (w0:World) (μ:Mu) (n:Nat) (s:FrS) (cs:List Frame) (rd:Option Nat) (b:Frame) (s':FrS) (h':Heap) (μ':Mu) (tmps':Array Value) (ds':List Deferred) (cs':List Frame) (w':World):Prop where
 le:μ.le μ'
 fresh:Fresh n μ μ'
 nx:n<=h'.next
 st:St C gd w0 μ' s' h' rd b tmps' ds' cs' w'
 pan:Cs s.pan s'.pan cs cs'
theorem Aft.refl {C:Ctx} {gd:List Oper ->Bool} {w0:World} {μ:Mu} {s:FrS} {h:Heap} {rd:Option Nat} {b:Frame} {tmps:Array Value} {ds:List Deferred} {cs:List Frame} {w:World}
  (S:St C gd w0 μ s h rd b tmps ds cs w):Aft C gd w0 μ h.next s cs rd b s h μ tmps ds cs w:=⟨fun _ _ a=>a,Fresh.refl _ _,Nat.le_refl _,S,Cs.refl _ _⟩
theorem Aft.trans {C:Ctx} {gd:List Oper ->Bool} {w0:World} {μ μ1 μ2:Mu} {n:Nat} {s s1 s2:FrS} {cs cs1 cs2:List Frame} {rd:Option Nat} {b:Frame} {h1 h2:Heap} {t1 t2:Array Value} {d1 d2:List Deferred} {w1 w2:World}
  (A:Aft C gd w0 μ n s cs rd b s1 h1 μ1 t1 d1 cs1 w1) (B:Aft C gd w0 μ1 h1.next s1 cs1 rd b s2 h2 μ2 t2 d2 cs2 w2):Aft C gd w0 μ n s cs rd b s2 h2 μ2 t2 d2 cs2 w2:=
 ⟨A.le.trans B.le,Fresh.trans A.nx A.fresh B.fresh,Nat.le_trans A.nx B.nx,B.st,A.pan.trans B.pan⟩
def zY (j:Option Code) (todo:List Item):Prop:=
 match j with
 |none=>todo=[]
 |some .ret=> ∃k,todo= .code .ret::k
 |some (.exit id)=> ∃k,todo= .code (.exit id)::k/\ exitTo id k=none
 |_=>False
def EndsAt (P:Program) (m:Machine) (b:Frame) (tmps':Array Value) (ds':List Deferred) (cs':List Frame) (w':World) (μ':Mu):FEnd ->Prop
 | .ended j=> ∃todo,zY j todo/\ Steps P m (lone (bW b tmps' ds' todo) cs' w')
 | .panic v=> ∃todo V,VRel μ' v V/\ Steps P m (lone {bW b tmps' ds' todo with mode:= .panicking [{v:=V,recovered:=false}]} cs' w')
theorem EndsAt.of_steps {P:Program} {m m':Machine} {b:Frame} {t:Array Value} {d:List Deferred} {cs:List Frame} {w:World} {μ:Mu} {r:FEnd} (hs:Steps P m m') (h:EndsAt P m' b t d cs w μ r):EndsAt P m b t d cs w μ r:=by
 cases r with
 |ended j=>obtain⟨k,h1,h2⟩:=h;exact⟨k,h1,hs.trans h2⟩
 |panic v=>obtain⟨k,V,h1,h2⟩:=h;exact⟨k,V,h1,hs.trans h2⟩
def Near (r:FEnd) (s s':FrS):Prop:=s'=s \/ ∃v,r= .panic v/\ s.defers=[]/\ s'.defers=[]/\ s'.pan=s.pan
theorem Near.defers {r:FEnd} {s s':FrS} (h:Near r s s'):s'.defers=s.defers:=by
 rcases h with e|⟨v,_,e1,e2,_⟩
 ·rw[e]
 ·rw[e1,e2]
def SelfOK (C:Ctx) (gd:List Oper ->Bool) (w0:World) (self:Self):Prop:=
 ∀rd k s h r s' h',self rd k s h=some (r,s',h') ->goodItems C gd k -> ∀μ w b cs tmps ds,St C gd w0 μ s h rd b tmps ds cs w ->
  ∃s2 μ' w' tmps' ds' cs',Near r s' s2/\ Aft C gd w0 μ h.next s cs rd b s2 h' μ' tmps' ds' cs' w'/\ EndsAt C.P (lone (bW b tmps ds k) cs w) b tmps' ds' cs' w' μ' r
def wM (C:Ctx) (gd:List Oper ->Bool) (w0:World) (μ:Mu) (n:Nat):FRes ->Ending ->World ->Prop
 | .ret v h' _, .returned V,w'=> ∃μ',μ.le μ'/\ Fresh n μ μ'/\ n<=h'.next/\ HRel (goodP C gd) w0 μ' h' w'/\ VRel μ' v V
 | .panic v h', .panicked chain,w'=> ∃μ' V,μ.le μ'/\ Fresh n μ μ'/\ n<=h'.next/\ HRel (goodP C gd) w0 μ' h' w'/\ VRel μ' v V/\ chain=[{v:=V,recovered:=false}]
 |_,_,_=>False
structure Ctx.Ok (C:Ctx) (gd:List Oper ->Bool) (w0:World):Prop where
 ok0:C.Ok0
 F: ∀f fn,C.F.get f=some fn ->C.P.funcs[f]? =some fn/\ fn.name≠ "runtime.NumGoroutine" /\ ∀c,fn.body=some c ->cH C gd c=true
 A: ∀f sp,C.A f=some sp ->(∃fn,C.P.funcs[f]? =some fn/\ fn.name≠ "runtime.NumGoroutine" /\ fn.body.isSome=true)/\
  ∀μ h w args ARGS res,HRel (goodP C gd) w0 μ h w ->GRel C μ ->VRels μ args ARGS.toList ->sp args h=some res ->Calls C.P f ARGS w (wM C gd w0 μ h.next res)
section
variable {P:Program} {b:Frame} {t:Array Value} {d:List Deferred} {k:List Item} {cs:List Frame} {w:World}
theorem U9:Go.step P (lone (bW b t d (.code .skip::k)) cs w)= .next (lone (bW b t d k) cs w):=step_lone_go (by simp[stepG,stepG.exec,bW])
theorem OU {l:Nat}:Go.step P (lone (bW b t d (.code (.label l)::k)) cs w)= .next (lone (bW b t d k) cs w):=step_lone_go (by simp[stepG,stepG.exec,bW])
theorem IS {l:Nat}:Go.step P (lone (bW b t d (.inBlock l::k)) cs w)= .next (lone (bW b t d k) cs w):=step_lone_go (by simp[stepG,stepG.exec,bW])
theorem IR {c:Code}:Go.step P (lone (bW b t d (.inScope c::k)) cs w)= .next (lone (bW b t d k) cs w):=step_lone_go (by simp[stepG,stepG.exec,bW])
theorem XZ {x y:Code}:Go.step P (lone (bW b t d (.code (.seq x y)::k)) cs w)= .next (lone (bW b t d (.code x:: .code y::k)) cs w):=step_lone_go (by simp[stepG,stepG.exec,bW])
theorem OV {l:Nat} {c:Code}:Go.step P (lone (bW b t d (.code (.block l c)::k)) cs w)= .next (lone (bW b t d (.code c:: .inBlock l::k)) cs w):=step_lone_go (by simp[stepG,stepG.exec,bW])
theorem Va {c:Code}:Go.step P (lone (bW b t d (.code (.loop c)::k)) cs w)= .next (lone (bW b t d (.code c:: .inLoop c::k)) cs w):=step_lone_go (by simp[stepG,stepG.exec,bW])
theorem Mg {c:Code}:Go.step P (lone (bW b t d (.inLoop c::k)) cs w)= .next (lone (bW b t d (.code c:: .inLoop c::k)) cs w):=step_lone_go (by simp[stepG,stepG.exec,bW])
theorem OQ {c:Code}:Go.step P (lone (bW b t d (.code (.scope c)::k)) cs w)= .next (lone (bW b t d (.code c:: .inScope c::k)) cs w):=step_lone_go (by simp[stepG,stepG.exec,bW])
theorem Vb {l:Nat} {k':List Item} (h:exitTo l k=some k'):Go.step P (lone (bW b t d (.code (.exit l)::k)) cs w)= .next (lone (bW b t d k') cs w):=step_lone_go (by simp[stepG,stepG.exec,bW,h])
theorem KN {c:Operand} {x y:Code} {u:Bool} (h:(bW b t d (.code (.cond c x y)::k)).eval c= .bool u):
  Go.step P (lone (bW b t d (.code (.cond c x y)::k)) cs w)= .next (lone (bW b t d (.code (if u then x else y)::k)) cs w):=step_lone_go (by
 simp only[bW]at h
 simp[stepG,stepG.exec,bW,h])
theorem Mf {id:Nat} {ops:Array Oper}:Go.step P (lone (bW b t d (.code (.region id ops false)::k)) cs w)= .next (lone (bW b t d (.inRegion ops (List.range ops.size)::k)) cs w):=step_lone_go (by simp[stepG,stepG.exec,bW])
theorem Vc {id:Nat} {ops:Array Oper}:Go.step P (lone (bW b t d (.code (.region id ops true)::k)) cs w)=
  .next (lone (bW b t d (.inRegion ops (Region.schedule (P.follows .mixedOrders) ops (w.tape w.drawn (.order b.fn id)))::k)) cs w.drew):=step_lone_go (by simp[stepG,stepG.exec,bW,choose,Sem.run,Question.forced,Question.cut])
theorem u2 {ops:Array Oper}:Go.step P (lone (bW b t d (.inRegion ops []::k)) cs w)= .next (lone (bW b t d k) cs w):=step_lone_go (by simp[stepG,stepG.exec,bW])
def putT (t:Array Value) (dst:Option Tmp) (v:Value):Array Value:=
 match dst with
 |some d=>t.setIfInBounds d v
 |none=>t
theorem i9 {ops:Array Oper} {i:Nat} {rest:List Nat} (v:Value):(bW b t d (.inRegion ops (i::rest)::k)).finish v=bW b (putT t ((ops[i]?).bind (·.dst)) v) d (.inRegion ops rest::k):=rfl
theorem Da {ops:Array Oper} {i:Nat} {rest:List Nat} {o:Oper} (ho:ops[i]? =some o) (h:Region.wanted o (yielded ops t)=false):
  Go.step P (lone (bW b t d (.inRegion ops (i::rest)::k)) cs w)= .next (lone (bW b (putT t o.dst undef) d (.inRegion ops rest::k)) cs w):=by
 have:=i9 (b:=b) (t:=t) (d:=d) (k:=k) (ops:=ops) (i:=i) (rest:=rest) undef
 rw[ho]at this
 simp only[Option.bind_some]at this
 rw[<-this]
 exact step_lone_go (by simp[stepG,stepG.exec,bW,ho,h])
theorem lD {ops:Array Oper} {i:Nat} {rest:List Nat} {o:Oper} (ho:ops[i]? =some o) (hw:Region.wanted o (yielded ops t)=true) (hd:b.roundOf=none \/ ∀c,o.op≠ .defer c):
  stepG P true {frame:=bW b t d (.inRegion ops (i::rest)::k),callers:=cs,status:= .running,dying:=none} w=
   stepG.apply P true (bW b t d (.inRegion ops (i::rest)::k)) cs none (execOp (bW b t d (.inRegion ops (i::rest)::k)).eval o) w:=by
 rcases hd with hd|hd
 ·simp[stepG,stepG.exec,stepG.oper,Frame.oper?,bW,ho,hw,hd]
 ·cases hr:b.roundOf with
  |none=>simp[stepG,stepG.exec,stepG.oper,Frame.oper?,bW,ho,hw,hr]
  |some l=>
   obtain⟨dst,op,ty,pos,after,guard⟩:=o
   cases op<;>first
    |(exact absurd rfl (hd _))
    |simp[stepG,stepG.exec,stepG.oper,Frame.oper?,bW,ho,hw,hr]
theorem Ay {ops:Array Oper} {i:Nat} {rest:List Nat} {o:Oper} {v:Value} {w':World} (ho:ops[i]? =some o) (hw:Region.wanted o (yielded ops t)=true) (hd:b.roundOf=none \/ ∀c,o.op≠ .defer c)
  (hr:(execOp (bW b t d (.inRegion ops (i::rest)::k)).eval o).run P w= .ok (.value v) w'):
  Go.step P (lone (bW b t d (.inRegion ops (i::rest)::k)) cs w)= .next (lone (bW b (putT t o.dst v) d (.inRegion ops rest::k)) cs w'):=by
 have:=i9 (b:=b) (t:=t) (d:=d) (k:=k) (ops:=ops) (i:=i) (rest:=rest) v
 rw[ho]at this
 simp only[Option.bind_some]at this
 rw[<-this]
 exact step_lone_go (by rw[lD ho hw hd];simp[stepG.apply,hr])
theorem U8 {ops:Array Oper} {i:Nat} {rest:List Nat} {o:Oper} {w':World} (ho:ops[i]? =some o) (hw:Region.wanted o (yielded ops t)=true) (hd:b.roundOf=none \/ ∀c,o.op≠ .defer c)
  (hr:(execOp (bW b t d (.inRegion ops (i::rest)::k)).eval o).run P w= .ok .skip w'):
  Go.step P (lone (bW b t d (.inRegion ops (i::rest)::k)) cs w)= .next (lone (bW b (putT t o.dst undef) d (.inRegion ops rest::k)) cs w'):=by
 have:=i9 (b:=b) (t:=t) (d:=d) (k:=k) (ops:=ops) (i:=i) (rest:=rest) undef
 rw[ho]at this
 simp only[Option.bind_some]at this
 rw[<-this]
 exact step_lone_go (by rw[lD ho hw hd];simp[stepG.apply,hr])
theorem OR {ops:Array Oper} {i:Nat} {rest:List Nat} {o:Oper} {v:Value} {w':World} (ho:ops[i]? =some o) (hw:Region.wanted o (yielded ops t)=true) (hd:b.roundOf=none \/ ∀c,o.op≠ .defer c)
  (hr:(execOp (bW b t d (.inRegion ops (i::rest)::k)).eval o).run P w= .halt (.panic v) w'):
  Go.step P (lone (bW b t d (.inRegion ops (i::rest)::k)) cs w)= .next (lone {bW b t d (.inRegion ops (i::rest)::k)with mode:= .panicking [{v,recovered:=false}]} cs w'):=by
 have e:(bW b t d (.inRegion ops (i::rest)::k)).raise [{v,recovered:=false}]={bW b t d (.inRegion ops (i::rest)::k)with mode:= .panicking [{v,recovered:=false}]}:=rfl
 rw[<-e]
 exact step_lone_go (by rw[lD ho hw hd];simp[stepG.apply,hr])
end
end Go.Am

namespace Go.Am
open Go
def vh (tmps:Array Value):ResultVar ->Sem Value
 | .tmp t=>pure (tmps.getD t undef)
 | .cell a t=>do loadVar t (<-asAddr (tmps.getD a undef))
section
variable {C:Ctx} {gd:List Oper ->Bool} {w0:World} (hOk:C.Ok gd w0) {μ:Mu} {h:Heap} {w:World}
include hOk
theorem GS {good:Code ->Prop} (H:HRel good w0 μ h w) {τ:List (List Value)} {tmps:Array Value} (T:TRel μ τ tmps) {r:ResultVar} {v:Value} (hr:iZ C τ h r=some v):
  ∃V,(vh tmps r).run C.P w= .ok V w/\ VRel μ v V:=by
 cases r with
 |tmp t=>simp[iZ]at hr;subst hr;exact⟨_,rfl,(T t).1⟩
 |cell a t=>
  obtain⟨p,hp,h1⟩:=ab hr
  obtain⟨cells,hc,h2⟩:=ab h1
  have hp:=lM hp
  have ha:=(T a).1
  rw[hp]at ha
  obtain⟨A,hA,sp,e,he,e1,e2⟩:=ha.ptr_inv
  have hA':A=⟨e.blk,e.base+p.off,none⟩:=by obtain⟨b,o,s⟩:=A;simp only at sp e1 e2;subst sp;subst e1;subst e2;rfl
  obtain⟨V,hV,hv⟩:=yM hOk.ok0 H he hc h2
  exact⟨V,by simp[vh,hA,asAddr,hA',hV],hv⟩
theorem vf {good:Code ->Prop} (H:HRel good w0 μ h w) {τ:List (List Value)} {tmps:Array Value} (T:TRel μ τ tmps): ∀{l:List ResultVar} {vs:List Value},aR C τ h l=some vs ->
  ∃VS,(l.mapM (vh tmps)).run C.P w= .ok VS w/\ VRels μ vs VS
 |[],vs,hr=>by
  have:vs=[]:=by simpa[aR,cU]using hr.symm
  subst this
  exact⟨[],by simp, .nil⟩
 |r::l,vs,hr=>by
  have hr:(ae (iZ C τ h r) fun v=>ae (aR C τ h l) fun l=>some (v::l))=some vs:=hr
  obtain⟨v,hv,h1⟩:=ab hr
  obtain⟨vs',hvs,h2⟩:=ab h1
  simp at h2;subst h2
  obtain⟨V,hV,rV⟩:=GS hOk H T hv
  obtain⟨VS,hVS,rVS⟩:=vf H T hvs
  exact⟨V::VS,by simp[List.mapM_cons,hV,hVS], .cons rV rVS⟩
theorem yH {good : Code → Prop} (H : HRel good w0 μ h w) {τ : List (List Value)} {tmps : Array Value} (T : TRel μ τ tmps) {fn : Func} {vs : List Value} (hr : aR C τ h fn.results.toList = some vs) :
    ∃ V, (results fn tmps).run C.P w = .ok V w ∧ VRel μ (cZ vs) V := by
  obtain ⟨VS, hVS, hv⟩ := vf hOk H T hr
  have e : results fn tmps = (do
      let vs ← fn.results.mapM (vh tmps)
      pure (if h : vs.size = 1 then vs[0] else .tuple vs)) := by
    unfold results
    congr 1
  rw [e]
  simp only [Array.mapM_eq_mapM_toList, Sem.run_bind]
  have : ((Functor.map List.toArray (List.mapM (vh tmps) fn.results.toList) : Sem (Array Value))).run C.P w = .ok VS.toArray w := by simp [hVS]
  rw [this]
  simp only [Result.andThen_ok, Sem.run_pure, List.size_toArray]
  cases vs with
  | nil =>
    obtain rfl := hv.nil_inv
    exact ⟨_, rfl, .tup' .nil⟩
  | cons v vs =>
    obtain ⟨V, VS', rfl, h1, h2⟩ := hv.cons_inv
    cases vs with
    | nil =>
      obtain rfl := h2.nil_inv
      exact ⟨V, rfl, h1⟩
    | cons v' vs =>
      obtain ⟨V', VS'', rfl, h3, h4⟩ := h2.cons_inv
      exact ⟨.tuple (V :: V' :: VS'').toArray, by simp, .tup' (.cons h1 (.cons h3 h4))⟩
end
def MRel (μ:Mu) (m:Option Value) (M:FrameMode):Prop:=
 match m with
 |none=>M= .returning
 |some v=> ∃V,VRel μ v V/\ M= .panicking [{v:=V,recovered:=false}]
theorem MRel.mono {μ μ':Mu} (hle:μ.le μ') {m:Option Value} {M:FrameMode} (h:MRel μ m M):MRel μ' m M:=by
 cases m with
 |none=>exact h
 |some v=>obtain⟨V,h1,h2⟩:=h;exact⟨V,h1.mono hle,h2⟩
section
variable {P:Program} {b:Frame} {t:Array Value} {d:List Deferred} {k:List Item} {cs:List Frame} {w:World}
theorem OT {j:Option Code} {todo:List Item} (hr:b.roundOf=none) (hj:j=none \/j=some .ret) (hl:zY j todo):
  Go.step P (lone (bW b t d todo) cs w)= .next (lone {bW b t d todo with mode:= .returning} cs w):=by
 rcases hj with rfl|rfl
 ·have:todo=[]:=hl
  subst this
  exact step_lone_go (by simp[stepG,stepG.exec,bW,hr])
 ·obtain⟨k,rfl⟩:=hl
  exact step_lone_go (by simp[stepG,stepG.exec,bW,hr])
theorem Js {r:FEnd} {m:Option Value} {μ:Mu} {M0:Machine} (hr:b.roundOf=none) (hm:gB r=some m) (he:EndsAt P M0 b t d cs w μ r):
  ∃todo M,MRel μ m M/\ Steps P M0 (lone {bW b t d todo with mode:=M} cs w):=by
 cases r with
 |panic v=>
  simp[gB]at hm;subst hm
  obtain⟨todo,V,h1,h2⟩:=he
  exact⟨todo,_,⟨V,h1,rfl⟩,h2⟩
 |ended j=>
  obtain⟨todo,h1,h2⟩:=he
  have hj:(j=none \/j=some .ret)/\ m=none:=by
   unfold gB at hm
   split at hm<;>simp_all
  obtain⟨hj,rfl⟩:=hj
  exact⟨todo, .returning,rfl,h2.trans (.one (OT hr hj h1))⟩
end
section
variable {C:Ctx} {gd:List Oper ->Bool} {w0:World} (hOk:C.Ok gd w0) {self:Self} (hS:SelfOK C gd w0 self)
include hOk hS
omit hOk hS in
theorem Tr {P:Program} {f:FuncId} {fn:Func} {c:Code} {ARGS:Array Value} {kind:CallKind} (hf:P.funcs[f]? =some fn) (hc:fn.body=some c):
  Frame.enter P f ARGS kind=bW {(default:Frame)with fn:=f,kind:=kind,roundOf:=none} (ARGS++Array.replicate (fn.ntmps -ARGS.size) undef) [] [.code c]:=by
 simp[Frame.enter,bW,hf,hc]
theorem Ii {f:FuncId} {fn:Func} {args:List Value} {ARGS:Array Value} {kind:CallKind} {pan:Option Value} {μ:Mu} {h:Heap} {w:World} {r:FEnd×FrS×Heap} {m:Option Value} {cs:List Frame}
  (hF:C.F.get f=some fn) (hb:yl self fn args pan h=some r) (hm:gB r.1=some m) (hA:VRels μ args ARGS.toList) (H:HRel (goodP C gd) w0 μ h w) (G:GRel C μ) (N:PanRel μ kind cs pan):
  ∃s2 μ' w' tmps' ds' cs' todo M b,Near r.1 r.2.1 s2/\ b.fn=f/\ b.kind=kind/\ b.roundOf=none/\ Aft C gd w0 μ h.next ⟨[],[],pan⟩ cs none b s2 r.2.2 μ' tmps' ds' cs' w'/\ MRel μ' m M/\
   Steps C.P (lone (Frame.enter C.P f ARGS kind) cs w) (lone {bW b tmps' ds' todo with mode:=M} cs' w'):=by
 obtain⟨c,hc,h1⟩:=ab hb
 obtain⟨hf,hname,hgood⟩:=hOk.F f fn hF
 rw[Tr hf hc]
 have hsz:args.length=ARGS.size:=by have:=hA.1;simpa using this
 have T:TRel μ (pg (args++List.replicate (fn.ntmps -args.length) undef)) (ARGS++Array.replicate (fn.ntmps -ARGS.size) undef):=by
  refine TRel.mk' ?_
  have:(ARGS++Array.replicate (fn.ntmps -ARGS.size) undef).toList=ARGS.toList++List.replicate (fn.ntmps -args.length) undef:=by simp[hsz]
  rw[this]
  refine hA.append ⟨rfl,fun i v V a b=> ?_⟩
  rw[a]at b;simp at b;subst b
  have:=List.mem_of_getElem? a
  have hu:=List.eq_of_mem_replicate this
  rw[hu]
  exact .tup' .nil
 have S:St C gd w0 μ ⟨pg (args++List.replicate (fn.ntmps -args.length) undef),[],pan⟩ h none {(default:Frame)with fn:=f,kind:=kind,roundOf:=none} (ARGS++Array.replicate (fn.ntmps -ARGS.size) undef) [] cs w:=
  ⟨H,T,trivial,trivial,N,G⟩
 obtain⟨s2,μ',w',tmps',ds',cs',nr,A,E⟩:=hS _ _ _ _ r.1 r.2.1 r.2.2 h1 (goodItems.cons (hgood c hc) (fun x hx=>by simp at hx)) μ w _ cs _ _ S
 obtain⟨todo,M,hM,hs⟩:=Js rfl hm E
 exact⟨s2,μ',w',tmps',ds',cs',todo,M,_,nr,rfl,rfl,rfl,⟨A.le,A.fresh,A.nx,A.st,A.pan⟩,hM,hs⟩
end
end Go.Am

namespace Go.Am
open Go
theorem pO {P:Program} {f:FuncId} {fn:Func} (hf:P.funcs[f]? =some fn) (hn:fn.name≠ "runtime.NumGoroutine") (hb:fn.body.isSome=true) (ARGS:Array Value) (w:World):
  (callFunc f ARGS).run P w= .ok (.enter f ARGS) w:=by
 have hb':fn.body≠none:=by intro e;rw[e]at hb;simp at hb
 simp[callFunc,hf,hn,hb']
section
variable {C:Ctx} {gd:List Oper ->Bool} {w0:World} (hOk:C.Ok gd w0) {self:Self} (hS:SelfOK C gd w0 self)
include hOk hS
theorem J5 {d D:Deferred} {m:Option Value} {h:Heap} {q:Option Value×Heap} (hq:dJ C self d m h=some q) {μ:Mu} {w:World} (hd:DRel μ d D) (H:HRel (goodP C gd) w0 μ h w) (G:GRel C μ)
  {F0:Frame} {DS:List Deferred} {M:FrameMode} {cs:List Frame} (hM:MRel μ m M):
  ∃μ' w' M',μ.le μ'/\ Fresh h.next μ μ'/\ h.next<=q.2.next/\ HRel (goodP C gd) w0 μ' q.2 w'/\ MRel μ' q.1 M'/\
   Steps C.P (lone {F0 with defers:=D::DS,mode:=M} cs w) (lone {F0 with defers:=DS,mode:=M'} cs w'):=by
 obtain⟨t,a⟩:=d
 have hMr:M≠ .run:=by
  cases m with
  |none=>intro e;rw[show M= .returning from hM]at e;simp at e
  |some v=>obtain⟨V,_,e⟩:=hM;rw[e];simp
 cases t with
 |collected b=>
  simp only[dJ]at hq
  obtain⟨o,ho,h1⟩:=ab hq
  obtain⟨h2,h3⟩:=aq h1
  simp at h3;subst h3
  obtain⟨e,he,hT⟩:=hd
  have:o= .deferred true:=by
   cases o<;>simp[uy]at h2
   subst h2;rfl
  subst this
  obtain⟨hge,hob⟩:=H.obj b e _ he ho
  have hob:w.heap[e.blk]? =some (.deferred (some [])):=hob
  obtain⟨DT,DA⟩:=D
  simp only at hT
  subst hT
  have hrun:(Instr.takeDeferred e.blk).run C.P w= .ok [] {w with heap:=w.heap.setIfInBounds e.blk (.deferred none)}:=by
   simp[Instr.takeDeferred,im rfl hob,ic rfl hob]
  refine⟨μ,_,M,fun _ _ a=>a,Fresh.refl _ _,Nat.le_refl _,H.turned he ho rfl rfl (Turned.setObj hob) ⟨hge,rfl⟩,hM, .one (step_lone_go ?_)⟩
  cases M with
  |run=>exact absurd rfl hMr
  |returning=>simp[stepG,unwind,hrun]
  |panicking ch=>simp[stepG,unwind,hrun]
 |fn f cap=>
  cases f with
  |func g=>
   simp only[dJ]at hq
   cases hA:C.A g with
   |some sp=>rw[hA]at hq;simp at hq
   |none=>
    rw[hA]at hq
    obtain⟨res,hres,hret⟩:=ab hq
    obtain⟨fn,hF,h1⟩:=ab hres
    obtain⟨r,hb,h2⟩:=ab h1
    obtain⟨h3,h4⟩:=aq h2
    obtain⟨m1,hm1,h5⟩:=ab h4
    cases m1 with
    |some v=>simp[te]at h5;subst h5;simp[GN]at hret
    |none=>
     obtain⟨vs,hvs,h6⟩:=ab h5
     simp at h6;subst h6
     simp[GN]at hret;subst hret
     obtain⟨gg,Cap,hT,hfn,hcap,hargs⟩:=hd
     cases hfn
     obtain⟨DT,DA⟩:=D
     simp only at hT hargs
     subst hT
     obtain⟨hf,hname,hgood⟩:=hOk.F g fn hF
     have hbody:fn.body.isSome=true:=by
      obtain⟨c,hc,_⟩:=ab hb
      rw[hc];rfl
     have hinv:(invoke (.fn (.func g) Cap) DA).run C.P w= .ok (.enter g (DA++Cap)) w:=pO hf hname hbody _ w
     have s1:=step_defer (P:=C.P) (fr:={F0 with defers:=⟨.fn (.func g) Cap,DA⟩::DS,mode:=M}) (cs:=cs) (w:=w) (ds:=DS) hMr rfl rfl hinv
     have hAA:VRels μ (a.toList++cap.toList) (DA++Cap).toList:=by simpa using hargs.append hcap
     have N:PanRel μ .deferred ({F0 with defers:=DS,mode:=M}::cs) m:=by
      cases m with
      |none=>
       have:M= .returning:=hM
       subst this
       intro fr hk
       unfold tryRecover
       rw[hk]
      |some v=>
       obtain⟨V,h1,h2⟩:=hM
       exact⟨rfl,_,_,V,rfl,h1,h2⟩
     obtain⟨s2,μ',w',tmps',ds',cs',todo,M',b,nr,e1,e2,e3,A,hM',hs⟩:=Ii hOk hS hF hb hm1 hAA H G N
     have hs2:s2=r.2.1:=by
      rcases nr with e|⟨v,e,_⟩
      ·exact e
      ·rw[e]at hm1;simp[gB]at hm1
     subst hs2
     have hMM:M'= .returning:=hM'
     subst hMM
     have hds:ds'=[]:=by
      have:r.2.1.defers=[]:=by
       revert h3
       cases r.2.1.defers<;>simp[qY]
      have D:=A.st.D
      rw[this]at D
      exact D.nil_inv
     subst hds
     obtain⟨V,hV,hvr⟩:=yH hOk A.st.H A.st.T hvs
     have hgo:({bW b tmps' [] todo with mode:= .returning}:Frame).going C.P w' (.returned V):=⟨rfl,rfl,fn,by rw[<-e1]at hf;exact hf,hV⟩
     have hcs: ∃c',cs'=c'::cs/\ ∃M2,MRel μ' r.2.1.pan M2/\ ({c' with mode:=settle c'.mode}:Frame)={F0 with defers:=DS,mode:=M2}:=by
      rcases A.pan with⟨p1,p2⟩|⟨v,c,rest,V',p1,p2,p3,p4,p5⟩
      ·refine⟨_,p2,M,by rw[p1];exact hM.mono A.le,?_⟩
       have:settle M=M:=by
        cases m with
        |none=>rw[show M= .returning from hM];rfl
        |some v=>obtain⟨V,_,e⟩:=hM;rw[e];rfl
       simp only[this]
      ·simp at p3
       obtain⟨rfl,rfl⟩:=p3
       refine⟨_,p5, .returning,by rw[p2];rfl,rfl⟩
     obtain⟨c',rfl,M2,hM2,hc'⟩:=hcs
     have s2:=step_going_returned (P:=C.P) (fr:={bW b tmps' [] todo with mode:= .returning}) (c:=c') (cs:=cs) e2 hgo
     rw[hc']at s2
     exact⟨μ',w',M2,A.le,A.fresh,A.nx,A.st.H,hM2, .head s1 (hs.trans (.one s2))⟩
  |_=>simp[dJ]at hq
 |_=>simp[dJ]at hq
theorem B9: ∀(ds:List Deferred) {m:Option Value} {h:Heap} {q:Option Value×Heap},ie C self ds m h=some q -> ∀{μ:Mu} {w:World} {DS:List Deferred},DRels μ ds DS ->HRel (goodP C gd) w0 μ h w ->GRel C μ ->
  ∀{F0:Frame} {M:FrameMode} {cs:List Frame},MRel μ m M ->
  ∃μ' w' M',μ.le μ'/\ Fresh h.next μ μ'/\ h.next<=q.2.next/\ HRel (goodP C gd) w0 μ' q.2 w'/\ MRel μ' q.1 M'/\
   Steps C.P (lone {F0 with defers:=DS,mode:=M} cs w) (lone {F0 with defers:=[],mode:=M'} cs w')
 |[],m,h,q,hq,μ,w,DS,hd,H,G,F0,M,cs,hM=>by
  obtain rfl:=hd.nil_inv
  have:q=(m,h):=by simpa[ie,cU]using hq.symm
  subst this
  exact⟨μ,w,M,fun _ _ a=>a,Fresh.refl _ _,Nat.le_refl _,H,hM, .refl _ _⟩
 |d::ds,m,h,q,hq,μ,w,DS,hd,H,G,F0,M,cs,hM=>by
  have hq:(ae (dJ C self d m h) fun q=>ie C self ds q.1 q.2)=some q:=hq
  obtain⟨q1,h1,h2⟩:=ab hq
  cases DS with
  |nil=>exact hd.elim
  |cons D DS=>
   obtain⟨μ1,w1,M1,a1,a2,a3,a4,a5,a6⟩:=J5 hOk hS h1 (F0:=F0) (DS:=DS) (cs:=cs) hd.1 H G hM
   obtain⟨μ2,w2,M2,b1,b2,b3,b4,b5,b6⟩:=B9 ds h2 (F0:=F0) (cs:=cs) (hd.2.mono a1) a4 (G.mono a1) a5
   exact⟨μ2,w2,M2,a1.trans b1,Fresh.trans a3 a2 b2,Nat.le_trans a3 b3,b4,b5,a6.trans b6⟩
theorem th {f:FuncId} {args:List Value} {h:Heap} {res:FRes} (hc:cI C self f args h=some res) {μ:Mu} {w:World} {ARGS:Array Value} (hA:VRels μ args ARGS.toList) (H:HRel (goodP C gd) w0 μ h w) (G:GRel C μ):
  (∃fn,C.P.funcs[f]? =some fn/\ fn.name≠ "runtime.NumGoroutine" /\ fn.body.isSome=true)/\ Calls C.P f ARGS w (wM C gd w0 μ h.next res):=by
 unfold cI at hc
 cases hsp:C.A f with
 |some sp=>
  rw[hsp]at hc
  obtain⟨p1,p2⟩:=hOk.A f sp hsp
  exact⟨p1,p2 μ h w args ARGS res H G hA hc⟩
 |none=>
  rw[hsp]at hc
  obtain⟨fn,hF,h1⟩:=ab hc
  obtain⟨r,hb,h2⟩:=ab h1
  obtain⟨m,hm,h3⟩:=ab h2
  obtain⟨q,hq,h4⟩:=ab h3
  obtain⟨hf,hname,hgood⟩:=hOk.F f fn hF
  have hbody:fn.body.isSome=true:=by
   obtain⟨c,hc,_⟩:=ab hb
   rw[hc];rfl
  refine⟨⟨fn,hf,hname,hbody⟩,fun cs=> ?_⟩
  have N:PanRel μ .normal cs none:=by
   intro fr hk
   unfold tryRecover
   rw[hk]
  obtain⟨s2,μ1,w1,tmps1,ds1,cs1,todo,M1,b,nr,e1,e2,e3,A,hM,hs⟩:=Ii hOk hS hF hb hm hA H G N
  have hn2:q.1=none ->s2=r.2.1:=by
   intro hqn
   rcases nr with e|⟨v,e,a,_,_⟩
   ·exact e
   ·rw[e]at hm
    rw[a]at hq
    have hmv:m=some v:=by simpa[gB]using hm.symm
    have:q=(m,r.2.2):=by simpa[ie,cU]using hq.symm
    rw[this,hmv]at hqn
    simp at hqn
  rw[<-nr.defers]at hq
  have hcs:cs1=cs:=by
   rcases A.pan with⟨_,p2⟩|⟨v,c,rest,V',p1,_⟩
   ·exact p2
   ·simp at p1
  subst hcs
  obtain⟨μ2,w2,M2,b1,b2,b3,b4,b5,b6⟩:=B9 hOk hS _ hq (F0:=bW b tmps1 ds1 todo) (cs:=cs1) A.st.D A.st.H A.st.G hM
  have hs2:=hs.trans b6
  cases hq1:q.1 with
  |some v=>
   rw[hq1]at h4 b5
   simp[te]at h4;subst h4
   obtain⟨V,hV,rfl⟩:=b5
   exact⟨.panicked [{v:=V,recovered:=false}],w2,_,⟨μ2,V,A.le.trans b1,Fresh.trans A.nx A.fresh b2,Nat.le_trans A.nx b3,b4,hV,rfl⟩,hs2,e1,rfl,rfl,fn,by rw[<-e1]at hf;exact hf⟩
  |none=>
   rw[hq1]at h4 b5
   obtain⟨vs,hvs,h5⟩:=ab h4
   simp at h5;subst h5
   have:M2= .returning:=b5
   subst this
   have hs2:=hn2 hq1
   subst hs2
   obtain⟨V,hV,hvr⟩:=yH hOk b4 (A.st.T.mono b1) hvs
   exact⟨.returned V,w2,_,⟨μ2,A.le.trans b1,Fresh.trans A.nx A.fresh b2,Nat.le_trans A.nx b3,b4,hvr⟩,hs2,e1,rfl,rfl,e2,fn,by rw[<-e1]at hf;exact hf,hV⟩
end
end Go.Am

namespace Go.Am
open Go
def Got (C:Ctx) (gd:List Oper ->Bool) (w0:World) (n:Nat) (M0:Machine) (F:Frame) (cs:List Frame) (μ':Mu) (w':World):FRes ->Prop
 | .ret v h' _=>n<=h'.next/\ HRel (goodP C gd) w0 μ' h' w'/\ ∃V,VRel μ' v V/\ Steps C.P M0 (lone (F.finish V) cs w')
 | .panic v h'=>n<=h'.next/\ HRel (goodP C gd) w0 μ' h' w'/\ ∃V,VRel μ' v V/\ Steps C.P M0 (lone (F.raise [{v:=V,recovered:=false}]) cs w')
def Be (todo:List Item):Bool:=
 match todo with
 | .call _ _ _ _::_=>false
 |_=>true
theorem Iq {P:Program} {F:Frame} {cs:List Frame} {S:Sem Next} {w w':World} {f:FuncId} {ARGS:Array Value} (hk:Be F.todo=true) (h:S.run P w= .ok (.enter f ARGS) w'):
  (stepG.apply P true F cs none S w).bare= .go {frame:=Frame.enter P f ARGS .normal,callers:=F::cs,status:= .running,dying:=none} w':=by
 simp only[stepG.apply,Sem.runT_eq,if_true,h,GStep.bare_after,GStep.bare_go]
 split
 ·rename_i e;rw[e]at hk;simp[Be]at hk
 ·rfl
theorem Ip {P:Program} {F:Frame} {cs:List Frame} {S:Sem Next} {w w':World} {l:Nat} {f:FuncId} {t:Array Value} {a c:Code} (h:S.run P w= .ok (.round l f t a c) w'):
  (stepG.apply P true F cs none S w).bare= .go {frame:=Frame.round l f t a c .normal,callers:=F::cs,status:= .running,dying:=none} w':=by
 simp only[stepG.apply,Sem.runT_eq,if_true,h,GStep.bare_after,GStep.bare_go]
theorem GE (t:Tmp) (ts:List Tmp) (v:Value) (vs:List Value) (τ:List (List Value)):ua (t::ts) (v::vs) τ=ua ts vs (uX τ t v):=rfl
theorem AP {μ:Mu}: ∀(ts:List Tmp) {vs VS:List Value} {τ:List (List Value)} {T:Array Value},vs.length=ts.length ->VRels μ vs VS ->TRel μ τ T ->TRel μ (ua ts vs τ) ((ts.zip VS).foldl (fun t p=>t.setIfInBounds p.1 p.2) T)
 |[],vs,VS,τ,T,hl,hv,hT=>by
  have:vs=[]:=by simpa using hl
  subst this
  obtain rfl:=hv.nil_inv
  exact hT
 |t::ts,vs,VS,τ,T,hl,hv,hT=>by
  cases vs with
  |nil=>simp at hl
  |cons v vs=>
   obtain⟨V,VS',rfl,h1,h2⟩:=hv.cons_inv
   rw[GE,List.zip_cons_cons,List.foldl_cons]
   exact AP ts (by simpa using hl) h2 (hT.set t h1)
section
variable {C:Ctx} {gd:List Oper ->Bool} {w0:World} (hOk:C.Ok gd w0) {self:Self} (hS:SelfOK C gd w0 self)
include hOk hS
omit hOk hS in
theorem vC {f:FuncId} {ARGS:Array Value} {w w00:World} {μ:Mu} {n:Nat} {res:FRes} {F F0:Frame} {cs:List Frame} {S:Sem Next} (hk:Be F.todo=true) (hrun:S.run C.P w= .ok (.enter f ARGS) w)
  (hst:(stepG C.P true {frame:=F0,callers:=cs,status:= .running,dying:=none} w00).bare=(stepG.apply C.P true F cs none S w).bare)
  (hc:Calls C.P f ARGS w (wM C gd w0 μ n res)): ∃μ' w',μ.le μ'/\ Fresh n μ μ'/\ Got C gd w0 n (lone F0 cs w00) F cs μ' w' res:=by
 have s1:=step_lone_go (hst.trans (Iq hk hrun))
 obtain⟨e,w',fr,hR,hs,hfn,hl⟩:=hc (F::cs)
 cases e with
 |returned V=>
  cases res with
  |ret v h' p=>
   obtain⟨μ',a1,a2,a3,a4,a5⟩:=hR
   exact⟨μ',w',a1,a2,a3,a4,V,a5, .head s1 (Steps.trans hs (.one (step_leave_returned hl)))⟩
  |panic v h'=>exact hR.elim
 |panicked chain=>
  cases res with
  |ret v h' p=>exact hR.elim
  |panic v h'=>
   obtain⟨μ',V,a1,a2,a3,a4,a5,rfl⟩:=hR
   exact⟨μ',w',a1,a2,a3,a4,V,a5, .head s1 (Steps.trans hs (.one (step_leave_panicked hl)))⟩
 |outgrown=>cases res<;>exact hR.elim
theorem DX {recv RECV:Value} {name:String} {args:List Value} {h:Heap} {res:FRes} (hc:tT C self recv name args h=some res) {μ:Mu} {w w00:World} {ARGS CAP:Array Value} (hr:VRel μ recv RECV) (hA:VRels μ args ARGS.toList)
  (H:HRel (goodP C gd) w0 μ h w) (G:GRel C μ) {F F0:Frame} {cs:List Frame} {S:Sem Next} (hk:Be F.todo=true) (hrun:S.run C.P w=(callMethod RECV name ARGS).run C.P w)
  (hst:(stepG C.P true {frame:=F0,callers:=cs,status:= .running,dying:=none} w00).bare=(stepG.apply C.P true F cs none S w).bare):
  ∃μ' w',μ.le μ'/\ Fresh h.next μ μ'/\ Got C gd w0 h.next (lone F0 cs w00) F cs μ' w' res:=by
 unfold tT at hc
 split at hc
 ·rename_i t v
  obtain⟨f,hf,h1⟩:=ab hc
  obtain⟨V,rfl,hv⟩:=hr.iface_inv
  have hA':VRels μ (v::args) (#[V]++ARGS).toList:=by simpa using VRels.cons hv hA
  obtain⟨⟨fn,f1,f2,f3⟩,hcall⟩:=th hOk hS h1 hA' H G
  refine vC hk ?_ hst hcall
  rw[hrun]
  have hpos:0<Made.depth:=by decide
  obtain⟨n,hn⟩: ∃n,C.P.types.size+Made.depth=n+1:=⟨C.P.types.size+(Made.depth -1),by omega⟩
  simp only[callMethod,Sem.run_bind,run_program,Result.andThen_ok,hn,Jo hOk.ok0 hf n,pO f1 f2 f3]
 ·simp at hc
theorem LY {l:Nat} {e:Spot} {args:List Value} {h:Heap} {res:FRes} (hc:jO self l args h=some res) {μ:Mu} {w w00:World} {ARGS:Array Value} (hl:μ l=some e) (hA:VRels μ args ARGS.toList)
  (H:HRel (goodP C gd) w0 μ h w) (G:GRel C μ) {F F0:Frame} {cs:List Frame} {S:Sem Next} (hrun:S.run C.P w=(Instr.yield e.blk ARGS).run C.P w)
  (hst:(stepG C.P true {frame:=F0,callers:=cs,status:= .running,dying:=none} w00).bare=(stepG.apply C.P true F cs none S w).bare):
  ∃μ' w',μ.le μ'/\ Fresh h.next μ μ'/\ Got C gd w0 h.next (lone F0 cs w00) F cs μ' w' res:=by
 have _:=hOk
 obtain⟨r,hr,h1⟩:=ab hc
 obtain⟨o,ho,hlo⟩:=ab hr
 have:o= .loop r:=by
  unfold km at hlo;split at hlo
  ·simp at hlo;subst hlo;rfl
  ·simp at hlo
 subst this
 obtain⟨h2,h3⟩:=aq h1
 have hlen:=Nat.eq_of_beq_eq_true h2
 obtain⟨rr,hself,h4⟩:=ab h3
 obtain⟨j,hj,h5⟩:=ab h4
 obtain⟨hnd,h6⟩:=aq h5
 obtain⟨x,hx,h7⟩:=ab h6
 simp at h7;subst h7
 obtain⟨o2,ho2,hlo2⟩:=ab hx
 have:o2= .loop x:=by
  unfold km at hlo2;split at hlo2
  ·simp at hlo2;subst hlo2;rfl
  ·simp at hlo2
 subst this
 obtain⟨hge,L,hob,LR⟩:=H.obj l e _ hl ho
 have hps:L.params.toList.length=ARGS.toList.length:=by rw[LR.params,<-hlen,hA.1]
 have hszz:ARGS.size=L.params.size:=by simpa using hps.symm
 have hrun':S.run C.P w= .ok (.round e.blk L.fn ((L.params.zip ARGS).foldl (fun tmps (t,a)=>tmps.setIfInBounds t a) L.tmps) L.assign L.body) w:=by
  rw[hrun]
  simp[Instr.yield,Instr.getLoop,im rfl hob,hszz]
 have s1:=step_lone_go (hst.trans (Ip hrun'))
 have hT:TRel μ (ua r.params args r.tmps) ((L.params.zip ARGS).foldl (fun tmps (t,a)=>tmps.setIfInBounds t a) L.tmps):=by
  have:=AP r.params hlen hA LR.tmps
  have e1:(r.params.zip ARGS.toList).foldl (fun t p=>t.setIfInBounds p.1 p.2) L.tmps=(L.params.zip ARGS).foldl (fun t p=>t.setIfInBounds p.1 p.2) L.tmps:=by
   rw[<-LR.params,<-Array.toList_zip,Array.foldl_toList]
  rw[e1]at this
  exact this
 have hb0:Frame.round e.blk L.fn ((L.params.zip ARGS).foldl (fun tmps (t,a)=>tmps.setIfInBounds t a) L.tmps) L.assign L.body .normal=
   bW {(default:Frame)with fn:=L.fn,kind:= .normal,roundOf:=some e.blk} ((L.params.zip ARGS).foldl (fun tmps (t,a)=>tmps.setIfInBounds t a) L.tmps) [] [.code L.assign, .beginRound, .code L.body]:=rfl
 rw[hb0,LR.assign,LR.body]at s1
 have N:PanRel μ CallKind.normal (F::cs) none:=by
  intro fr hk
  unfold tryRecover
  rw[hk]
 have gi:goodItems C gd [.code r.assign, .beginRound, .code r.body]:=
  goodItems.cons LR.goodA (goodItems.cons trivial (goodItems.cons LR.goodB (fun x hx=>by simp at hx)))
 obtain⟨s2,μ1,w1,t1,d1,cs1,nr,A,E⟩:=hS _ _ _ _ rr.1 rr.2.1 rr.2.2 hself gi μ w {(default:Frame)with fn:=L.fn,kind:= .normal,roundOf:=some e.blk} (F::cs) _ [] ⟨H,hT,trivial,⟨e,hl,rfl⟩,N,G⟩
 have hs2:s2=rr.2.1:=by
  rcases nr with e|⟨v,e,_⟩
  ·exact e
  ·rw[e]at hj;simp[Bz]at hj
 subst hs2
 have hcs:cs1=F::cs:=by
  rcases A.pan with⟨_,p2⟩|⟨v,c,rest,V',p1,_⟩
  ·exact p2
  ·simp at p1
 subst hcs
 cases hend:rr.1 with
 |panic v=>rw[hend]at hj;simp[Bz]at hj
 |ended j'=>
  rw[hend]at hj E
  simp[Bz]at hj;subst hj
  obtain⟨todo,hat,hs⟩:=E
  have hle:=A.le _ _ hl
  obtain⟨hge2,L2,hob2,LR2⟩:=A.st.H.obj l e _ hle ho2
  have hendR: ∀jj:Option Code,(Instr.endRound e.blk jj).run C.P w1= .ok (.bool jj.isNone) {w1 with heap:=w1.heap.setIfInBounds e.blk (.loop {L2 with state:=if jj.isNone then .ready else .done,pending:=jj})}:=by
   intro jj
   simp[Instr.endRound,Instr.getLoop,im rfl hob2,ic rfl hob2]
  have s3:Go.step C.P (lone (bW {(default:Frame)with fn:=L.fn,kind:= .normal,roundOf:=some e.blk} t1 d1 todo) (F::cs) w1)=
    .next (lone (F.finish (.bool j'.isNone)) cs {w1 with heap:=w1.heap.setIfInBounds e.blk (.loop {L2 with state:=if j'.isNone then .ready else .done,pending:=j'})}):=by
   refine step_lone_go ?_
   unfold zY at hat
   split at hat
   ·subst hat;simp[stepG,stepG.exec,bW,hendR,doReturn]
   ·obtain⟨k,rfl⟩:=hat;simp[stepG,stepG.exec,bW,hendR,doReturn]
   ·obtain⟨k,rfl,hex⟩:=hat;simp[stepG,stepG.exec,bW,hendR,doReturn,hex]
   ·exact hat.elim
  refine⟨μ1,_,A.le,A.fresh,A.nx,A.st.H.turned hle ho2 rfl rfl (Turned.setObj hob2) ⟨hge2,_,rfl,?_⟩,_, .plain _ rfl, .head s1 (hs.trans (.one s3))⟩
  refine{state:= ?_,pending:=rfl,tmps:=LR2.tmps,params:=LR2.params,assign:=LR2.assign,body:=LR2.body,goodA:=LR2.goodA,goodB:=LR2.goodB,goodP:= ?_,defers:=LR2.defers}
  ·cases j'<;>rfl
  ·intro c hc
   have hc:j'=some c:=hc
   subst hc
   unfold zY at hat
   split at hat
   ·rename_i e;simp at e
   ·rename_i e;simp at e;subst e;rfl
   ·rename_i e;simp at e;subst e;rfl
   ·exact hat.elim
theorem yZ {fn FN:Fn} {cap args:List Value} {h:Heap} {res:FRes} (hc:dY C self fn cap args h=some res) {μ:Mu} {w w00:World} {ARGS CAP:Array Value} (hf:FnRel μ fn FN) (hcap:VRels μ cap CAP.toList) (hA:VRels μ args ARGS.toList)
  (H:HRel (goodP C gd) w0 μ h w) (G:GRel C μ) {F F0:Frame} {cs:List Frame} {S:Sem Next} (hk:Be F.todo=true) (hrun:S.run C.P w=(invoke (.fn FN CAP) ARGS).run C.P w)
  (hst:(stepG C.P true {frame:=F0,callers:=cs,status:= .running,dying:=none} w00).bare=(stepG.apply C.P true F cs none S w).bare):
  ∃μ' w',μ.le μ'/\ Fresh h.next μ μ'/\ Got C gd w0 h.next (lone F0 cs w00) F cs μ' w' res:=by
 cases hf with
 |func f=>
  have hA':VRels μ (args++cap) (ARGS++CAP).toList:=by simpa using hA.append hcap
  obtain⟨⟨fn,f1,f2,f3⟩,hcall⟩:=th hOk hS hc hA' H G
  refine vC hk ?_ hst hcall
  rw[hrun]
  exact pO f1 f2 f3 _ _
 |method name=>
  cases args with
  |nil=>simp[dY]at hc
  |cons recv rest=>
   obtain⟨RECV,REST,hAA,h1,h2⟩:=hA.cons_inv
   have hc:tT C self recv name rest h=some res:=hc
   have h0:ARGS[0]? =some RECV:=by rw[<-Array.getElem?_toList,hAA];rfl
   have hx:(ARGS.extract 1 ARGS.size).toList=REST:=by
    have hl:ARGS.size=REST.length+1:=by have:=congrArg List.length hAA;simpa using this
    simp[List.extract_eq_take_drop,hAA,hl]
   refine DX hOk hS hc (CAP:=CAP) (ARGS:=ARGS.extract 1 ARGS.size) h1 (by rw[hx];exact h2) H G hk ?_ hst
   rw[hrun]
   simp[invoke,h0]
 |yield l e hl=>exact LY hOk hS hc hl hA H G hrun hst
end
end Go.Am
