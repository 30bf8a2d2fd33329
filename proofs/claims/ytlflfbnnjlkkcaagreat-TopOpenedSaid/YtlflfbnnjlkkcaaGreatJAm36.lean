/- Parts Am36, V37, V116 of the abstract machine over this program, joined: what each part says stands at its head. -/
import Derived.Test.YtlflfbnnjlkkcaaGreatJAm32
import Derived.Test.YtlflfbnnjlkkcaaGreatProg
import Derived.KernelRfl
import Derived.Laws.StructEq
import Derived.Laws.Small
import Derived.DeepKeys3
set_option linter.unusedSimpArgs false
set_option linter.unusedVariables false
set_option linter.defProp false
namespace Go.Am
open Go
section
variable {C:Ctx} {rd:Option Nat} {ops l:List Oper} {k:List Item} {s:FrS} {h:Heap}
noncomputable def ROg (C:Ctx) (rd:Option Nat) (ops l:List Oper) (k:List Item) (s:FrS) (h:Heap) (o:Oper):Bool ->tC
 |true=>RO C rd ops (o::l) k s h
 |false=>RO C rd ops l k (s.put o.dst undef) h
theorem Uv (o:Oper):ROg C rd ops l k s h o true=RO C rd ops (o::l) k s h:=rfl
theorem Xp (dst:Option Tmp) (op:Op) (ty:TypeId) (pos:String) (aft:Array Edge) (g:Option (Nat×Bool)):ROg C rd ops l k s h ⟨dst,op,ty,pos,aft,g⟩ false=RO C rd ops l k (s.put dst undef) h:=rfl
theorem Xg (dst:Option Tmp) (op:Op) (ty:TypeId) (pos:String) (aft:Array Edge) (j:Nat) (w:Bool):
  RO C rd ops (⟨dst,op,ty,pos,aft,some (j,w)⟩::l) k s h=ROg C rd ops l k s h ⟨dst,op,ty,pos,aft,none⟩ (gJ ops s.tmps j w):=by
 rw[zR]
 have e:bO ops ⟨dst,op,ty,pos,aft,some (j,w)⟩ s.tmps=gJ ops s.tmps j w:=rfl
 rw[e]
 cases hw:gJ ops s.tmps j w with
 |false=>rfl
 |true=>
  rw[Uv,zR]
  rfl
noncomputable def wb (n:Nat) (f:Nat ->Value) (w:Bool):Option Oper ->Bool
 |some ⟨some t,_,_,_,_,_⟩=>uH w (if t<n then f t else undef)
 |_=>false
theorem UN (n:Nat) (f:Nat ->Value) (w:Bool) (t:Tmp) (op:Op) (ty:TypeId) (pos:String) (aft:Array Edge) (g:Option (Nat×Bool)):wb n f w (some ⟨some t,op,ty,pos,aft,g⟩)=uH w (if t<n then f t else undef):=rfl
theorem II (n:Nat) (f:Nat ->Value) (j:Nat) (w:Bool):gJ ops (T n f) j w=wb n f w (ops[j]?):=by
 unfold gJ
 rw[kO]
 cases hj:ops[j]? with
 |none=>rfl
 |some o=>
  obtain⟨d,op,ty,pos,aft,g⟩:=o
  cases d with
  |none=>rfl
  |some t=>simp only[au,Ec];rfl
theorem Ih (w b:Bool):uH w (.bool b)=(b==w):=rfl
noncomputable def RP (C:Ctx) (rd:Option Nat) (ops:List Oper) (pl:List PE) (k:List Item) (rs:List Rec) (s:FrS) (h:Heap):tC:=ae (eV C (bH C) rd ops pl rs s h) (gV (bH C) rd k)
def fu (ops:List Oper):List (Bool×Nat) ->List PE
 |[]=>[]
 |(b,i)::q=>match ops[i]? with
  |some o=>(if b then .ex i o else .re i o)::fu ops q
  |none=>fu ops q
theorem ZX {id:Nat} {o:Array Oper} (q:List (Bool×Nat)) (hq:i7 o.toList=fu o.toList q):bH C rd (.code (.region id o true)::k) s h=RP C rd o.toList (fu o.toList q) k [] s h:=by
 rw[gX,<-hq];rfl
def yC (o:Oper):Oper:=⟨o.dst,o.op,0, "", #[],o.guard⟩
def dU (l:List Oper):List Oper:=l.map yC
theorem Gd (dst:Option Tmp) (op:Op) (ty:TypeId) (pos:String) (aft:Array Edge) (g:Option (Nat×Bool)) (l:List Oper):dU (⟨dst,op,ty,pos,aft,g⟩::l)=⟨dst,op,0, "", #[],g⟩::dU l:=rfl
theorem IN:dU []=[]:=rfl
theorem uS (o:Oper) (τ:List (List Value)):bO (dU ops) (yC o) τ=bO ops o τ:=by
 unfold bO yC
 simp only
 cases o.guard with
 |none=>rfl
 |some q=>
  simp only
  unfold gJ
  rw[kO,kO,dU,List.getElem?_map]
  cases ops[q.1]? <;>rfl
theorem Ug:RO C rd ops l k s h=RO C rd (dU ops) (dU l) k s h:=by
 unfold RO
 congr 1
 induction l generalizing s h with
 |nil=>rfl
 |cons o l ih=>
  show tF C (bH C) rd ops o (iV C (bH C) rd ops l) s h=tF C (bH C) rd (dU ops) (yC o) (iV C (bH C) rd (dU ops) (dU l)) s h
  unfold tF
  rw[uS]
  have e:iV C (bH C) rd ops l=iV C (bH C) rd (dU ops) (dU l):=by funext s h;exact ih
  rw[e]
  rfl
theorem NY (id:Nat) (o:Array Oper):bH C rd (.code (.region id o false)::k) s h=RO C rd (dU o.toList) (dU o.toList) k s h:=by rw[Up,Ug]
def Ee:PE ->PE
 | .ex i o=> .ex i (yC o)
 | .re i o=> .re i (yC o)
theorem Eq (q:List (Bool×Nat)):(fu ops q).map Ee=fu (dU ops) q:=by
 induction q with
 |nil=>rfl
 |cons e q ih=>
  obtain⟨b,i⟩:=e
  unfold fu dU
  rw[List.getElem?_map]
  cases ops[i]? with
  |none=>exact ih
  |some o=>cases b<;>exact congrArg (List.cons _) ih
theorem Uc (pl:List PE) (rs:List Rec):RP C rd ops pl k rs s h=RP C rd (dU ops) (pl.map Ee) k rs s h:=by
 unfold RP
 congr 1
 induction pl generalizing rs s h with
 |nil=>rfl
 |cons e pl ih=>
  rw[jm,List.map_cons,jm]
  have e':eV C (bH C) rd ops pl=eV C (bH C) rd (dU ops) (pl.map Ee):=by funext rs s h;exact ih rs
  rw[e']
  cases e with
  |ex i o=>
   show(match bO ops o s.tmps with|true=>JU C (bH C) rd i o _ rs s h|false=>_)=(match bO (dU ops) (yC o) s.tmps with|true=>JU C (bH C) rd i (yC o) _ rs s h|false=>_)
   rw[uS]
   rfl
  |re i o=>rfl
theorem Xm {id:Nat} {o:Array Oper} (q:List (Bool×Nat)) (hq:i7 o.toList=fu o.toList q):bH C rd (.code (.region id o true)::k) s h=RP C rd (dU o.toList) (fu (dU o.toList) q) k [] s h:=by
 rw[ZX q hq,Uc,Eq]
theorem ZF (rs:List Rec):RP C rd ops [] k rs s h=bH C rd k s h:=rfl
noncomputable def zO (v:Value) (s:FrS) (h:Heap):List Deferred ->tC
 |[]=>some (.panic v,s,h)
 |_::_=>none
theorem Kh (v:Value) (s:FrS) (h:Heap) (l:List Deferred):ae (BC (.panic v s h) l) (gV (bH C) rd k)=zO v s h l:=by cases l<;>rfl
noncomputable def Iv (C:Ctx) (rd:Option Nat) (ops:List Oper) (pl:List PE) (k:List Item) (rs:List Rec):Option ORes ->tC
 |some (.ok s h)=>RP C rd ops pl k rs s h
 |some (.panic v s h)=>zO v s h s.defers
 |none=>none
noncomputable def ZD (C:Ctx) (rd:Option Nat) (ops:List Oper) (pl:List PE) (k:List Item) (rs:List Rec) (i:Nat) (dst:Option Tmp) (s:FrS) (h:Heap):Option EV ->tC
 |some (.val v)=>RP C rd ops pl k (.val i s.tmps v::rs) (s.put dst v) h
 |some (.new x mk)=>match js (h.get h.next)with
  |true=>RP C rd ops pl k (.new i h.next x::rs) (s.put dst (mk h.next)) (h.alloc x)
  |false=>none
 |none=>none
noncomputable def RPg (C:Ctx) (rd:Option Nat) (ops:List Oper) (pl:List PE) (k:List Item) (rs:List Rec) (s:FrS) (h:Heap):Bool ->tC
 |true=>RP C rd ops pl k rs s h
 |false=>none
noncomputable def RPw (C:Ctx) (rd:Option Nat) (ops:List Oper) (pl:List PE) (k:List Item) (rs:List Rec) (s:FrS) (h:Heap) (i:Nat) (o:Oper):Bool ->tC
 |true=>match bt o.op with
  |true=>Iv C rd ops pl k rs (c9 C (bH C) rd o.dst s h o.op)
  |false=>ZD C rd ops pl k rs i o.dst s h (aJ C (ev s.tmps) h o.op)
 |false=>RP C rd ops pl k rs (s.put o.dst undef) h
theorem RP_ex (pl:List PE) (i:Nat) (o:Oper) (rs:List Rec):RP C rd ops (.ex i o::pl) k rs s h=RPw C rd ops pl k rs s h i o (bO ops o s.tmps):=by
 unfold RP
 rw[jm]
 show ae (match bO ops o s.tmps with|true=>JU C (bH C) rd i o (eV C (bH C) rd ops pl) rs s h|false=>eV C (bH C) rd ops pl rs (s.put o.dst undef) h) (gV (bH C) rd k)=_
 cases bO ops o s.tmps with
 |false=>rfl
 |true=>
  unfold RPw JU
  cases bt o.op with
  |true=>
   simp only
   cases c9 C (bH C) rd o.dst s h o.op with
   |none=>rfl
   |some r=>
    cases r with
    |ok s h=>rfl
    |panic v s h=>exact Kh _ _ _ _
  |false=>
   simp only
   cases aJ C (ev s.tmps) h o.op with
   |none=>rfl
   |some e=>
    cases e with
    |val v=>rfl
    |new x mk=>
     simp only[au,Lx,mn,ZD]
     cases js (h.get h.next)<;>rfl
theorem RP_re (pl:List PE) (i:Nat) (o:Oper) (rs:List Rec):RP C rd ops (.re i o::pl) k rs s h=RPg C rd ops pl k rs s h (j0 C o.op h (io i rs)):=by
 unfold RP
 rw[jm]
 show ae (aX (j0 C o.op h (io i rs)) (eV C (bH C) rd ops pl rs s h)) (gV (bH C) rd k)=_
 cases j0 C o.op h (io i rs)<;>rfl
theorem Ub (pl:List PE) (rs:List Rec):RPg C rd ops pl k rs s h true=RP C rd ops pl k rs s h:=rfl
variable {pl:List PE} {rs:List Rec} {i:Nat} {dst:Option Tmp} {ty:TypeId} {pos:String} {aft:Array Edge}
theorem OB (o:Oper):RPw C rd ops pl k rs s h i o true=match bt o.op with
  |true=>Iv C rd ops pl k rs (c9 C (bH C) rd o.dst s h o.op)
  |false=>ZD C rd ops pl k rs i o.dst s h (aJ C (ev s.tmps) h o.op):=rfl
theorem UQ (op:Op) (g:Option (Nat×Bool)):RPw C rd ops pl k rs s h i ⟨dst,op,ty,pos,aft,g⟩ false=RP C rd ops pl k rs (s.put dst undef) h:=rfl
theorem UP (op:Op) (τ:List (List Value)):bO ops ⟨dst,op,ty,pos,aft,none⟩ τ=true:=rfl
theorem UO (op:Op) (τ:List (List Value)) (j:Nat) (w:Bool):bO ops ⟨dst,op,ty,pos,aft,some (j,w)⟩ τ=gJ ops τ j w:=rfl
theorem W6 (v:Value):ZD C rd ops pl k rs i dst s h (some (.val v))=RP C rd ops pl k (.val i s.tmps v::rs) (s.put dst v) h:=rfl
theorem W7 (x:AObj) (mk:Nat ->Value) (hf:js (h.get h.next)=true):ZD C rd ops pl k rs i dst s h (some (.new x mk))=RP C rd ops pl k (.new i h.next x::rs) (s.put dst (mk h.next)) (h.alloc x):=by
 simp only[ZD,hf]
theorem ZC:Iv C rd ops pl k rs (some (.ok s h))=RP C rd ops pl k rs s h:=rfl
noncomputable def ZE (C:Ctx) (rd:Option Nat) (ops:List Oper) (pl:List PE) (k:List Item) (rs:List Rec) (dst:Option Tmp) (s:FrS):Option FRes ->tC
 |some (.ret v h _)=>RP C rd ops pl k rs (s.put dst v) h
 |some (.panic v h)=>zO v s h s.defers
 |none=>none
noncomputable def RPh (C:Ctx) (rd:Option Nat) (ops:List Oper) (pl:List PE) (k:List Item) (rs:List Rec) (dst:Option Tmp) (s:FrS):Option Heap ->tC
 |some h=>RP C rd ops pl k rs (s.put dst undef) h
 |none=>none
noncomputable def RPq (C:Ctx) (rd:Option Nat) (ops:List Oper) (pl:List PE) (k:List Item) (rs:List Rec) (dst:Option Tmp) (s:FrS):Option (Value×Heap) ->tC
 |some q=>RP C rd ops pl k rs (s.put dst q.1) q.2
 |none=>none
theorem Fm (v:Value) (p:Option Value):ZE C rd ops pl k rs dst s (some (.ret v h p))=RP C rd ops pl k rs (s.put dst v) h:=rfl
theorem NR (v:Value) (hd:s.defers=[]):ZE C rd ops pl k rs dst s (some (.panic v h))=some (.panic v,s,h):=by
 show zO v s h s.defers=_
 rw[hd];rfl
theorem Ua:RPh C rd ops pl k rs dst s (some h)=RP C rd ops pl k rs (s.put dst undef) h:=rfl
theorem T9 (v:Value):RPq C rd ops pl k rs dst s (some (v,h))=RP C rd ops pl k rs (s.put dst v) h:=rfl
theorem T8 (f:Operand) (xs:List Operand) (ts:Array TypeId):Iv C rd ops pl k rs (c9 C (bH C) rd dst s h (.call ⟨.value f,⟨xs⟩,ts⟩))=ZE C rd ops pl k rs dst s (iy C (ev s.tmps f) (xs.map (ev s.tmps)) h):=by
 show Iv C rd ops pl k rs (pL C (bH C) dst (xs.map (ev s.tmps)) s h (ev s.tmps f))=_
 cases ev s.tmps f<;>try rfl
 rename_i fn a b
 show Iv C rd ops pl k rs (ae (dY C (bH C) fn b.toList (a.toList++_) h) (ku s dst))=ZE C rd ops pl k rs dst s (dY C (bH C) fn b.toList (a.toList++_) h)
 cases dY C (bH C) fn b.toList (a.toList++xs.map (ev s.tmps)) h with
 |none=>rfl
 |some r=>cases r<;>rfl
theorem Ks (f:Operand) (n:String) (xs:List Operand) (ts:Array TypeId):Iv C rd ops pl k rs (c9 C (bH C) rd dst s h (.call ⟨.invoke f n,⟨xs⟩,ts⟩))=ZE C rd ops pl k rs dst s (tT C (bH C) (ev s.tmps f) n (xs.map (ev s.tmps)) h):=by
 show Iv C rd ops pl k rs (ae (tT C (bH C) (ev s.tmps f) n (xs.map (ev s.tmps)) h) (ku s dst))=_
 cases tT C (bH C) (ev s.tmps f) n (xs.map (ev s.tmps)) h with
 |none=>rfl
 |some r=>cases r<;>rfl
theorem NQ (t:TypeId) (a v:Operand):Iv C rd ops pl k rs (c9 C (bH C) rd dst s h (.store t a v))=RPh C rd ops pl k rs dst s (rO C t (ev s.tmps a) (ev s.tmps v) h):=by
 show Iv C rd ops pl k rs (ae (rO C t (ev s.tmps a) (ev s.tmps v) h) (jn s dst))=_
 cases rO C t (ev s.tmps a) (ev s.tmps v) h<;>rfl
theorem CU (t:TypeId) (m x v:Operand):Iv C rd ops pl k rs (c9 C (bH C) rd dst s h (.mapUpdate t m x v))=RPh C rd ops pl k rs dst s (dK C t (ev s.tmps m) (ev s.tmps x) (ev s.tmps v) h):=by
 show Iv C rd ops pl k rs (ae (dK C t (ev s.tmps m) (ev s.tmps x) (ev s.tmps v) h) (jn s dst))=_
 cases dK C t (ev s.tmps m) (ev s.tmps x) (ev s.tmps v) h<;>rfl
theorem Kt (ts:Array TypeId) (x y:Operand) (xs:List Operand):Iv C rd ops pl k rs (c9 C (bH C) rd dst s h (.call ⟨.builtin .append,⟨x::y::xs⟩,ts⟩))=RPq C rd ops pl k rs dst s (ck C ts.toList (ev s.tmps x) (ev s.tmps y) h):=by
 show Iv C rd ops pl k rs (ae (ck C ts.toList (ev s.tmps x) (ev s.tmps y) h) (ofVal s dst))=_
 cases ck C ts.toList (ev s.tmps x) (ev s.tmps y) h<;>rfl
theorem Vw (op:Op) (j:Nat) (τ:List (List Value)) (v:Value):j0 C op h (some (.val j τ v))=AQ v (aJ C (ev τ) h op):=rfl
theorem Vx (op:Op) (j id:Nat) (x:AObj):j0 C op h (some (.new j id x))=sameAt x (h.get id):=rfl
theorem Ql (op:Op):j0 C op h none=true:=rfl
theorem Te (i j:Nat) (τ:List (List Value)) (v:Value) (r:List Rec):io i (.val j τ v::r)=if j=i then some (.val j τ v)else io i r:=by
 rw[kT]
 by_cases e:j=i
 ·subst e;simp[Rec.idx]
 ·have:Nat.beq j i=false:=by cases hb:Nat.beq j i with|true=>exact absurd (dR hb) e|false=>rfl
  simp[Rec.idx,this,e]
theorem Tg (i j id:Nat) (x:AObj) (r:List Rec):io i (.new j id x::r)=if j=i then some (.new j id x)else io i r:=by
 rw[kT]
 by_cases e:j=i
 ·subst e;simp[Rec.idx]
 ·have:Nat.beq j i=false:=by cases hb:Nat.beq j i with|true=>exact absurd (dR hb) e|false=>rfl
  simp[Rec.idx,this,e]
theorem Tf (i:Nat):io i []=none:=rfl
theorem Qb (v v':Value):AQ v (some (.val v'))=dq v v':=rfl
def fj:Value ->Bool
 | .bool _=>true
 | .int _ _=>true
 | .string _=>true
 | .pointer _=>true
 | .slice _ _ _=>true
 | .map _=>true
 | .nilFunc=>true
 | .nilIface=>true
 | .func (.func _) xs ys=>xs.toList.isEmpty&&ys.toList.isEmpty
 |_=>false
theorem If (l:List UInt8):yi l l=true:=by
 induction l with
 |nil=>rfl
 |cons x l ih=>
  show(match Nat.beq x.toNat x.toNat with|true=>yi l l|false=>false)=true
  rw[Nat.beq_refl];exact ih
theorem qQ (a:Option Addr):kY a a=true:=by
 cases a with
 |none=>rfl
 |some a=>simp[kY]
theorem uc {v:Value} (h:fj v=true):mj v v=true:=by
 unfold fj at h
 split at h<;>try (simp at h;done)
 ·simp[mj]
 ·simp[mj]
 ·exact If _
 ·exact qQ _
 ·simp[mj,qQ]
 ·rename_i m;cases m<;>simp[mj]
 ·rfl
 ·rfl
 ·obtain⟨h1,h2⟩:=(Bool.and_eq_true _ _).mp h
  simp only[mj,h1,h2,Nat.beq_refl,Bool.and_self]
theorem qP {l:List Value} (h:l.all fj=true):lL l l=true:=by
 induction l with
 |nil=>rfl
 |cons x l ih=>
  rw[List.all_cons,Bool.and_eq_true]at h
  show(match mj x x with|true=>lL l l|false=>false)=true
  rw[uc h.1];exact ih h.2
theorem jD {v:Value} (h:fj v=true):dq v v=true:=by
 have hc:=uc h
 cases v<;>first
  |exact hc
  |(simp[fj]at h;done)
  |skip
 rename_i fn xs ys
 cases fn<;>try (simp[fj]at h;done)
 obtain⟨h1,h2⟩:=(Bool.and_eq_true _ _).mp (show(xs.toList.isEmpty&&ys.toList.isEmpty)=true from h)
 have e1:=fZ h1
 have e2:=fZ h2
 subst e1;subst e2
 simp[dq,oX,cU]
def GF:Value ->Bool
 | .agg xs=>xs.toList.all fj
 |v=>fj v
theorem I3 {v:Value} (h:GF v=true):yF v v=true:=by
 cases v with
 |agg xs=>exact qP h
 |_=>(simp only[GF]at h;simp only[yF];exact uc h)
theorem yE {l:List Value} (h:l.all GF=true):oX l l=true:=by
 induction l with
 |nil=>rfl
 |cons x l ih=>
  rw[List.all_cons,Bool.and_eq_true]at h
  show(match yF x x with|true=>oX l l|false=>false)=true
  rw[I3 h.1];exact ih h.2
theorem lK {f:FuncId} {l m:List Value} (h1:l.all GF=true) (h2:m.all GF=true):dq (.func (.func f) ⟨l⟩ ⟨m⟩) (.func (.func f) ⟨l⟩ ⟨m⟩)=true:=by
 simp[dq,yE h1,yE h2]
theorem mi (l:Nat):dq (.func (.yield l) ⟨[]⟩ ⟨[]⟩) (.func (.yield l) ⟨[]⟩ ⟨[]⟩)=true:=by simp[dq]
theorem Dg {l:List Value} (h:l.all fj=true):dq (.agg ⟨l⟩) (.agg ⟨l⟩)=true:=qP h
theorem kX {l:List Value} (s:Nat) (h:l.all fj=true):sameAt (.row l s true) (some (.row l s true))=true:=by
 simp[sameAt,GI,qP h]
theorem Mr (c:Nat):sameAt (.map [] c) (some (.map [] c))=true:=by simp[sameAt,GI]
end
theorem Y9 (x:Operand):bt (.move x)=false:=rfl
theorem XQ (C:Ctx) (ρ:Operand ->Value) (h:Heap) (x:Operand):aJ C ρ h (.move x)=aY (ρ x):=rfl
theorem Tx (x:Operand):bt (.assign x)=false:=rfl
theorem OD (C:Ctx) (ρ:Operand ->Value) (h:Heap) (x:Operand):aJ C ρ h (.assign x)=aY (ρ x):=rfl
theorem Y7 (c a b:Operand):bt (.pick c a b)=false:=rfl
theorem XP (C:Ctx) (ρ:Operand ->Value) (h:Heap) (c a b:Operand):aJ C ρ h (.pick c a b)=Ct (ρ a) (ρ b) (ρ c):=rfl
theorem Wt (t:TypeId):bt (.alloc t)=false:=rfl
theorem UX (C:Ctx) (ρ:Operand ->Value) (h:Heap) (t:TypeId):aJ C ρ h (.alloc t)=Cu C t:=rfl
theorem e_box (t:TypeId) (x:Operand):bt (.box t x)=false:=rfl
theorem v_box (C:Ctx) (ρ:Operand ->Value) (h:Heap) (t:TypeId) (x:Operand):aJ C ρ h (.box t x)=NO (ρ x):=rfl
theorem Wq (t:TypeId) (p:Array (Nat×Operand)):bt (.build t p)=false:=rfl
theorem UV (C:Ctx) (ρ:Operand ->Value) (h:Heap) (t:TypeId) (p:Array (Nat×Operand)):aJ C ρ h (.build t p)=ae (cJ C t (kL ρ p)) aY:=rfl
theorem EW (t:TypeId) (n:Nat) (p:Array (Nat×Operand)):bt (.buildSlice t n p)=false:=rfl
theorem D8 (C:Ctx) (ρ:Operand ->Value) (h:Heap) (t:TypeId) (n:Nat) (p:Array (Nat×Operand)):aJ C ρ h (.buildSlice t n p)=bn C t n (kL ρ p):=rfl
theorem Za (t:TypeId) (a:Operand):bt (.load t a)=false:=rfl
theorem XR (C:Ctx) (ρ:Operand ->Value) (h:Heap) (t:TypeId) (a:Operand):aJ C ρ h (.load t a)=ae (bx C t (ρ a) h) aY:=rfl
theorem JZ (x:Operand):bt (.nilCheck x)=false:=rfl
theorem IK (C:Ctx) (ρ:Operand ->Value) (h:Heap) (x:Operand):aJ C ρ h (.nilCheck x)=ir C (ρ x):=rfl
theorem Wr (op:BinOp) (t:TypeId) (x y:Operand) (u:TypeId):bt (.binOp op t x y u)=false:=rfl
theorem UW (C:Ctx) (ρ:Operand ->Value) (h:Heap) (op:BinOp) (t:TypeId) (x y:Operand) (u:TypeId):aJ C ρ h (.binOp op t x y u)=ae (eI C op t (dF x||dF y) (ρ x) (ρ y)) aY:=rfl
theorem Y6 (op:UnOp) (t:TypeId) (x:Operand):bt (.unOp op t x)=false:=rfl
theorem XO (C:Ctx) (ρ:Operand ->Value) (h:Heap) (op:UnOp) (t:TypeId) (x:Operand):aJ C ρ h (.unOp op t x)=ae (Zt C.P op (ρ x)) aY:=rfl
theorem Nq (a b:TypeId) (x:Operand):bt (.convert a b x)=false:=rfl
theorem L4 (C:Ctx) (ρ:Operand ->Value) (h:Heap) (a b:TypeId) (x:Operand):aJ C ρ h (.convert a b x)=ka C a b (ρ x) h:=rfl
theorem zd (t:TypeId) (x:Operand):bt (.makeInterface t x)=false:=rfl
theorem y6 (C:Ctx) (ρ:Operand ->Value) (h:Heap) (t:TypeId) (x:Operand):aJ C ρ h (.makeInterface t x)=fM C t (ρ x):=rfl
theorem J0 (fn:Fn) (a b:Array Operand):bt (.makeFunc fn a b)=false:=rfl
theorem IL (C:Ctx) (ρ:Operand ->Value) (h:Heap) (fn:Fn) (a b:Array Operand):aJ C ρ h (.makeFunc fn a b)=oy ρ fn a b:=rfl
theorem No (t:TypeId) (r:Option Operand):bt (.makeMap t r)=false:=rfl
theorem L1 (C:Ctx) (ρ:Operand ->Value) (h:Heap) (t:TypeId) (r:Option Operand):aJ C ρ h (.makeMap t r)=lY r:=rfl
theorem HZ (t:TypeId) (a b:Operand):bt (.makeSlice t a b)=false:=rfl
theorem FZ (C:Ctx) (ρ:Operand ->Value) (h:Heap) (t:TypeId) (a b:Operand):aJ C ρ h (.makeSlice t a b)=lX C t (ρ a) (ρ b):=rfl
theorem Wm (t:TypeId) (x:Operand) (a b m:Option Operand):bt (.slice t x a b m)=false:=rfl
theorem US (C:Ctx) (ρ:Operand ->Value) (h:Heap) (t:TypeId) (x:Operand) (a b m:Option Operand):aJ C ρ h (.slice t x a b m)=ae (jb C t (ρ x) (a.map ρ) (b.map ρ) (m.map ρ)) aY:=rfl
theorem H4 (t:TypeId) (x:Operand) (i:Nat):bt (.fieldAddr t x i)=false:=rfl
theorem F6 (C:Ctx) (ρ:Operand ->Value) (h:Heap) (t:TypeId) (x:Operand) (i:Nat):aJ C ρ h (.fieldAddr t x i)=ai C t (ρ x) i:=rfl
theorem Wp (t:TypeId) (x:Operand) (i:Nat):bt (.field t x i)=false:=rfl
theorem UU (C:Ctx) (ρ:Operand ->Value) (h:Heap) (t:TypeId) (x:Operand) (i:Nat):aJ C ρ h (.field t x i)=Fj C t (ρ x) i:=rfl
theorem H0 (t:TypeId) (x i:Operand):bt (.indexAddr t x i)=false:=rfl
theorem F3 (C:Ctx) (ρ:Operand ->Value) (h:Heap) (t:TypeId) (x i:Operand):aJ C ρ h (.indexAddr t x i)=ae (aD C t (ρ x) (ρ i)) aY:=rfl
theorem Wo (t:TypeId) (x i:Operand):bt (.index t x i)=false:=rfl
theorem UT (C:Ctx) (ρ:Operand ->Value) (h:Heap) (t:TypeId) (x i:Operand):aJ C ρ h (.index t x i)=ae (cD C t (ρ x) (ρ i)) aY:=rfl
theorem Tu (t:TypeId) (m x:Operand) (ok:Bool):bt (.lookup t m x ok)=false:=rfl
theorem OC (C:Ctx) (ρ:Operand ->Value) (h:Heap) (t:TypeId) (m x:Operand) (ok:Bool):aJ C ρ h (.lookup t m x ok)=ae (mF C t (ρ m) (ρ x) ok h) aY:=rfl
theorem EU (x:Operand) (u t:TypeId) (ok:Bool):bt (.typeAssert x u t ok)=false:=rfl
theorem D7 (C:Ctx) (ρ:Operand ->Value) (h:Heap) (x:Operand) (u t:TypeId) (ok:Bool):aJ C ρ h (.typeAssert x u t ok)=ae (gW C (ρ x) t ok) aY:=rfl
theorem Np (x:Operand) (i:Nat):bt (.extract x i)=false:=rfl
theorem L3 (C:Ctx) (ρ:Operand ->Value) (h:Heap) (x:Operand) (i:Nat):aJ C ρ h (.extract x i)=rP (ρ x) i:=rfl
theorem Wl (t:TypeId) (a v:Operand):bt (.store t a v)=true:=rfl
theorem HY (t:TypeId) (m x v:Operand):bt (.mapUpdate t m x v)=true:=rfl
theorem Tw (t:TypeId) (m x v:Operand):bt (.insert t m x v)=true:=rfl
theorem Wn (t:TypeId) (x:Operand):bt (.range t x)=true:=rfl
theorem Y8 (i:Operand) (b:Bool):bt (.next i b)=true:=rfl
theorem Zb (f:Operand) (xs:Array Operand) (ts:Array TypeId):bt (.call ⟨.value f,xs,ts⟩)=true:=rfl
theorem Tv (f:Operand) (n:String) (xs:Array Operand) (ts:Array TypeId):bt (.call ⟨.invoke f n,xs,ts⟩)=true:=rfl
theorem Ze (xs:Array Operand) (ts:Array TypeId):bt (.call ⟨.builtin .len,xs,ts⟩)=false:=rfl
theorem Zc (xs:Array Operand) (ts:Array TypeId):bt (.call ⟨.builtin .min,xs,ts⟩)=false:=rfl
theorem Zd (xs:Array Operand) (ts:Array TypeId):bt (.call ⟨.builtin .max,xs,ts⟩)=false:=rfl
theorem Ns (xs:Array Operand) (ts:Array TypeId):bt (.call ⟨.builtin .append,xs,ts⟩)=true:=rfl
theorem Ws (xs:Array Operand) (ts:Array TypeId):bt (.call ⟨.builtin .copy,xs,ts⟩)=true:=rfl
theorem Nr (xs:Array Operand) (ts:Array TypeId):bt (.call ⟨.builtin .delete,xs,ts⟩)=true:=rfl
theorem J1 (xs:Array Operand) (ts:Array TypeId):bt (.call ⟨.builtin .recover,xs,ts⟩)=true:=rfl
theorem v_len (C:Ctx) (ρ:Operand ->Value) (h:Heap) (t:TypeId) (ts:List TypeId) (x:Operand) (xs:List Operand):aJ C ρ h (.call ⟨.builtin .len,⟨x::xs⟩,⟨t::ts⟩⟩)=ae (mg C t (ρ x) h) aY:=rfl
theorem v_min (C:Ctx) (ρ:Operand ->Value) (h:Heap) (ts:Array TypeId) (x:Operand) (xs:List Operand):aJ C ρ h (.call ⟨.builtin .min,⟨x::xs⟩,ts⟩)=ae (tQ min2 (xs.map ρ) (ρ x)) aY:=rfl
theorem v_max (C:Ctx) (ρ:Operand ->Value) (h:Heap) (ts:Array TypeId) (x:Operand) (xs:List Operand):aJ C ρ h (.call ⟨.builtin .max,⟨x::xs⟩,ts⟩)=ae (tQ max2 (xs.map ρ) (ρ x)) aY:=rfl
theorem w_eff {C:Ctx} {rd:Option Nat} {ops:List Oper} {k:List Item} {s:FrS} {h:Heap} {pl:List PE} {rs:List Rec} {i:Nat} {dst:Option Tmp} {ty:TypeId} {pos:String} {aft:Array Edge} (op:Op) (g:Option (Nat×Bool)) (he:bt op=true):
  RPw C rd ops pl k rs s h i ⟨dst,op,ty,pos,aft,g⟩ true=Iv C rd ops pl k rs (c9 C (bH C) rd dst s h op):=by rw[OB];simp only[he]
theorem UR {C:Ctx} {rd:Option Nat} {ops:List Oper} {k:List Item} {s:FrS} {h:Heap} {pl:List PE} {rs:List Rec} {i:Nat} {dst:Option Tmp} {ty:TypeId} {pos:String} {aft:Array Edge} (op:Op) (g:Option (Nat×Bool)) (he:bt op=false):
  RPw C rd ops pl k rs s h i ⟨dst,op,ty,pos,aft,g⟩ true=ZD C rd ops pl k rs i dst s h (aJ C (ev s.tmps) h op):=by rw[OB];simp only[he]
end Go.Am

namespace Go.Am
open Go Go.Proofs
noncomputable def FT:NT Func:=NT.ofFn (fun i=>Tryz.prog.funcs[i]?) 9
noncomputable def TT:NT TypeInfo:=NT.ofFn (fun i=>Tryz.prog.types[i]?) 9
noncomputable def iS (t:Nat):Bool:=Nat.beq t 221||(Nat.beq t 285||(Nat.beq t 353||(Nat.beq t 387||(Nat.beq t 344||Nat.beq t 428))))
noncomputable def XB (_:Nat):Option yp:=none
noncomputable def C0:Ctx:=Ctx.mk Tryz.prog FT TT iS XB
noncomputable def sQ:yp
 |[],h=>some (.ret (.bool true) h none)
 |_,_=>none
noncomputable def IT (f:Nat):Option yp:=match Nat.beq f 7 with|true=>some sQ|false=>XB f
noncomputable def CC:Ctx:=Ctx.mk Tryz.prog FT TT iS IT
noncomputable def T1 (C:Ctx) (t:Nat):Bool:=match C.und t with|some d=>jT d|none=>false
noncomputable def K3 (C:Ctx) (t:Nat):Bool:=match C.und t with|some d=> !(jT d)|none=>false
theorem ig {C:Ctx} {t:TypeId} (h:K3 C t=true) (cells:List Value) (o:Nat):cO C t cells o=cells[o]? :=by
 unfold K3 at h
 split at h
 ·rename_i d hd;exact Qu hd (by simpa using h) cells o
 ·simp at h
theorem dp {C:Ctx} {t:TypeId} {n:Nat} (h:T1 C t=true) (hs:C.size t=some n) (cells:List Value) (o:Nat):cO C t cells o=ae (aA cells o n) fun l=>some (br l):=by
 unfold T1 at h
 split at h
 ·rename_i d hd;exact Qv hd h hs cells o
 ·simp at h
theorem bA {C:Ctx} {t:TypeId} (ha:K3 C t=true) (b p:Nat) (sp:Option Nat) (h:Heap):bx C t (.pointer (some ⟨b,p,sp⟩)) h=ae (rowAt h b) fun l=>l[p]? :=by
 rw[Um];simp only[ig ha]
theorem bK {C:Ctx} {t:TypeId} {n:Nat} (ha:T1 C t=true) (hs:C.size t=some n) (b p:Nat) (sp:Option Nat) (h:Heap):bx C t (.pointer (some ⟨b,p,sp⟩)) h=ae (rowAt h b) fun l=>ae (aA l p n) fun l=>some (br l):=by
 rw[Um];simp only[dp ha hs]
theorem dM {C:Ctx} {t e:TypeId} {n:Nat} (hu:C.und t=some (.slice e)) (hs:C.size e=some n) (b o:Nat) (sp:Option Nat) (len cap i:Nat) (hi:i<len):aD C t (.slice (some ⟨b,o,sp⟩) len cap) (.int .i64 i)=some (.pointer (some ⟨b,o+i*n,none⟩)):=
 ED hu hs ⟨b,o,sp⟩ len cap .i64 i hi
noncomputable def Gc (C:Ctx) (t:Nat):Bool:=match C.und t with|some (.struct _)=>true|_=>false
theorem bL {C:Ctx} {t:Nat} {z:Value} (h:Gc C t=true) (hz:C.zero t=some z) (p:List (Nat×Value)):cJ C t p=ae (bu (ak C t) p (cellsOf z)) fun l=>some (br l):=by
 unfold Gc at h
 split at h
 ·rename_i fs hd;unfold cJ;rw[hz,hd];rfl
 ·simp at h
theorem j9 {C:Ctx} {t e n:Nat} {z:Value} {m:Nat} (h:C.und t=some (.array m e)) (hs:C.size e=some n) (hz:C.zero t=some z) (p:List (Nat×Value)):cJ C t p=ae (bu (eX n) p (cellsOf z)) fun l=>some (br l):=by
 unfold cJ;rw[hz,h];simp only[au,Fe,hs]
theorem ao {C:Ctx} {t i o u z:Nat} (h:C.fieldAt t i=some (o,u,z)):ak C t i=some (o,z):=by unfold ak;rw[h];rfl
noncomputable def K4 (C:Ctx) (t:Nat):Bool:=match C.und t with|some d=> !(eB d)|none=>false
theorem pi {C:Ctx} {t:Nat} (h:K4 C t=true) (v:Value):fM C t v=some (.val (.iface t v)):=by
 unfold K4 at h
 split at h
 ·rename_i d hd;unfold fM;rw[hd];simp only[au,h,aK];rfl
 ·simp at h
theorem bD {C:Ctx} {t e n:Nat} {m:Nat} (h:C.und t=some (.array m e)) (hs:C.size e=some n) (ho:K3 C e=true) (l:List Value) (i:Nat) (hi:i<m):cD C t (.agg ⟨l⟩) (.int .i64 i)=l[i*n]? :=by
 unfold cD;rw[h]
 show ae (j6 m i) _=_
 have:Nat.ble (i+1) m=true:=Nat.ble_eq_true_of_le hi
 show ae (aX (Nat.ble (i+1) m) (some i)) _=_
 rw[this];simp only[aK,au,hs,ig ho]
theorem aH {C:Ctx} {t e n:Nat} {m:Nat} (h:C.und t=some (.array m e)) (hs:C.size e=some n) (b o:Nat) (sp:Option Nat) (i:Nat) (hi:i<m):aD C t (.pointer (some ⟨b,o,sp⟩)) (.int .i64 i)=some (.pointer (some ⟨b,o+i*n,none⟩)):=by
 unfold aD;rw[h]
 have:Nat.ble (i+1) m=true:=Nat.ble_eq_true_of_le hi
 show ae (aX (Nat.ble (i+1) m) (some i)) _=_
 rw[this];simp only[aK,au,hs,yo]
theorem rJ {C:Ctx} {t e:Nat} {z v:Value} (h:C.und t=some (.slice e)) (hs:C.size e=some 1) (hz:C.zero e=some z) (h1:(cellsOf z).length=1) (h2:cellsOf v=[v]):bn C t 1 [(0,v)]=some (.new (.row [v] 1 true) (aG 1 1 1)):=by
 have hz1:(cellsOf z)=[(cellsOf z).headD v]:=by
  cases hc:cellsOf z with
  |nil=>rw[hc]at h1;simp at h1
  |cons a l=>rw[hc]at h1;cases l<;>simp at h1⊢
 unfold bn;rw[h]
 simp only[au,dy,uP,hs,hz]
 have e1:Nat.beq (cellsOf z).length 1=true:=by rw[h1];rfl
 rw[e1]
 simp only[aK,au]
 show aX true (ae (bu (eX 1) [(0,v)] (cellsOf z++[])) _)=_
 rw[List.append_nil,aK]
 show ae (ae (yP (eX 1) (cellsOf z) (0,v)) fun c=>some c) _=_
 unfold yP
 show ae (ae (aX (Nat.beq (cellsOf v).length 1) (aX (Nat.ble (0+1) (cellsOf z).length) _)) _) _=_
 rw[h2,h1]
 show some (EV.new (AObj.row ((cellsOf z).take (0*1)++([v]++(cellsOf z).drop (0*1+1))) 1 true) (aG 1 1 1))=_
 rw[hz1];rfl
noncomputable def appB (C:Ctx) (t u s:Nat):Bool:=match C.und t with
 |some (.slice e)=>(match C.T.get e with|some i=>Nat.beq i.size s&&(Nat.ble i.bytes 1024&&lk i.size (C.zero e))|none=>false)&&(match C.und u with|some d=>QW d|none=>false)
 |_=>false
theorem qE {C:Ctx} {t u s:Nat} (h:appB C t u s=true):AppT C t u s:=by
 unfold appB at h
 split at h
 ·rename_i e he
  obtain⟨h1,h2⟩:=(Bool.and_eq_true _ _).mp h
  split at h1
  ·rename_i i hi
   obtain⟨h3,h4⟩:=(Bool.and_eq_true _ _).mp h1
   obtain⟨h4,h5⟩:=(Bool.and_eq_true _ _).mp h4
   split at h2
   ·rename_i d hd
    exact⟨e,i,d,he,hi,Nat.eq_of_beq_eq_true h3,Nat.le_of_ble_eq_true h4,hd,h2,h5⟩
   ·simp at h2
  ·simp at h1
 ·simp at h
end Go.Am

namespace Go.Am
open Go Go.Proofs
def Y3 (d:Nat) (xs ys:Array Value):List (TypeId×Nat) ->Sem Bool
 |[]=>pure true
 |(t,o)::fs=>do
  let a<-part t xs o
  let b<-part t ys o
  let r<-Op.equalIn d t a b
  if(!r)=true then pure false else Y3 d xs ys fs
theorem yQ (d:Nat) (xs ys:Array Value): ∀fs:List Field,fs.all (fun f=>f.name != "_")=true ->Op.eqFields d xs ys fs=Y3 d xs ys (fs.map fun f=>(f.type,f.offset))
 |[],_=>rfl
 |f::fs,h=>by
  rw[List.all_cons,Bool.and_eq_true]at h
  have hn:f.name≠ "_" :=by simpa using h.1
  rw[Op.eqFields,if_pos hn,List.map_cons,Y3,yQ d xs ys fs h.2]
section
variable {P:Program} {w:World} {d:Nat}
theorem fQ {t:TypeId} {o:Nat} {fs:List (TypeId×Nat)} {xs ys:Array Value} {a b:Value} {r:Bool} (ha:(part t xs o).run P w= .ok a w) (hb:(part t ys o).run P w= .ok b w) (hr:(Op.equalIn d t a b).run P w= .ok r w):
  (Y3 d xs ys ((t,o)::fs)).run P w=if r=true then(Y3 d xs ys fs).run P w else .ok false w:=by
 simp only[Y3,Sem.run_bind,ha,hb,hr,Result.andThen_ok]
 cases r<;>simp
theorem mN {t:TypeId} {k:IntKind} (hu:P.underlying t=some (.int k)) (q:IntKind) (a b:Int):(Op.equalIn (d+1) t (.int q a) (.int q b)).run P w= .ok (a==b) w:=by
 simp[Op.equalIn,run_underlying hu]
theorem aS {t:TypeId} {k:TypeDesc} (hu:P.underlying t=some k) (hk:jT k=false) {xs:Array Value} {o:Nat} {v:Value} (hv:xs[o]? =some v):(part t xs o).run P w= .ok v w:=by
 have:(isAgg t).run P w= .ok false w:=by
  unfold isAgg;simp only[Sem.run_bind,run_underlying hu,Result.andThen_ok]
  cases k<;>first|rfl|(simp[jT]at hk)
 unfold part
 simp[this,hv]
theorem ta {t:TypeId} {fs:List (TypeId×Nat)} {xs ys:Array Value} (hu:P.underlying t=some (.struct (P.fieldsOf t))) (hp:P.stoodInHeld t=false) (hn:(P.fieldsOf t).toList.all (fun f=>f.name != "_")=true) (hf:((P.fieldsOf t).toList.map fun f=>(f.type,f.offset))=fs):
  (Op.equalIn (d+1) t (.agg xs) (.agg ys)).run P w=(Y3 d xs ys fs).run P w:=by
 rw[run_equalIn_struct w d t xs ys hu hp,yQ d xs ys _ hn,hf]
end
theorem mP {a b:Int} {r:Bool} {X:Result Bool} {w:World} (h1:a=b ->X= .ok r w) (h2: ¬a=b ->r=false):(if(a==b)=true then X else .ok false w)= .ok r w:=by
 by_cases h:a=b
 ·rw[if_pos (by simpa using h)];exact h1 h
 ·rw[if_neg (by simpa using h),h2 h]
theorem W0 {a b:Bool} {r:Bool} {X:Result Bool} {w:World} (h1:a=b ->X= .ok r w) (h2: ¬a=b ->r=false):(if(a==b)=true then X else .ok false w)= .ok r w:=by
 by_cases h:a=b
 ·rw[if_pos (by simpa using h)];exact h1 h
 ·rw[if_neg (by simpa using h),h2 h]
theorem Du {z v:Value} {l m:List Value} (h:cW (z::l) m=true): ∃y r,m=y::r/\ jl z y=true/\ cW l r=true:=by
 cases m with
 |nil=>simp[cW,nU]at h
 |cons y r=>
  have h:(match jl z y with|true=>cW l r|false=>false)=true:=h
  cases hk:jl z y with
  |false=>rw[hk]at h;simp at h
  |true=>rw[hk]at h;exact⟨y,r,rfl,hk,h⟩
theorem bM {k:IntKind} {n:Int} {l m:List Value} (h:cW (.int k n::l) m=true): ∃a r,m= .int k a::r/\ cW l r=true:=by
 obtain⟨y,r,e,h1,h2⟩:=Du (v:= .int k n) h
 cases y<;>simp[jl]at h1
 subst h1
 exact⟨_,r,e,h2⟩
theorem xi {b:Bool} {l m:List Value} (h:cW (.bool b::l) m=true): ∃a r,m= .bool a::r/\ cW l r=true:=by
 obtain⟨y,r,e,h1,h2⟩:=Du (v:= .bool b) h
 cases y<;>simp[jl]at h1
 exact⟨_,r,e,h2⟩
theorem jp {m:List Value} (h:cW [] m=true):m=[]:=by
 cases m with
 |nil=>rfl
 |cons y r=>simp[cW,cU]at h
theorem pQ {xs:Array Value} {l:List Value} (h:xs.toList=l):xs=⟨l⟩:=by rw[<-h]
theorem e8 {k:IntKind} {a b:Int} {l m:List Value} {r:Bool} (h:bP (.int k a::l) (.int k b::m)=some r):(a=b ->bP l m=some r)/\ (¬a=b ->r=false):=by
 have h:(match dH (.int k a) (.int k b)with|some true=>bP l m|some false=>some false|none=>none)=some r:=h
 simp only[dH,if_true]at h
 constructor
 ·rintro rfl;simpa using h
 ·intro hn
  have:(a==b)=false:=by simpa using hn
  rw[this]at h;simpa using h.symm
theorem LE {a b:Bool} {l m:List Value} {r:Bool} (h:bP (.bool a::l) (.bool b::m)=some r):(a=b ->bP l m=some r)/\ (¬a=b ->r=false):=by
 have h:(match dH (.bool a) (.bool b)with|some true=>bP l m|some false=>some false|none=>none)=some r:=h
 simp only[dH]at h
 constructor
 ·rintro rfl;simpa using h
 ·intro hn
  have:(a==b)=false:=by simpa using hn
  rw[this]at h;simpa using h.symm
theorem Fa {r:Bool} (h:bP [] []=some r):r=true:=by
 have:some true=some r:=h
 simpa using this.symm
theorem dV {P:Program} {w:World} {t:TypeId} {k:TypeDesc} (hu:P.underlying t=some k) (hk:(match k with| .int _=>true| .bool=>true| .string=>true|_=>false)=true) {v:Value} (hv:basic v=true) (em:Bool) (d:Nat):(Instr.checkKey em (d+1) t v).run P w= .ok () w:=by
 rw[Instr.checkKey]
 simp only[Sem.run_bind,run_underlying hu,Result.andThen_ok]
 cases k<;>first|(simp at hk;done)|(cases v<;>first|rfl|(simp[basic]at hv;done))
theorem pq {P:Program} {w:World} {t:TypeId} {fs:List (TypeId×Nat)} {xs:Array Value} {em:Bool} {d:Nat} (hu:P.underlying t=some (.struct (P.fieldsOf t))) (hn:(P.fieldsOf t).toList.all (fun f=>f.name != "_")=true) (hf:((P.fieldsOf t).toList.map fun f=>(f.type,f.offset))=fs)
  (h: ∀p∈fs,∃a,(part p.1 xs p.2).run P w= .ok a w/\ (Instr.checkKey em d p.1 a).run P w= .ok () w):(Instr.checkKey em (d+1) t (.agg xs)).run P w= .ok () w:=by
 rw[Instr.checkKey]
 simp only[Sem.run_bind,run_underlying hu,Result.andThen_ok]
 rw[<-Array.forIn_toList]
 have each: ∀f∈(P.fieldsOf t).toList,f.name≠ "_" /\ ∃a,(part f.type xs f.offset).run P w= .ok a w/\ (Instr.checkKey em d f.type a).run P w= .ok () w:=fun f hf'=>by
  refine⟨by simpa using List.all_eq_true.1 hn f hf',h (f.type,f.offset) ?_⟩
  rw[<-hf];exact List.mem_map.2 ⟨f,hf',rfl⟩
 clear hf hn hu h
 generalize(P.fieldsOf t).toList=L at each
 induction L with
 |nil=>simp
 |cons f L ih=>
  obtain⟨hn,a,p1,p2⟩:=each f (by simp)
  simp only[List.forIn_cons,Sem.run_bind,hn,ne_eq,not_false_eq_true,if_true,Result.andThen_ok,p1,p2,Sem.run_pure]
  exact ih (fun y hy=>each y (by simp[hy]))
section
variable {t:TypeId} (hu:Tryz.prog.underlying t=some (.struct (Tryz.prog.fieldsOf t))) (hp:Tryz.prog.stoodInHeld t=false) (hn:(Tryz.prog.fieldsOf t).toList.all (fun f=>f.name != "_")=true) (hf:((Tryz.prog.fieldsOf t).toList.map fun f=>(f.type,f.offset))=[(3,0),(3,1)])
include hu hn hf
include hp in
theorem Y1 (d:Nat) (w:World) {a b a' b':Int} {r:Bool} (h:bP [.int .i64 a, .int .i64 b] [.int .i64 a', .int .i64 b']=some r):
  (Op.equalIn (d+2) t (.agg ⟨[.int .i64 a, .int .i64 b]⟩) (.agg ⟨[.int .i64 a', .int .i64 b']⟩)).run Tryz.prog w= .ok r w:=by
 rw[ta hu hp hn hf]
 rw[fQ (aS Tryz.underlying3 rfl rfl) (aS Tryz.underlying3 rfl rfl) (mN Tryz.underlying3 _ _ _)]
 refine mP (fun he=> ?_) (e8 h).2
 have h:=(e8 h).1 he
 rw[fQ (aS Tryz.underlying3 rfl rfl) (aS Tryz.underlying3 rfl rfl) (mN Tryz.underlying3 _ _ _)]
 refine mP (fun he=> ?_) (e8 h).2
 have h:=(e8 h).1 he
 rw[Fa h];rfl
theorem VT (em:Bool) (d:Nat) (w:World) (a b:Int):(Instr.checkKey em (d+2) t (.agg ⟨[.int .i64 a, .int .i64 b]⟩)).run Tryz.prog w= .ok () w:=by
 refine pq hu hn hf fun p hp=> ?_
 simp only[List.mem_cons,List.not_mem_nil,or_false]at hp
 rcases hp with rfl|rfl
 ·exact⟨_,aS Tryz.underlying3 rfl rfl,dV Tryz.underlying3 rfl rfl _ _⟩
 ·exact⟨_,aS Tryz.underlying3 rfl rfl,dV Tryz.underlying3 rfl rfl _ _⟩
include hp in
theorem u3 (hg:Tryz.prog.eqGuardType Tryz.prog.depth t=false):EqSpec Tryz.prog t [.int .i64 0, .int .i64 0]where
 eq:=by
  intro xs ys r hx hy h w
  obtain⟨a,l1,e,hx1⟩:=bM hx
  obtain⟨b,l2,qhx2,hx2⟩:=bM hx1
  have qn:=jp hx2
  subst qn
  subst qhx2
  rw[e]at hy
  obtain⟨a',l1,e',hy1⟩:=bM hy
  obtain⟨b',l2,qhy2,hy2⟩:=bM hy1
  have qn:=jp hy2
  subst qn
  subst qhy2
  rw[e,e']at h
  rw[pQ e,pQ e']
  exact Y1 hu hp hn hf 9998 w h
 guard:=hg
 key:=by
  intro cs n _ _ hx em w
  obtain⟨a,l1,e,hx1⟩:=bM hx
  obtain⟨b,l2,qhx2,hx2⟩:=bM hx1
  have qn:=jp hx2
  subst qn
  subst qhx2
  rw[pQ e]
  exact VT hu hn hf em 9998 w a b
end
theorem wT:EqSpec Tryz.prog 221 [.int .i64 0, .int .i64 0]:=u3 (by kernel_rfl) (by kernel_rfl) (by kernel_rfl) (by kernel_rfl) (by kernel_rfl)
theorem AE:EqSpec Tryz.prog 285 [.int .i64 0, .int .i64 0]:=u3 (by kernel_rfl) (by kernel_rfl) (by kernel_rfl) (by kernel_rfl) (by kernel_rfl)
theorem AB:EqSpec Tryz.prog 344 [.int .i64 0, .int .i64 0]:=u3 (by kernel_rfl) (by kernel_rfl) (by kernel_rfl) (by kernel_rfl) (by kernel_rfl)
theorem AD:EqSpec Tryz.prog 387 [.int .i64 0, .int .i64 0]:=u3 (by kernel_rfl) (by kernel_rfl) (by kernel_rfl) (by kernel_rfl) (by kernel_rfl)
theorem eq41 (d:Nat) (w:World) {a b c e a' b' c' e':Int} {f f':Bool} {r:Bool} (h:bP [.int .i64 a, .int .i64 b, .int .i64 c, .int .i64 e, .bool f] [.int .i64 a', .int .i64 b', .int .i64 c', .int .i64 e', .bool f']=some r):
  (Op.equalIn (d+2) 166 (.agg ⟨[.int .i64 a, .int .i64 b, .int .i64 c, .int .i64 e, .bool f]⟩) (.agg ⟨[.int .i64 a', .int .i64 b', .int .i64 c', .int .i64 e', .bool f']⟩)).run Tryz.prog w= .ok r w:=by
 rw[ta (fs:=[(163,0),(3,1),(3,2),(164,3),(4,4)]) (by kernel_rfl) (by kernel_rfl) (by kernel_rfl) (by kernel_rfl)]
 rw[fQ (aS Tryz.underlying163 rfl rfl) (aS Tryz.underlying163 rfl rfl) (mN Tryz.underlying163 _ _ _)]
 refine mP (fun he=> ?_) (e8 h).2
 have h:=(e8 h).1 he
 rw[fQ (aS Tryz.underlying3 rfl rfl) (aS Tryz.underlying3 rfl rfl) (mN Tryz.underlying3 _ _ _)]
 refine mP (fun he=> ?_) (e8 h).2
 have h:=(e8 h).1 he
 rw[fQ (aS Tryz.underlying3 rfl rfl) (aS Tryz.underlying3 rfl rfl) (mN Tryz.underlying3 _ _ _)]
 refine mP (fun he=> ?_) (e8 h).2
 have h:=(e8 h).1 he
 rw[fQ (aS Tryz.underlying164 rfl rfl) (aS Tryz.underlying164 rfl rfl) (mN Tryz.underlying164 _ _ _)]
 refine mP (fun he=> ?_) (e8 h).2
 have h:=(e8 h).1 he
 rw[fQ (aS Tryz.underlying4 rfl rfl) (aS Tryz.underlying4 rfl rfl) (run_equalIn_bool w _ _ _ _ Tryz.underlying4)]
 refine W0 (fun he=> ?_) (LE h).2
 have h:=(LE h).1 he
 rw[Fa h];rfl
theorem key41 (em:Bool) (d:Nat) (w:World) (a b c e:Int) (f:Bool):(Instr.checkKey em (d+2) 166 (.agg ⟨[.int .i64 a, .int .i64 b, .int .i64 c, .int .i64 e, .bool f]⟩)).run Tryz.prog w= .ok () w:=by
 refine pq (fs:=[(163,0),(3,1),(3,2),(164,3),(4,4)]) (by kernel_rfl) (by kernel_rfl) (by kernel_rfl) fun p hp=> ?_
 simp only[List.mem_cons,List.not_mem_nil,or_false]at hp
 rcases hp with rfl|rfl|rfl|rfl|rfl
 ·exact⟨_,aS Tryz.underlying163 rfl rfl,dV Tryz.underlying163 rfl rfl _ _⟩
 ·exact⟨_,aS Tryz.underlying3 rfl rfl,dV Tryz.underlying3 rfl rfl _ _⟩
 ·exact⟨_,aS Tryz.underlying3 rfl rfl,dV Tryz.underlying3 rfl rfl _ _⟩
 ·exact⟨_,aS Tryz.underlying164 rfl rfl,dV Tryz.underlying164 rfl rfl _ _⟩
 ·exact⟨_,aS Tryz.underlying4 rfl rfl,dV Tryz.underlying4 rfl rfl _ _⟩
theorem TC {l m l' m':List Value} {r:Bool} (hl:l.length=l'.length) (h:bP (l++m) (l'++m')=some r): ∃r1,bP l l'=some r1/\ (r1=true ->bP m m'=some r)/\ (r1=false ->r=false):=by
 induction l generalizing l' with
 |nil=>
  have:l'=[]:=List.eq_nil_of_length_eq_zero hl.symm
  subst this
  exact⟨true,rfl,fun _=>h,fun h=>by simp at h⟩
 |cons x l ih=>
  cases l' with
  |nil=>simp at hl
  |cons y l'=>
   have h:(match dH x y with|some true=>bP (l++m) (l'++m')|some false=>some false|none=>none)=some r:=h
   have e:bP (x::l) (y::l')=(match dH x y with|some true=>bP l l'|some false=>some false|none=>none):=rfl
   cases hc:dH x y with
   |none=>rw[hc]at h;simp at h
   |some q=>
    rw[hc]at h
    rw[e,hc]
    cases q with
    |false=>simp at h;exact⟨false,rfl,fun h=>by simp at h,fun _=>h⟩
    |true=>exact ih (by simpa using hl) h
theorem nest {r1 r:Bool} {X:Result Bool} {w:World} (h1:r1=true ->X= .ok r w) (h2:r1=false ->r=false):(if r1=true then X else .ok false w)= .ok r w:=by
 cases r1
 ·rw[if_neg (by simp),h2 rfl]
 ·rw[if_pos rfl];exact h1 rfl
theorem eq154 (d:Nat) (w:World) {a b c e a' b' c' e' q q':Int} {f f':Bool} {r:Bool} (h:bP [.int .i64 a, .int .i64 b, .int .i64 c, .int .i64 e, .bool f, .int .i64 q] [.int .i64 a', .int .i64 b', .int .i64 c', .int .i64 e', .bool f', .int .i64 q']=some r):
  (Op.equalIn (d+3) 353 (.agg ⟨[.int .i64 a, .int .i64 b, .int .i64 c, .int .i64 e, .bool f, .int .i64 q]⟩) (.agg ⟨[.int .i64 a', .int .i64 b', .int .i64 c', .int .i64 e', .bool f', .int .i64 q']⟩)).run Tryz.prog w= .ok r w:=by
 rw[ta (fs:=[(166,0),(3,5)]) (by kernel_rfl) (by kernel_rfl) (by kernel_rfl) (by kernel_rfl)]
 obtain⟨r1,h1,h2,h3⟩:=TC (l:=[.int .i64 a, .int .i64 b, .int .i64 c, .int .i64 e, .bool f]) (m:=[.int .i64 q]) (l':=[.int .i64 a', .int .i64 b', .int .i64 c', .int .i64 e', .bool f']) (m':=[.int .i64 q']) rfl h
 rw[fQ (a:= .agg ⟨[.int .i64 a, .int .i64 b, .int .i64 c, .int .i64 e, .bool f]⟩) (b:= .agg ⟨[.int .i64 a', .int .i64 b', .int .i64 c', .int .i64 e', .bool f']⟩) (by kernel_rfl) (by kernel_rfl) (eq41 d w h1)]
 refine nest (fun he=> ?_) h3
 have h:=h2 he
 rw[fQ (aS Tryz.underlying3 rfl rfl) (aS Tryz.underlying3 rfl rfl) (mN Tryz.underlying3 _ _ _)]
 refine mP (fun he=> ?_) (e8 h).2
 have h:=(e8 h).1 he
 rw[Fa h];rfl
theorem YQ (em:Bool) (d:Nat) (w:World) (a b c e:Int) (f:Bool) (q:Int):(Instr.checkKey em (d+3) 353 (.agg ⟨[.int .i64 a, .int .i64 b, .int .i64 c, .int .i64 e, .bool f, .int .i64 q]⟩)).run Tryz.prog w= .ok () w:=by
 refine pq (fs:=[(166,0),(3,5)]) (by kernel_rfl) (by kernel_rfl) (by kernel_rfl) fun p hp=> ?_
 simp only[List.mem_cons,List.not_mem_nil,or_false]at hp
 rcases hp with rfl|rfl
 ·exact⟨.agg ⟨[.int .i64 a, .int .i64 b, .int .i64 c, .int .i64 e, .bool f]⟩,by kernel_rfl,key41 em d w a b c e f⟩
 ·exact⟨_,aS Tryz.underlying3 rfl rfl,dV Tryz.underlying3 rfl rfl _ _⟩
theorem Vd:EqSpec Tryz.prog 353 [.int .i64 0, .int .i64 0, .int .i64 0, .int .i64 0, .bool false, .int .i64 0]where
 eq:=by
  intro xs ys r hx hy h w
  obtain⟨a,l1,e,hx1⟩:=bM hx
  obtain⟨b,l2,qhx2,hx2⟩:=bM hx1
  obtain⟨c,l3,qhx3,hx3⟩:=bM hx2
  obtain⟨d,l4,qhx4,hx4⟩:=bM hx3
  obtain⟨f,l5,qhx5,hx5⟩:=xi hx4
  obtain⟨q,l6,qhx6,hx6⟩:=bM hx5
  have qn:=jp hx6
  subst qn
  subst qhx6
  subst qhx5
  subst qhx4
  subst qhx3
  subst qhx2
  rw[e]at hy
  obtain⟨a',l1,e',hy1⟩:=bM hy
  obtain⟨b',l2,qhy2,hy2⟩:=bM hy1
  obtain⟨c',l3,qhy3,hy3⟩:=bM hy2
  obtain⟨d',l4,qhy4,hy4⟩:=bM hy3
  obtain⟨f',l5,qhy5,hy5⟩:=xi hy4
  obtain⟨q',l6,qhy6,hy6⟩:=bM hy5
  have qn:=jp hy6
  subst qn
  subst qhy6
  subst qhy5
  subst qhy4
  subst qhy3
  subst qhy2
  rw[e,e']at h
  rw[pQ e,pQ e']
  exact eq154 9997 w h
 guard:=by kernel_rfl
 key:=by
  intro cs n _ _ hx em w
  obtain⟨a,l1,e,hx1⟩:=bM hx
  obtain⟨b,l2,qhx2,hx2⟩:=bM hx1
  obtain⟨c,l3,qhx3,hx3⟩:=bM hx2
  obtain⟨d,l4,qhx4,hx4⟩:=bM hx3
  obtain⟨f,l5,qhx5,hx5⟩:=xi hx4
  obtain⟨q,l6,qhx6,hx6⟩:=bM hx5
  have qn:=jp hx6
  subst qn
  subst qhx6
  subst qhx5
  subst qhx4
  subst qhx3
  subst qhx2
  rw[pQ e]
  exact YQ em 9997 w a b c d f q
section
variable {t:TypeId} (hu:Tryz.prog.underlying t=some (.struct (Tryz.prog.fieldsOf t))) (hp:Tryz.prog.stoodInHeld t=false) (hn:(Tryz.prog.fieldsOf t).toList.all (fun f=>f.name != "_")=true) (hf:((Tryz.prog.fieldsOf t).toList.map fun f=>(f.type,f.offset))=[(3,0),(3,1),(3,2)])
include hu hn hf
include hp in
theorem Tq (d:Nat) (w:World) {a b c a' b' c':Int} {r:Bool} (h:bP [.int .i64 a, .int .i64 b, .int .i64 c] [.int .i64 a', .int .i64 b', .int .i64 c']=some r):
  (Op.equalIn (d+2) t (.agg ⟨[.int .i64 a, .int .i64 b, .int .i64 c]⟩) (.agg ⟨[.int .i64 a', .int .i64 b', .int .i64 c']⟩)).run Tryz.prog w= .ok r w:=by
 rw[ta hu hp hn hf]
 rw[fQ (aS Tryz.underlying3 rfl rfl) (aS Tryz.underlying3 rfl rfl) (mN Tryz.underlying3 _ _ _)]
 refine mP (fun he=> ?_) (e8 h).2
 have h:=(e8 h).1 he
 rw[fQ (aS Tryz.underlying3 rfl rfl) (aS Tryz.underlying3 rfl rfl) (mN Tryz.underlying3 _ _ _)]
 refine mP (fun he=> ?_) (e8 h).2
 have h:=(e8 h).1 he
 rw[fQ (aS Tryz.underlying3 rfl rfl) (aS Tryz.underlying3 rfl rfl) (mN Tryz.underlying3 _ _ _)]
 refine mP (fun he=> ?_) (e8 h).2
 have h:=(e8 h).1 he
 rw[Fa h];rfl
theorem ML (em:Bool) (d:Nat) (w:World) (a b c:Int):(Instr.checkKey em (d+2) t (.agg ⟨[.int .i64 a, .int .i64 b, .int .i64 c]⟩)).run Tryz.prog w= .ok () w:=by
 refine pq hu hn hf fun p hp=> ?_
 simp only[List.mem_cons,List.not_mem_nil,or_false]at hp
 rcases hp with rfl|rfl|rfl
 ·exact⟨_,aS Tryz.underlying3 rfl rfl,dV Tryz.underlying3 rfl rfl _ _⟩
 ·exact⟨_,aS Tryz.underlying3 rfl rfl,dV Tryz.underlying3 rfl rfl _ _⟩
 ·exact⟨_,aS Tryz.underlying3 rfl rfl,dV Tryz.underlying3 rfl rfl _ _⟩
include hp in
theorem IU (hg:Tryz.prog.eqGuardType Tryz.prog.depth t=false):EqSpec Tryz.prog t [.int .i64 0, .int .i64 0, .int .i64 0]where
 eq:=by
  intro xs ys r hx hy h w
  obtain⟨a,l1,e,hx1⟩:=bM hx
  obtain⟨b,l2,qhx2,hx2⟩:=bM hx1
  obtain⟨c,l3,qhx3,hx3⟩:=bM hx2
  have qn:=jp hx3
  subst qn
  subst qhx3
  subst qhx2
  rw[e]at hy
  obtain⟨a',l1,e',hy1⟩:=bM hy
  obtain⟨b',l2,qhy2,hy2⟩:=bM hy1
  obtain⟨c',l3,qhy3,hy3⟩:=bM hy2
  have qn:=jp hy3
  subst qn
  subst qhy3
  subst qhy2
  rw[e,e']at h
  rw[pQ e,pQ e']
  exact Tq hu hp hn hf 9998 w h
 guard:=hg
 key:=by
  intro cs n _ _ hx em w
  obtain⟨a,l1,e,hx1⟩:=bM hx
  obtain⟨b,l2,qhx2,hx2⟩:=bM hx1
  obtain⟨c,l3,qhx3,hx3⟩:=bM hx2
  have qn:=jp hx3
  subst qn
  subst qhx3
  subst qhx2
  rw[pQ e]
  exact ML hu hn hf em 9998 w a b c
end
theorem AC:EqSpec Tryz.prog 428 [.int .i64 0, .int .i64 0, .int .i64 0]:=IU (by kernel_rfl) (by kernel_rfl) (by kernel_rfl) (by kernel_rfl) (by kernel_rfl)
end Go.Am
