/- Parts Am22, Am23, Am24, Am25, Am26, Am27 of the abstract machine over this program, joined: what each part says stands at its head. -/
import Derived.Test.YtlflfbnnjlkkcaaGreatJAm19
import Derived.Orders
set_option linter.unusedSimpArgs false
set_option linter.unusedVariables false
set_option linter.defProp false
namespace Go.Am
open Go
theorem dR {a b:Nat} (h:Nat.beq a b=true):a=b:=Nat.eq_of_beq_eq_true h
theorem vc {a b:Option Addr} (h:kY a b=true):a=b:=by
 cases a<;>cases b<;>simp only[kY,Bool.and_eq_true,Bool.false_eq_true]at h
 ·rfl
 ·rename_i x y
  obtain⟨⟨h1,h2⟩,h3⟩:=h
  obtain⟨b1,o1,s1⟩:=x
  obtain⟨b2,o2,s2⟩:=y
  have h1:b1=b2:=dR h1
  have h2:o1=o2:=dR h2
  have h3:s1=s2:=beq_iff_eq.1 h3
  rw[h1,h2,h3]
theorem fZ {α:Type} {xs:Array α} (h:xs.toList.isEmpty=true):xs= #[]:=by
 apply Array.ext'
 simpa using h
theorem Ma {a b:ByteArray} (h:p9 a b=true):a=b:=by
 rw[sH]at h
 have e:(a==b)=(a.data==b.data):=rfl
 rw[e]at h
 exact ByteArray.ext (by simpa using h)
theorem AR {v w:Value} (h:mj v w=true):v=w:=by
 unfold mj at h
 split at h<;>try (simp at h;done)
 ·have:=(beq_iff_eq).1 h;subst this;rfl
 ·obtain⟨h1,h2⟩:=(Bool.and_eq_true _ _).mp h
  have h1:=of_decide_eq_true h1
  have h2:=of_decide_eq_true h2
  subst h1;subst h2;rfl
 ·rw[Ma h]
 ·rw[vc h]
 ·obtain⟨h1,h3⟩:=(Bool.and_eq_true _ _).mp h
  obtain⟨h1,h2⟩:=(Bool.and_eq_true _ _).mp h1
  rw[vc h1,dR h2,dR h3]
 ·rfl
 ·rw[dR h]
 ·rfl
 ·rfl
 ·obtain⟨h1,h5⟩:=(Bool.and_eq_true _ _).mp h
  obtain⟨h1,h4⟩:=(Bool.and_eq_true _ _).mp h1
  obtain⟨h1,h3⟩:=(Bool.and_eq_true _ _).mp h1
  obtain⟨h1,h2⟩:=(Bool.and_eq_true _ _).mp h1
  rw[dR h1,fZ h2,fZ h3,fZ h4,fZ h5]
theorem nq {l:List Value}: ∀{m:List Value},lL l m=true ->l=m:=by
 induction l with
 |nil=>
  intro m h
  cases m with
  |nil=>rfl
  |cons y m=>simp[lL,cU]at h
 |cons x l ih=>
  intro m h
  cases m with
  |nil=>simp[lL,nU]at h
  |cons y m=>
   have h:(match mj x y with|true=>lL l m|false=>false)=true:=h
   cases hc:mj x y with
   |false=>rw[hc]at h;simp at h
   |true=>rw[hc]at h;rw[AR hc,ih h]
theorem Qh {v w:Value} (h:yF v w=true):v=w:=by
 unfold yF at h
 split at h
 ·have:=nq h;congr 1;exact Array.ext' this
 ·exact AR h
theorem Df {l:List Value}: ∀{m:List Value},oX l m=true ->l=m:=by
 induction l with
 |nil=>
  intro m h
  cases m with
  |nil=>rfl
  |cons y m=>simp[oX,cU]at h
 |cons x l ih=>
  intro m h
  cases m with
  |nil=>simp[oX,nU]at h
  |cons y m=>
   have h:(match yF x y with|true=>oX l m|false=>false)=true:=h
   cases hc:yF x y with
   |false=>rw[hc]at h;simp at h
   |true=>rw[hc]at h;rw[Qh hc,ih h]
theorem Qi {v w:Value} (h:dq v w=true):v=w:=by
 unfold dq at h
 split at h
 ·have:=nq h;congr 1;exact Array.ext' this
 ·have:=nq h;congr 1;exact Array.ext' this
 ·rename_i t v u w
  obtain⟨h1,h3⟩:=(Bool.and_eq_true _ _).mp h
  obtain⟨h1,h2⟩:=(Bool.and_eq_true _ _).mp h1
  have h1:=dR h1
  have h2:=nq h2
  subst h1
  congr 1
  cases v<;>cases w<;>simp[zM]at h3<;>simp only[cellsOf]at h2<;>first
   |(congr 1;exact Array.ext' h2)
   |rfl
   |(exact(List.cons.inj h2).1)
 ·obtain⟨h1,h3⟩:=(Bool.and_eq_true _ _).mp h
  obtain⟨h1,h2⟩:=(Bool.and_eq_true _ _).mp h1
  have h1:=dR h1
  have h2:=Df h2
  have h3:=Df h3
  subst h1
  rw[Array.ext' h2,Array.ext' h3]
 ·obtain⟨h1,h5⟩:=(Bool.and_eq_true _ _).mp h
  obtain⟨h1,h4⟩:=(Bool.and_eq_true _ _).mp h1
  obtain⟨h1,h3⟩:=(Bool.and_eq_true _ _).mp h1
  obtain⟨h1,h2⟩:=(Bool.and_eq_true _ _).mp h1
  rw[dR h1,fZ h2,fZ h3,fZ h4,fZ h5]
 ·exact AR h
theorem Qj {x y:AObj} (h:GI x y=true):x=y:=by
 unfold GI at h
 split at h
 ·obtain⟨h1,h3⟩:=(Bool.and_eq_true _ _).mp h
  obtain⟨h1,h2⟩:=(Bool.and_eq_true _ _).mp h1
  rw[nq h1,dR h2,(beq_iff_eq).1 h3]
 ·rw[dR h]
 ·simp at h
def HLe (h h':Heap):Prop:=h.next<=h'.next/\ ∀i o,h.get i=some o ->h'.get i=some o
theorem HLe.refl (h:Heap):HLe h h:=⟨Nat.le_refl _,fun _ _ a=>a⟩
theorem HLe.alloc {h:Heap} (hf:js (h.get h.next)=true) (o:AObj):HLe h (h.alloc o):=by
 refine⟨by simp,fun i p a=> ?_⟩
 rw[Heap.get_alloc_ne]
 ·exact a
 ·rintro rfl;rw[a]at hf;simp[js]at hf
theorem bS {α β:Type} {o o':Option α} {f f':α ->Option β} {b:β} (h:ae o f=some b) (ho: ∀a,o=some a ->o'=some a) (hf: ∀a,f a=some b ->f' a=some b):ae o' f'=some b:=by
 obtain⟨a,ha,h1⟩:=ab h
 rw[ho a ha]
 exact hf a h1
section
variable {C:Ctx} {ρ:Operand ->Value}
theorem AS {h h':Heap} (hl:HLe h h') {b:Nat} {c:List Value} (hr:rowAt h b=some c):rowAt h' b=some c:=
 bS hr (fun o ho=>hl.2 b o ho) (fun _ a=>a)
theorem rG {h h':Heap} (hl:HLe h h') {m:Value} {es:List MapEntry} (hr:je h m=some es):je h' m=some es:=by
 unfold je at hr⊢
 split at hr
 ·exact hr
 ·exact bS hr (fun a ha=>bS ha (fun o ho=>hl.2 _ o ho) (fun _ a=>a)) (fun _ a=>a)
 ·simp at hr
theorem y8 {h h':Heap} (hl:HLe h h') {s n:Nat} {x:Value} {l:List Value} (hr:bf h s n x=some l):bf h' s n x=some l:=by
 unfold bf at hr⊢
 split at hr
 ·cases n with
  |zero=>exact hr
  |succ n=>exact bS hr (fun a ha=>AS hl ha) (fun _ a=>a)
 ·exact hr
 ·exact hr
 ·simp at hr
theorem JY {h h':Heap} (hl:HLe h h') {op:Op} {e:EV} (he:aJ C ρ h op=some e):aJ C ρ h' op=some e:=by
 cases op<;>try exact he
 case load t a=>exact bS he (fun v hv=>bS hv (fun _ a=>a) (fun a ha=>bS ha (fun c hc=>AS hl hc) (fun _ a=>a))) (fun _ a=>a)
 case lookup t m k ok=>
  exact bS he (fun v hv=>bS hv (fun _ a=>a) (fun d hd=>bS hd (fun _ a=>a) (fun q hq=>by
   obtain⟨h1,h2⟩:=aq hq
   rw[h1]
   exact bS h2 (fun _ a=>a) (fun z hz=>bS hz (fun es hes=>rG hl hes) (fun _ a=>a))))) (fun _ a=>a)
 case convert s d x=>
  refine bS he (fun _ a=>a) (fun ds hds=>bS hds (fun _ a=>a) (fun dd hdd=> ?_))
  split at hdd
  ·exact hdd
  ·exact hdd
  ·rename_i p n c hx
   rw[hx]at hdd⊢
   revert hdd
   show uE C (.slice p n c) n h ds dd=some e ->uE C (.slice p n c) n h' ds dd=some e
   intro hdd
   unfold uE at hdd⊢
   split at hdd
   ·refine bS hdd (fun _ a=>a) (fun d hd=> ?_)
    obtain⟨h1,h2⟩:=aq hd
    rw[h1]
    exact bS h2 (fun l hl'=>y8 hl hl') (fun _ a=>a)
   ·simp at hdd
  ·simp at hdd
 case call c=>
  obtain⟨callee,args,ats⟩:=c
  cases callee<;>try exact he
  rename_i b
  cases b<;>try exact he
  simp only[aJ,tf]at he⊢
  split at he
  ·refine bS he (fun v hv=>bS hv (fun _ a=>a) (fun d hd=> ?_)) (fun _ a=>a)
   unfold Lc at hd⊢
   split at hd<;>first
    |exact hd
    |exact bS hd (fun es hes=>rG hl hes) (fun _ a=>a)
  ·simp at he
theorem JX {h h':Heap} {op:Op} (hb:ik op=false):aJ C ρ h op=aJ C ρ h' op:=by
 cases op<;>first|rfl|(simp[ik]at hb)
theorem Nn {h h':Heap} {op:Op} {x:AObj} {mk:Nat ->Value} (he:aJ C ρ h op=some (.new x mk)):aJ C ρ h' op=some (.new x mk):=by
 cases op<;>try exact he
 case load t a=>
  obtain⟨v,_,h1⟩:=ab he
  simp[aY]at h1
 case lookup t m k ok=>
  obtain⟨v,_,h1⟩:=ab he
  simp[aY]at h1
 case convert s d x'=>
  refine bS he (fun _ a=>a) (fun ds hds=>bS hds (fun _ a=>a) (fun dd hdd=> ?_))
  split at hdd
  ·exact hdd
  ·exact hdd
  ·rename_i p n c hx
   unfold uE at hdd
   split at hdd
   ·obtain⟨d,_,hd⟩:=ab hdd
    obtain⟨_,h2⟩:=aq hd
    obtain⟨l,_,h3⟩:=ab h2
    obtain⟨l',_,h4⟩:=ab h3
    simp at h4
   ·simp at hdd
  ·simp at hdd
 case call c=>
  obtain⟨callee,args,ats⟩:=c
  cases callee<;>try exact he
  rename_i b
  cases b<;>try exact he
  simp only[aJ,tf]at he
  split at he
  ·obtain⟨v,_,h1⟩:=ab he
   simp[aY]at h1
  ·simp at he
end
end Go.Am

namespace Go.Am
open Go
noncomputable def qz (τ:List (List Value)) (dst:Option Tmp) (v:Value):List (List Value):=
 match dst with
 |some d=>uX τ d v
 |none=>τ
theorem uf (τ:List (List Value)) (D:List Deferred) (p:Option Value) (dst:Option Tmp) (v:Value):FrS.put ⟨τ,D,p⟩ dst v=⟨qz τ dst v,D,p⟩:=by cases dst<;>rfl
theorem sM (s:FrS) (dst:Option Tmp) (v:Value):s.put dst v=⟨qz s.tmps dst v,s.defers,s.pan⟩:=by cases dst<;>rfl
section
variable {C:Ctx} {self:Self} {rd:Option Nat}
def NS (τ τ':List (List Value)) (dst:Option Tmp) (r r':Option ORes):Prop:=
 ∀s' h',r=some (.ok s' h') -> ∃v D p,s'=⟨qz τ dst v,D,p⟩/\ r'=some (.ok ⟨qz τ' dst v,D,p⟩ h')
theorem AW {τ τ':List (List Value)} {D:List Deferred} {p:Option Value} {dst:Option Tmp} (o:Option FRes):NS τ τ' dst (ae o (ku ⟨τ,D,p⟩ dst)) (ae o (ku ⟨τ',D,p⟩ dst)):=by
 intro s' h' h
 cases o with
 |none=>simp at h
 |some r=>
  cases r with
  |panic v h1=>simp[ku]at h
  |ret v h1 q=>
   simp only[au,ku,uf]at h⊢
   simp at h
   obtain⟨rfl,rfl⟩:=h
   exact⟨v,D,p,rfl,rfl⟩
theorem ue {τ τ':List (List Value)} {D:List Deferred} {p:Option Value} {dst:Option Tmp} (o:Option (Value×Heap)):NS τ τ' dst (ae o (ofVal ⟨τ,D,p⟩ dst)) (ae o (ofVal ⟨τ',D,p⟩ dst)):=by
 intro s' h' h
 cases o with
 |none=>simp at h
 |some q=>
  simp only[au,ofVal,uf]at h⊢
  simp at h
  obtain⟨rfl,rfl⟩:=h
  exact⟨q.1,D,p,rfl,rfl⟩
theorem qR {τ τ':List (List Value)} {D:List Deferred} {p:Option Value} {dst:Option Tmp} (o:Option Heap):NS τ τ' dst (ae o (jn ⟨τ,D,p⟩ dst)) (ae o (jn ⟨τ',D,p⟩ dst)):=by
 intro s' h' h
 cases o with
 |none=>simp at h
 |some q=>
  simp only[au,jn,uf]at h⊢
  simp at h
  obtain⟨rfl,rfl⟩:=h
  exact⟨undef,D,p,rfl,rfl⟩
theorem wX {τ τ':List (List Value)} {D:List Deferred} {p:Option Value} {dst:Option Tmp} (v:Value) (h:Heap):NS τ τ' dst (some (.ok (FrS.put ⟨τ,D,p⟩ dst v) h)) (some (.ok (FrS.put ⟨τ',D,p⟩ dst v) h)):=by
 intro s' h' hh
 simp only[uf]at hh⊢
 simp at hh
 obtain⟨rfl,rfl⟩:=hh
 exact⟨v,D,p,rfl,rfl⟩
theorem dz {τ τ':List (List Value)} {dst:Option Tmp} {r':Option ORes}:NS τ τ' dst none r':=by intro s' h' h;simp at h
theorem DU {τ τ':List (List Value)} {D:List Deferred} {p:Option Value} {dst:Option Tmp} {h:Heap} {op:Op} (hx: ∀x∈op.operands.toList,ev τ x=ev τ' x):
  NS τ τ' dst (c9 C self rd dst ⟨τ,D,p⟩ h op) (c9 C self rd dst ⟨τ',D,p⟩ h op):=by
 cases op<;>try exact dz
 case store t a v=>
  simp only[c9]
  rw[<-hx a (by simp[Op.operands]),<-hx v (by simp[Op.operands])]
  exact qR _
 case mapUpdate t m k v=>
  simp only[c9]
  rw[<-hx m (by simp[Op.operands]),<-hx k (by simp[Op.operands]),<-hx v (by simp[Op.operands])]
  exact qR _
 case insert t m k v=>
  simp only[c9]
  rw[<-hx m (by simp[Op.operands]),<-hx k (by simp[Op.operands]),<-hx v (by simp[Op.operands])]
  exact qR _
 case range t x=>
  simp only[c9]
  rw[<-hx x (by simp[Op.operands])]
  unfold vi
  split
  ·cases C.und t with
   |none=>exact dz
   |some d=>
    simp only[au]
    cases oe d
    ·exact dz
    ·exact wX _ _
  ·exact dz
 case next it b=>
  simp only[c9]
  rw[<-hx it (by simp[Op.operands])]
  cases b
  ·exact dz
  ·exact ue _
 case panic x=>
  intro s' h' hh
  simp only[c9]at hh
  unfold sO at hh
  split at hh<;>simp at hh
 case defer c=>
  simp only[c9,zK]
  cases rd with
  |some l=>exact dz
  |none=>
   cases hc:c.callee with
   |value f=>
    simp only
    have hf:=hx f (by simp[Op.operands,Call.operands,hc])
    have ha:c.args.toList.map (ev τ)=c.args.toList.map (ev τ'):=List.map_congr_left fun x hxx=>hx x (by simp[Op.operands,Call.operands];right;simpa using hxx)
    rw[<-hf,<-ha]
    unfold om
    split
    ·intro s' h' hh
     simp only[uf]at hh⊢
     simp at hh
     obtain⟨rfl,rfl⟩:=hh
     exact⟨undef,_,p,rfl,rfl⟩
    ·exact dz
   |_=>exact dz
 case call c=>
  have ha:c.args.toList.map (ev τ)=c.args.toList.map (ev τ'):=List.map_congr_left fun x hxx=>hx x (by simp[Op.operands,Call.operands];right;simpa using hxx)
  simp only[c9,Cl]
  cases hc:c.callee with
  |value f=>
   simp only
   rw[<-hx f (by simp[Op.operands,Call.operands,hc]),<-ha]
   unfold pL
   split
   ·exact AW _
   ·exact dz
  |invoke r name=>
   simp only
   rw[<-hx r (by simp[Op.operands,Call.operands,hc]),<-ha]
   exact AW _
  |builtin b=>
   simp only
   rw[<-ha]
   cases b<;>simp only[mD]<;>try exact dz
   case append=>split<;>first|exact ue _|exact dz
   case copy=>split<;>first|exact ue _|exact dz
   case delete=>
    split
    ·rename_i t ts x y l e1 e2
     cases zP C t x y h with
     |none=>exact dz
     |some h1=>exact wX _ _
    ·exact dz
   case recover=>
    unfold sK
    cases rd with
    |some l=>exact dz
    |none=>
     cases p with
     |none=>exact wX _ _
     |some v=>
      intro s' h' hh
      simp only[uf]at hh⊢
      simp at hh
      obtain⟨rfl,rfl⟩:=hh
      exact⟨v,D,none,rfl,rfl⟩
def yr (τ τ':List (List Value)) (D:List Deferred) (p:Option Value) (r r':Option ORes):Prop:=
 ∀v s' h',r=some (.panic v s' h') ->s'=⟨τ,D,p⟩/\ r'=some (.panic v ⟨τ',D,p⟩ h')
theorem b7 {τ τ':List (List Value)} {D:List Deferred} {p:Option Value} {r':Option ORes}:yr τ τ' D p none r':=by intro v s' h' h;simp at h
theorem nL {τ τ':List (List Value)} {D:List Deferred} {p:Option Value} {s:FrS} {h:Heap} {r':Option ORes}:yr τ τ' D p (some (.ok s h)) r':=by intro v s' h' h;simp at h
theorem vr {τ τ':List (List Value)} {D:List Deferred} {p:Option Value} {dst:Option Tmp} (o:Option FRes):yr τ τ' D p (ae o (ku ⟨τ,D,p⟩ dst)) (ae o (ku ⟨τ',D,p⟩ dst)):=by
 intro v s' h' h
 cases o with
 |none=>simp at h
 |some r=>
  cases r with
  |panic v1 h1=>
   simp[ku]at h
   obtain⟨rfl,rfl,rfl⟩:=h
   exact⟨rfl,rfl⟩
  |ret v1 h1 q=>simp[ku]at h
theorem o9 {τ τ':List (List Value)} {D:List Deferred} {p:Option Value} {dst:Option Tmp} {r':Option ORes} (o:Option (Value×Heap)):yr τ τ' D p (ae o (ofVal ⟨τ,D,p⟩ dst)) r':=by
 intro v s' h' h
 cases o<;>simp[ofVal]at h
theorem mJ {τ τ':List (List Value)} {D:List Deferred} {p:Option Value} {dst:Option Tmp} {r':Option ORes} (o:Option Heap):yr τ τ' D p (ae o (jn ⟨τ,D,p⟩ dst)) r':=by
 intro v s' h' h
 cases o<;>simp[jn]at h
theorem DR {τ τ':List (List Value)} {D:List Deferred} {p:Option Value} {dst:Option Tmp} {h:Heap} {op:Op} (hx: ∀x∈op.operands.toList,ev τ x=ev τ' x):
  yr τ τ' D p (c9 C self rd dst ⟨τ,D,p⟩ h op) (c9 C self rd dst ⟨τ',D,p⟩ h op):=by
 cases op<;>try exact b7
 case store t a v=>exact mJ _
 case mapUpdate t m k v=>exact mJ _
 case insert t m k v=>exact mJ _
 case range t x=>
  simp only[c9]
  unfold vi
  split
  ·cases C.und t with
   |none=>exact b7
   |some d=>
    simp only[au]
    cases oe d
    ·exact b7
    ·exact nL
  ·exact b7
 case next it b=>
  simp only[c9]
  cases b
  ·exact b7
  ·exact o9 _
 case panic x=>
  simp only[c9]
  rw[<-hx x (by simp[Op.operands])]
  unfold sO
  split
  ·intro v s' h' hh
   simp at hh
   obtain⟨rfl,rfl,rfl⟩:=hh
   exact⟨rfl,rfl⟩
  ·exact b7
 case defer c=>
  simp only[c9,zK]
  cases rd with
  |some l=>exact b7
  |none=>
   cases hc:c.callee with
   |value f=>
    simp only
    unfold om
    split
    ·exact nL
    ·exact b7
   |_=>exact b7
 case call c=>
  have ha:c.args.toList.map (ev τ)=c.args.toList.map (ev τ'):=List.map_congr_left fun x hxx=>hx x (by simp[Op.operands,Call.operands];right;simpa using hxx)
  simp only[c9,Cl]
  cases hc:c.callee with
  |value f=>
   simp only
   rw[<-hx f (by simp[Op.operands,Call.operands,hc]),<-ha]
   unfold pL
   split
   ·exact vr _
   ·exact b7
  |invoke r name=>
   simp only
   rw[<-hx r (by simp[Op.operands,Call.operands,hc]),<-ha]
   exact vr _
  |builtin b=>
   simp only
   cases b<;>simp only[mD]<;>try exact b7
   case append=>split<;>first|exact o9 _|exact b7
   case copy=>split<;>first|exact o9 _|exact b7
   case delete=>
    split
    ·rename_i t ts x y l e1 e2
     cases zP C t x y h with
     |none=>exact b7
     |some h1=>exact nL
    ·exact b7
   case recover=>
    unfold sK
    cases rd with
    |some l=>exact b7
    |none=>
     cases p with
     |none=>exact nL
     |some v=>exact nL
theorem Ja {dst:Option Tmp} {s s':FrS} {h h':Heap} {e:EV} {v:Value}:mn dst s h e≠some (.panic v s' h'):=by
 cases e with
 |val v=>simp[mn]
 |new x mk=>
  intro hp
  obtain⟨_,h2⟩:=aq hp
  simp at h2
theorem WW {r r':ORes} {l:List Deferred} (h:BC r l=some r'):l=[]/\ r'=r:=by
 cases l with
 |nil=>simp[BC]at h;exact⟨rfl,h.symm⟩
 |cons d l=>simp[BC]at h
abbrev IF:=List Rec×FrS×Heap
def rW (C:Ctx) (self:Self) (rd:Option Nat) (ops:List Oper) (a b:IF):PE ->Prop
 | .re i o=>b=a/\ j0 C o.op a.2.2 (io i a.1)=true
 | .ex i o=>
  (bO ops o a.2.1.tmps=false/\ b=(a.1,a.2.1.put o.dst undef,a.2.2)) \/
  (bO ops o a.2.1.tmps=true/\ bt o.op=true/\ b.1=a.1/\ c9 C self rd o.dst a.2.1 a.2.2 o.op=some (.ok b.2.1 b.2.2)) \/
  (bO ops o a.2.1.tmps=true/\ bt o.op=false/\ ∃e,aJ C (ev a.2.1.tmps) a.2.2 o.op=some e/\ mn o.dst a.2.1 a.2.2 e=some (.ok b.2.1 b.2.2)/\ b.1=Dk i a.2.1.tmps a.2.2 e::a.1)
theorem jm (C:Ctx) (self:Self) (rd:Option Nat) (ops:List Oper) (e:PE) (l:List PE) (rs:List Rec) (s:FrS) (h:Heap):eV C self rd ops (e::l) rs s h=To C self rd ops (eV C self rd ops l) rs s h e:=rfl
theorem AZ {ops:List Oper}: ∀(l:List PE) {rs:List Rec} {s:FrS} {h:Heap} {r:ORes},eV C self rd ops l rs s h=some r ->
  ∃(tr:Nat ->IF) (N:Nat),tr 0=(rs,s,h)/\ (∀p e,p<N ->l[p]? =some e ->rW C self rd ops (tr p) (tr (p+1)) e)/\
   ((N=l.length/\ r= .ok (tr l.length).2.1 (tr l.length).2.2) \/
    ∃i o v h',l[N]? =some (.ex i o)/\ bt o.op=true/\ bO ops o (tr N).2.1.tmps=true/\ c9 C self rd o.dst (tr N).2.1 (tr N).2.2 o.op=some (.panic v (tr N).2.1 h')/\ (tr N).2.1.defers=[]/\ r= .panic v (tr N).2.1 h')
 |[],rs,s,h,r,hr=>by
  have:r= .ok s h:=by simpa[eV,cU]using hr.symm
  subst this
  exact⟨fun _=>(rs,s,h),0,rfl,fun p e _ he=>by simp at he, .inl ⟨rfl,rfl⟩⟩
 |e::l,rs,s,h,r,hr=>by
  rw[jm]at hr
  have key:(∃b:IF,rW C self rd ops (rs,s,h) b e/\ eV C self rd ops l b.1 b.2.1 b.2.2=some r) \/
    ∃i o v h',e= .ex i o/\ bt o.op=true/\ bO ops o s.tmps=true/\ c9 C self rd o.dst s h o.op=some (.panic v s h')/\ s.defers=[]/\ r= .panic v s h':=by
   cases e with
   |re i o=>
    obtain⟨h1,h2⟩:=aq hr
    exact .inl ⟨(rs,s,h),⟨rfl,h1⟩,h2⟩
   |ex i o=>
    simp only[To]at hr
    split at hr
    ·rename_i hw
     unfold JU at hr
     split at hr
     ·rename_i heff
      obtain⟨ro,h1,h2⟩:=ab hr
      cases ro with
      |panic v s1 h1'=>
       obtain⟨hd,hr'⟩:=WW h2
       obtain⟨es,_⟩:=DR (τ:=s.tmps) (τ':=s.tmps) (D:=s.defers) (p:=s.pan) (fun x _=>rfl) v s1 h1' h1
       have es:s1=s:=es
       subst es
       exact .inr ⟨i,o,v,h1',rfl,heff,hw,h1,hd,hr'⟩
      |ok s1 h1'=>exact .inl ⟨(rs,s1,h1'), .inr (.inl ⟨hw,heff,rfl,h1⟩),h2⟩
     ·rename_i heff
      obtain⟨e',h1,h2⟩:=ab hr
      obtain⟨ro,h3,h4⟩:=ab h2
      cases ro with
      |panic v s1 h1=>exact absurd h3 Ja
      |ok s1 h1'=>exact .inl ⟨(Dk i s.tmps h e'::rs,s1,h1'), .inr (.inr ⟨hw,heff,e',h1,h3,rfl⟩),h4⟩
    ·rename_i hw
     exact .inl ⟨(rs,s.put o.dst undef,h), .inl ⟨hw,rfl⟩,hr⟩
  rcases key with⟨b,hb,hrun⟩|⟨i,o,v,h',rfl,h1,h2,h3,h4,h5⟩
  ·obtain⟨tr,N,t0,t1,t2⟩:=AZ l hrun
   refine⟨fun n=>match n with|0=>(rs,s,h)|n+1=>tr n,N+1,rfl,?_,?_⟩
   ·intro p e' hp he'
    cases p with
    |zero=>
     simp at he'
     subst he'
     show rW C self rd ops (rs,s,h) (tr 0) e
     rw[t0];exact hb
    |succ p=>exact t1 p e' (by omega) (by simpa using he')
   ·rcases t2 with⟨t2,t3⟩|⟨i,o,v,h',t3,t4⟩
    ·exact .inl ⟨by rw[t2];rfl,t3⟩
    ·exact .inr ⟨i,o,v,h',by simpa using t3,t4⟩
  ·exact⟨fun _=>(rs,s,h),0,rfl,fun p e' hp=>by omega, .inr ⟨i,o,v,h',rfl,h1,h2,h3,h4,h5⟩⟩
end
end Go.Am

namespace Go.Am
open Go
inductive Order (ops:Array Oper):List Nat ->List Nat ->Prop
 |done (pre:List Nat) (h: ∀i,i<ops.size ->i∈pre):Order ops pre []
 |next (pre:List Nat) (i:Nat) (L:List Nat) (hi:i<ops.size) (hn:i∉pre) (he: ∀o,ops[i]? =some o -> ∀e∈o.after.toList,Region.binds .any e=true ->e.on∈pre) (h:Order ops (i::pre) L):Order ops pre (i::L)
structure Wit (md:Region.Mode) (ops:Array Oper) (W:List Nat):Prop where
 len:W.length<=ops.size
 all: ∀i,i<ops.size ->i∈W
 edge: ∀W1 i W2,W=W1++i::W2 ->i<ops.size/\ ∀o,ops[i]? =some o -> ∀e∈o.after.toList,Region.binds md e=true ->e.on∈W1
theorem Dr {md:Region.Mode} {ops:Array Oper} {listed:Array Bool} {i:Nat}:i∈Region.ready md ops listed↔i<ops.size/\ listed.getD i true=false/\ ∀o,ops[i]? =some o -> ∀e∈o.after.toList,Region.binds md e=true ->listed.getD e.on false=true:=by
 unfold Region.ready
 rw[List.mem_filter,List.mem_range]
 constructor
 ·rintro⟨h1,h2⟩
  obtain⟨h3,h4⟩:=(Bool.and_eq_true _ _).mp h2
  refine⟨h1,by simpa using h3,fun o ho e he hb=> ?_⟩
  rw[ho]at h4
  simp only[Option.map_some,Option.getD_some]at h4
  have:=(Array.all_eq_true'.1 h4) e (Array.mem_toList_iff.1 he)
  simpa[hb]using this
 ·rintro⟨h1,h2,h3⟩
  refine⟨h1,?_⟩
  rw[h2]
  obtain⟨o,ho⟩: ∃o,ops[i]? =some o:=⟨_,Array.getElem?_eq_getElem h1⟩
  rw[ho]
  simp only[Option.map_some,Option.getD_some,Bool.not_false,Bool.true_and]
  refine Array.all_eq_true'.2 fun e he=> ?_
  cases hb:Region.binds md e with
  |false=>rfl
  |true=>simpa using h3 o ho e (Array.mem_toList_iff.2 he) hb
theorem ND {md:Region.Mode} {e:Edge} (h:Region.binds .any e=true):Region.binds md e=true:=by
 unfold Region.binds at*
 cases hg:e.ground<;>rw[hg]at h<;>first|rfl|(simp at h)
theorem RM {md:Region.Mode} {ops:Array Oper} {W:List Nat} (hW:Wit md ops W): ∀(fuel t:Nat) (listed:Array Bool) (pre:List Nat),listed.size=ops.size ->(∀j,listed[j]? =some true↔j∈pre) ->
  (W.filter fun j=> !pre.contains j).length<=fuel ->Order ops pre (Region.linearise.go md ops fuel t listed []):=by
 have empty: ∀pre:List Nat,(W.filter fun j=> !pre.contains j)=[] -> ∀i,i<ops.size ->i∈pre:=by
  intro pre h i hi
  have:=List.filter_eq_nil_iff.1 h i (hW.all i hi)
  simpa using this
 intro fuel
 induction fuel with
 |zero=>
  intro t listed pre hs hl hf
  exact .done pre (empty pre (List.eq_nil_of_length_eq_zero (Nat.le_zero.1 hf)))
 |succ fuel ih=>
  intro t listed pre hs hl hf
  simp only[Region.linearise.go]
  change Order ops pre (match(Region.ready md ops listed)[t % (Region.ready md ops listed).length]? with
   |some i=>Region.linearise.go md ops fuel (t/(Region.ready md ops listed).length) (listed.setIfInBounds i true) [i]
   |none=>[].reverse)
  cases hi:(Region.ready md ops listed)[t % (Region.ready md ops listed).length]? with
  |none=>
   have hnil:Region.ready md ops listed=[]:=by
    cases hr:Region.ready md ops listed with
    |nil=>rfl
    |cons x xs=>
     rw[hr]at hi
     have hlt:t % (x::xs).length<(x::xs).length:=Nat.mod_lt _ (by simp)
     simp at hi
     simp at hlt
     omega
   refine .done pre (empty pre ?_)
   cases hfil:W.filter (fun j=> !pre.contains j)with
   |nil=>rfl
   |cons x xs=>
    obtain⟨W1,W2,e1,e2,e3,_⟩:=List.filter_eq_cons_iff.1 hfil
    obtain⟨hx,he⟩:=hW.edge W1 x W2 e1
    have hxn:x∉pre:=by simpa using e3
    have:x∈Region.ready md ops listed:=by
     refine Dr.2 ⟨hx,?_,fun o ho e hee hb=> ?_⟩
     ·have hx':x<listed.size:=by omega
      have:listed[x]? ≠some true:=fun q=>hxn ((hl x).1 q)
      rw[Array.getD_eq_getD_getElem?]
      rw[Array.getElem?_eq_getElem hx']at this⊢
      simpa using this
     ·have h1:=he o ho e hee hb
      have h2:=e2 _ h1
      have h3:e.on∈pre:=by simpa using h2
      rw[Array.getD_eq_getD_getElem?,(hl _).2 h3];rfl
    rw[hnil]at this
    simp at this
  |some i=>
   simp only[]
   rw[linearise_go_acc,List.reverse_singleton,List.singleton_append]
   obtain⟨h1,h2,h3⟩:=Dr.1 (List.mem_of_getElem? hi)
   have hin:i∉pre:=by
    intro q
    rw[Array.getD_eq_getD_getElem?,(hl i).2 q]at h2
    simp at h2
   refine .next pre i _ h1 hin (fun o ho e he hb=> ?_) (ih _ _ (i::pre) (by simpa using hs) (fun j=> ?_) ?_)
   ·have:=h3 o ho e he (ND hb)
    rw[Array.getD_eq_getD_getElem?]at this
    cases hg:listed[e.on]? with
    |none=>rw[hg]at this;simp at this
    |some b=>rw[hg]at this;simp at this;subst this;exact(hl _).1 hg
   ·rw[Array.getElem?_setIfInBounds]
    by_cases hj:i=j
    ·subst hj
     have:i<listed.size:=by omega
     simp[this]
    ·rw[if_neg hj,hl j]
     simp[show¬j=i from fun q=>hj q.symm]
   ·have e1:(W.filter fun j=> !(i::pre).contains j)=(W.filter fun j=> !pre.contains j).filter (fun j=> !(j==i)):=by
     rw[List.filter_filter]
     congr 1
     funext j
     simp only[List.contains_cons,Bool.not_or]
    have e2:(W.filter fun j=> !(i::pre).contains j).length<(W.filter fun j=> !pre.contains j).length:=by
     rw[e1]
     refine List.length_filter_lt_length_iff_exists.2 ⟨i,List.mem_filter.2 ⟨hW.all i h1,by simpa using hin⟩,by simp⟩
    omega
theorem iO {md:Region.Mode} {ops:Array Oper} {W:List Nat} (hW:Wit md ops W) (t:Nat):Order ops [] (Region.linearise md ops t):=by
 refine RM hW ops.size t _ [] (by simp) (fun j=> ?_) ?_
 ·simp[Array.getElem?_replicate]
 ·exact Nat.le_trans (List.length_filter_le _ _) hW.len
noncomputable def ET (md:Region.Mode) (done:Nat) (o:Oper):Bool:=o.after.toList.all fun e=>match Region.binds md e with|true=>done.testBit e.on|false=>true
noncomputable def KF (md:Region.Mode) (ops:List Oper):List Nat ->Nat ->Bool:=
 kl (fun done=>(List.range ops.length).all fun i=>done.testBit i)
  (fun i _ ih done=>match Ex ops i with
   |some o=>ET md done o&&ih (done|||2 ^ i)
   |none=>false)
theorem IJ (md:Region.Mode) (ops:List Oper) (i:Nat) (W:List Nat) (done:Nat):KF md ops (i::W) done=(match Ex ops i with|some o=>ET md done o&&KF md ops W (done|||2 ^ i)|none=>false):=rfl
theorem FY {md:Region.Mode} {ops:Array Oper}: ∀(W:List Nat) {done:Nat} {pre:List Nat},KF md ops.toList W done=true ->(∀j,done.testBit j=true ->j∈pre) ->
  (∀i,i<ops.size ->i∈pre \/i∈W)/\ ∀W1 i W2,W=W1++i::W2 ->i<ops.size/\ ∀o,ops[i]? =some o -> ∀e∈o.after.toList,Region.binds md e=true ->e.on∈pre \/e.on∈W1
 |[],done,pre,h,hd=>by
  have h:((List.range ops.toList.length).all fun i=>done.testBit i)=true:=h
  refine⟨fun i hi=> .inl (hd i (List.all_eq_true.1 h i (List.mem_range.2 (by simpa using hi)))),fun W1 i W2 e=> ?_⟩
  simp at e
 |x::W,done,pre,h,hd=>by
  rw[IJ,kO,Array.getElem?_toList]at h
  cases ho:ops[x]? with
  |none=>rw[ho]at h;simp at h
  |some o=>
   rw[ho]at h
   obtain⟨h1,h2⟩:=(Bool.and_eq_true _ _).mp h
   have hx:x<ops.size:=(Array.getElem?_eq_some_iff.1 ho).1
   obtain⟨a1,a2⟩:=FY W (pre:=x::pre) h2 (fun j hj=>by
    rw[Nat.testBit_or,Nat.testBit_two_pow]at hj
    rcases(Bool.or_eq_true _ _).mp hj with q|q
    ·exact List.mem_cons_of_mem _ (hd j q)
    ·have:x=j:=by simpa using q
     subst this;exact List.mem_cons_self)
   refine⟨fun i hi=> ?_,fun W1 i W2 e=> ?_⟩
   ·rcases a1 i hi with q|q
    ·rcases List.mem_cons.1 q with rfl|q
     ·exact .inr List.mem_cons_self
     ·exact .inl q
    ·exact .inr (List.mem_cons_of_mem _ q)
   ·cases W1 with
    |nil=>
     simp at e
     obtain⟨rfl,rfl⟩:=e
     refine⟨hx,fun o' ho' ed hed hb=> ?_⟩
     rw[ho]at ho';simp at ho';subst ho'
     have:=List.all_eq_true.1 h1 ed hed
     rw[hb]at this
     exact .inl (hd _ this)
    |cons y W1=>
     simp at e
     obtain⟨rfl,e⟩:=e
     obtain⟨b1,b2⟩:=a2 W1 i W2 e
     refine⟨b1,fun o' ho' ed hed hb=> ?_⟩
     rcases b2 o' ho' ed hed hb with q|q
     ·rcases List.mem_cons.1 q with q|q
      ·exact .inr (by rw[q];exact List.mem_cons_self)
      ·exact .inl q
     ·exact .inr (List.mem_cons_of_mem _ q)
noncomputable def FW (md:Region.Mode) (ops:List Oper) (W:List Nat):Bool:=Nat.ble W.length ops.length&&KF md ops W 0
theorem uR {md:Region.Mode} {ops:Array Oper} {W:List Nat} (h:FW md ops.toList W=true):Wit md ops W:=by
 obtain⟨h1,h2⟩:=(Bool.and_eq_true _ _).mp h
 obtain⟨a1,a2⟩:=FY W (pre:=[]) h2 (fun j hj=>by simp at hj)
 refine⟨by simpa using Nat.le_of_ble_eq_true h1,fun i hi=>by simpa using a1 i hi,fun W1 i W2 e=> ?_⟩
 obtain⟨b1,b2⟩:=a2 W1 i W2 e
 exact⟨b1,fun o ho ed hed hb=>by simpa using b2 o ho ed hed hb⟩
noncomputable def JT (md:Region.Mode) (l:List (Oper×Nat)) (done:Nat):Option Nat:=
 kl none (fun p _ ih=>match done.testBit p.2 with|true=>ih|false=>match ET md done p.1 with|true=>some p.2|false=>ih) l
noncomputable def YU (md:Region.Mode) (l:List (Oper×Nat)):Nat ->Nat ->List Nat:=
 QI (fun _=>[]) (fun _ ih done=>match JT md l done with|some i=>i::ih (done|||2 ^ i)|none=>[])
noncomputable def pR (ops:List Oper):Bool:=ops.any fun o=>o.after.toList.any fun e=> !(Region.binds .any e)
noncomputable def Bb (ops:List Oper):Bool:=
 match pR ops with
 |false=>FW .any ops (List.range ops.length)
 |true=>FW .any ops (List.range ops.length)&&(FW .text ops (List.range ops.length)&&FW .gc ops (YU .gc ops.zipIdx ops.length 0))
theorem qO {ops:Array Oper} (h:Bb ops.toList=true) (mixed:Bool) (t:Nat):Order ops [] (Region.schedule mixed ops t):=by
 have hd:Region.departs ops=pR ops.toList:=by
  unfold Region.departs pR
  rw[<-Array.any_toList]
  congr 1
  funext o
  rw[<-Array.any_toList]
 unfold Bb at h
 unfold Region.schedule
 rw[hd]
 cases ha:pR ops.toList with
 |false=>
  rw[ha]at h
  simp only[Bool.not_false,Bool.or_true,if_true]
  exact iO (uR h) t
 |true=>
  rw[ha]at h
  obtain⟨h1,h2⟩:=(Bool.and_eq_true _ _).mp h
  obtain⟨h2,h3⟩:=(Bool.and_eq_true _ _).mp h2
  split
  ·exact iO (uR h1) t
  ·split
   ·exact iO (uR h2) _
   ·exact iO (uR h3) _
end Go.Am

namespace Go.Am
open Go
theorem vx (l:List Oper) (o:Oper):nQ (l++[o])=nQ l++[Ew (nQ l) o]:=by simp[nQ,List.foldl_append]
theorem KS {α:Type} {Q:List α ->Prop} (h0:Q []) (h1: ∀l a,Q l ->Q (l++[a])) (l:List α):Q l:=by
 have key: ∀m:List α,Q m.reverse:=by
  intro m
  induction m with
  |nil=>exact h0
  |cons a m ih=>rw[List.reverse_cons];exact h1 _ _ ih
 have:=key l.reverse
 rwa [List.reverse_reverse]at this
theorem ii: ∀l:List Oper,(nQ l).length=l.length:=by
 refine KS rfl ?_
 intro l o ih
 rw[vx];simp[ih]
theorem MG: ∀(l:List Oper) (i:Nat) (o:Oper),l[i]? =some o ->(nQ l)[i]? =some (Ew ((nQ l).take i) o):=by
 refine KS (fun i o h=>by simp at h) ?_
 ·intro l x ih i o h
  rw[vx]
  by_cases hi:i<l.length
  ·rw[List.getElem?_append_left hi]at h
   rw[List.getElem?_append_left (by rw[ii];exact hi),ih i o h]
   congr 2
   rw[List.take_append_of_le_length (by rw[ii];omega)]
  ·rw[List.getElem?_append_right (by omega)]at h
   have hi':i -l.length=0:=by
    cases hk:i -l.length with
    |zero=>rfl
    |succ n=>rw[hk]at h;simp at h
   rw[hi']at h
   simp at h;subst h
   have:i=l.length:=by omega
   subst this
   rw[List.getElem?_append_right (by rw[ii];exact Nat.le_refl _)]
   simp only[ii,Nat.sub_self,List.getElem?_cons_zero]
   congr 2
   rw[List.take_append_of_le_length (by rw[ii];exact Nat.le_refl _),<-ii l,List.take_length]
theorem yL {acc:List Nat} {j:Nat}: ∀(l:List Edge) (s:Nat),(l.foldl (fun s e=>if Region.binds .any e then s|||2 ^ e.on|||acc.getD e.on 0 else s) s).testBit j=true ->
  s.testBit j=true \/ ∃e∈l,Region.binds .any e=true/\ (j=e.on \/(acc.getD e.on 0).testBit j=true)
 |[],s,h=> .inl h
 |e::l,s,h=>by
  rw[List.foldl_cons]at h
  rcases yL l _ h with q|⟨e',h1,h2⟩
  ·split at q
   ·rename_i hb
    rw[Nat.testBit_or,Nat.testBit_or,Nat.testBit_two_pow]at q
    rcases(Bool.or_eq_true _ _).mp q with q|q
    ·rcases(Bool.or_eq_true _ _).mp q with q|q
     ·exact .inl q
     ·have he:e.on=j:=by simpa using q
      exact .inr ⟨e,List.mem_cons_self,hb, .inl he.symm⟩
    ·exact .inr ⟨e,List.mem_cons_self,hb, .inr q⟩
   ·exact .inl q
  ·exact .inr ⟨e',List.mem_cons_of_mem _ h1,h2⟩
noncomputable def yK (ops:List Oper) (i:Nat):Nat:=(nQ ops).getD i 0
def Closed (ops:List Oper) (pre:List Nat):Prop:= ∀i∈pre,∀j,(yK ops i).testBit j=true ->j∈pre
theorem K7 {ops:List Oper} {pre:List Nat} (hc:Closed ops pre) {i:Nat} {o:Oper} (ho:ops[i]? =some o) (he: ∀e∈o.after.toList,Region.binds .any e=true ->e.on∈pre): ∀j,(yK ops i).testBit j=true ->j∈pre:=by
 intro j hj
 unfold yK at hj
 rw[List.getD_eq_getElem?_getD,MG ops i o ho]at hj
 simp only[Option.getD_some]at hj
 unfold Ew at hj
 rcases yL _ _ hj with q|⟨e,h1,h2,rfl|h3⟩
 ·simp at q
 ·exact he e h1 h2
 ·refine hc e.on (he e h1 h2) j ?_
  unfold yK
  rw[List.getD_eq_getElem?_getD]at h3⊢
  rw[List.getElem?_take]at h3
  split at h3
  ·exact h3
  ·simp at h3
theorem Closed.cons {ops:List Oper} {pre:List Nat} (hc:Closed ops pre) {i:Nat} (h: ∀j,(yK ops i).testBit j=true ->j∈pre):Closed ops (i::pre):=by
 intro k hk j hj
 rcases List.mem_cons.1 hk with rfl|hk
 ·exact List.mem_cons_of_mem _ (h j hj)
 ·exact List.mem_cons_of_mem _ (hc k hk j hj)
noncomputable def Eb (l:List Operand):List Tmp:=kl [] (fun x _ ih=>match x with| .tmp t=>t::ih|_=>ih) l
noncomputable def BJ (ops:List Oper):Option (Nat×Bool) ->List Tmp
 |none=>[]
 |some q=>match Ex ops q.1 with|some g=>g.dst.toList|none=>[]
noncomputable def Hc (ops:List Oper) (o:Oper):List Tmp:=BJ ops o.guard++Eb o.op.operands.toList
noncomputable def names (ops:List Oper) (o:Oper):List Tmp:=o.dst.toList++Hc ops o
noncomputable def QO (t:Tmp) (l:List Tmp):Bool:=kl false (fun x _ ih=>match Nat.beq t x with|true=>true|false=>ih) l
noncomputable def tW (d:Option Tmp) (l:List Tmp):Bool:=match d with|some t=>QO t l|none=>false
noncomputable def clash (ops:List Oper) (a b:Oper):Bool:=tW a.dst (names ops b)||tW b.dst (names ops a)
theorem VD (t:Tmp) (l:List Tmp):QO t l=true↔t∈l:=by
 induction l with
 |nil=>simp[QO,cU]
 |cons x l ih=>
  have:QO t (x::l)=(match Nat.beq t x with|true=>true|false=>QO t l):=rfl
  rw[this]
  cases hb:Nat.beq t x with
  |true=>have:=dR hb;subst this;simp
  |false=>
   have:t≠x:=fun q=>by subst q;rw[Nat.beq_refl]at hb;simp at hb
   simp[ih,this]
theorem vS {ops:List Oper} {a b:Oper} {t:Tmp} (ha:a.dst=some t) (hb:t∈names ops b):clash ops a b=true/\ clash ops b a=true:=by
 have:tW a.dst (names ops b)=true:=by rw[ha];exact(VD _ _).2 hb
 constructor<;>simp[clash,this]
abbrev CV:=Nat×List (Nat×Oper)×List Nat
noncomputable def Bc (ops:List Oper) (m:Nat) (o:Oper) (q:Nat×Oper):Bool:=match bt q.2.op||clash ops q.2 o with|true=>m.testBit q.1|false=>true
noncomputable def Jd (m:Nat) (done:List (Nat×Oper)):List Nat:=(done.filter fun q=> !(bt q.2.op)&&(ik q.2.op&& !(m.testBit q.1))).map (·.1)
noncomputable def vv (m:Nat) (done:List (Nat×Oper)):Bool ->List Nat
 |true=>Jd m done
 |false=>[]
noncomputable def xc:List Nat ->Bool
 |[]=>true
 |_::_=>false
noncomputable def vm (ops:List Oper) (ms:List Nat) (l:List PE):Nat ->List (Nat×Oper) ->List Nat ->Bool:=
 kl (fun dm _ pend=>xc pend&&(List.range ops.length).all fun i=>dm.testBit i)
  (fun e _ ih dm done pend=>match e with
   | .ex i o=>xc pend&&((!(dm.testBit i))&&(Nat.beq (ms.getD i 0&&&dm) (ms.getD i 0)&&(done.all (Bc ops (ms.getD i 0) o)&&ih (dm|||2 ^ i) ((i,o)::done) (vv (ms.getD i 0) done (bt o.op)))))
   | .re i _=>ih dm done (pend.filter fun j=> !(Nat.beq j i))) l
structure PassAt (ops:List Oper) (e:PE) (a b:CV):Prop where
 ex: ∀i o,e= .ex i o ->a.2.2=[]/\ a.1.testBit i=false/\ (∀j,(yK ops i).testBit j=true ->a.1.testBit j=true)/\ (∀q∈a.2.1,(bt q.2.op=true \/clash ops q.2 o=true) ->(yK ops i).testBit q.1=true)/\
  b=(a.1|||2 ^ i,(i,o)::a.2.1,vv (yK ops i) a.2.1 (bt o.op))
 re: ∀i o,e= .re i o ->b=(a.1,a.2.1,a.2.2.filter fun j=> !(Nat.beq j i))
theorem A0 {ops:List Oper}: ∀(l:List PE) {dm:Nat} {done:List (Nat×Oper)} {pend:List Nat},vm ops (nQ ops) l dm done pend=true ->
  ∃ps:Nat ->CV,ps 0=(dm,done,pend)/\ (∀p e,l[p]? =some e ->PassAt ops e (ps p) (ps (p+1)))/\ (ps l.length).2.2=[]/\ ∀i,i<ops.length ->(ps l.length).1.testBit i=true
 |[],dm,done,pend,h=>by
  have h:(xc pend&&(List.range ops.length).all fun i=>dm.testBit i)=true:=h
  obtain⟨h1,h2⟩:=(Bool.and_eq_true _ _).mp h
  refine⟨fun _=>(dm,done,pend),rfl,fun p e he=>by simp at he,?_,fun i hi=>List.all_eq_true.1 h2 i (List.mem_range.2 hi)⟩
  cases pend with
  |nil=>rfl
  |cons _ _=>simp[xc]at h1
 |e::l,dm,done,pend,h=>by
  have key: ∃b:CV,PassAt ops e (dm,done,pend) b/\ vm ops (nQ ops) l b.1 b.2.1 b.2.2=true:=by
   cases e with
   |ex i o=>
    have h:(xc pend&&((!(dm.testBit i))&&(Nat.beq (yK ops i&&&dm) (yK ops i)&&(done.all (Bc ops (yK ops i) o)&&vm ops (nQ ops) l (dm|||2 ^ i) ((i,o)::done) (vv (yK ops i) done (bt o.op))))))=true:=h
    obtain⟨h1,h⟩:=(Bool.and_eq_true _ _).mp h
    obtain⟨h2,h⟩:=(Bool.and_eq_true _ _).mp h
    obtain⟨h3,h⟩:=(Bool.and_eq_true _ _).mp h
    obtain⟨h4,h5⟩:=(Bool.and_eq_true _ _).mp h
    refine⟨(dm|||2 ^ i,(i,o)::done,vv (yK ops i) done (bt o.op)),⟨fun i' o' e=> ?_,fun i' o' e=>by simp at e⟩,h5⟩
    simp at e
    obtain⟨rfl,rfl⟩:=e
    refine⟨?_,by simpa using h2,fun j hj=> ?_,fun q hq hor=> ?_,rfl⟩
    ·cases pend with
     |nil=>rfl
     |cons _ _=>simp[xc]at h1
    ·have:=dR h3
     rw[<-this,Nat.testBit_and]at hj
     exact((Bool.and_eq_true _ _).mp hj).2
    ·have:=List.all_eq_true.1 h4 q hq
     unfold Bc at this
     have hb:(bt q.2.op||clash ops q.2 o)=true:=by
      rcases hor with h|h<;>simp[h]
     rw[hb]at this
     exact this
   |re i o=>
    exact⟨(dm,done,pend.filter fun j=> !(Nat.beq j i)),⟨fun i' o' e=>by simp at e,fun i' o' e=>by simp at e;obtain⟨rfl,rfl⟩:=e;rfl⟩,h⟩
  obtain⟨b,hb,hrun⟩:=key
  obtain⟨ps,t0,t1,t2⟩:=A0 l hrun
  refine⟨fun n=>match n with|0=>(dm,done,pend)|n+1=>ps n,rfl,?_,t2⟩
  intro p e' he'
  cases p with
  |zero=>
   simp at he'
   subst he'
   show PassAt ops e (dm,done,pend) (ps 0)
   rw[t0];exact hb
  |succ p=>exact t1 p e' (by simpa using he')
theorem vk {ops:List Oper}: ∀x∈i7 ops,(∀i o,x= .ex i o ->ops[i]? =some o)/\ ∀i o,x= .re i o ->ops[i]? =some o:=by
 have hz: ∀p∈ops.zipIdx,ops[p.2]? =some p.1:=by
  intro p hp
  have:=List.mem_zipIdx_iff_getElem?.1 hp
  exact this
 have key: ∀(ms effs:List Nat) (l:List Nat) (k:Nat),∀x∈vn ops.zipIdx ms effs k l,(∀i o,x= .ex i o ->ops[i]? =some o)/\ ∀i o,x= .re i o ->ops[i]? =some o:=by
  intro ms effs l
  have hready: ∀k,∀x∈Eo ops.zipIdx ms effs k,(∀i o,x= .ex i o ->ops[i]? =some o)/\ ∀i o,x= .re i o ->ops[i]? =some o:=by
   intro k x hx
   obtain⟨p,hp,rfl⟩:=List.mem_map.1 hx
   refine⟨fun i o e=> ?_,fun i o e=>by simp at e⟩
   simp at e;obtain⟨rfl,rfl⟩:=e
   exact hz p (List.mem_filter.1 hp).1
  induction l with
  |nil=>intro k x hx;exact hready k x hx
  |cons e l ih=>
   intro k x hx
   simp only[vn,List.mem_append]at hx
   rcases hx with hx|hx|hx|hx
   ·exact hready k x hx
   ·obtain⟨p,hp,rfl⟩:=List.mem_map.1 hx
    refine⟨fun i o e=> ?_,fun i o e=>by simp at e⟩
    simp at e;obtain⟨rfl,rfl⟩:=e
    exact hz p (List.mem_filter.1 hp).1
   ·obtain⟨p,hp,rfl⟩:=List.mem_map.1 hx
    refine⟨fun i o e=>by simp at e,fun i o e=> ?_⟩
    simp at e;obtain⟨rfl,rfl⟩:=e
    exact hz p (List.mem_filter.1 hp).1
   ·exact ih (k+1) x hx
 exact key _ _ _ _
noncomputable def iw (ops:List Oper):Bool:=Bb ops&&vm ops (nQ ops) (i7 ops) 0 [] []
end Go.Am

namespace Go.Am
open Go
section
variable {ops:List Oper} {pl:List PE} {ps:Nat ->CV} (h0:ps 0=(0,[],[])) (hps: ∀p e,pl[p]? =some e ->PassAt ops e (ps p) (ps (p+1)))
include h0 hps
theorem rI: ∀P,P<=pl.length ->(∀i o,(i,o)∈(ps P).2.1↔ ∃p,p<P/\ pl[p]? =some (.ex i o))/\ ∀i,(ps P).1.testBit i=true↔ ∃o,(i,o)∈(ps P).2.1
 |0,_=>by
  rw[h0]
  exact⟨fun i o=>⟨fun h=>by simp at h,fun ⟨p,h,_⟩=>by omega⟩,fun i=>⟨fun h=>by simp at h,fun ⟨o,h⟩=>by simp at h⟩⟩
 |P+1,hP=>by
  obtain⟨a1,a2⟩:=rI P (by omega)
  have hlt:P<pl.length:=by omega
  have he:=List.getElem?_eq_getElem hlt
  have hp:=hps P _ he
  cases hx:pl[P]with
  |ex i o=>
   rw[hx]at hp he
   obtain⟨_,_,_,_,hb⟩:=hp.ex i o rfl
   rw[hb]
   refine⟨fun j o'=> ?_,fun j=> ?_⟩
   ·rw[List.mem_cons,a1]
    constructor
    ·rintro(h|⟨p,h1,h2⟩)
     ·simp at h;obtain⟨rfl,rfl⟩:=h;exact⟨P,by omega,he⟩
     ·exact⟨p,by omega,h2⟩
    ·rintro⟨p,h1,h2⟩
     rcases Nat.lt_or_ge p P with h|h
     ·exact .inr ⟨p,h,h2⟩
     ·have:p=P:=by omega
      subst this
      rw[he]at h2;simp at h2
      exact .inl (by rw[h2.1,h2.2])
   ·rw[Nat.testBit_or,Nat.testBit_two_pow,Bool.or_eq_true,a2]
    constructor
    ·rintro(⟨o',h⟩|h)
     ·exact⟨o',List.mem_cons_of_mem _ h⟩
     ·have:i=j:=by simpa using h
      subst this;exact⟨o,List.mem_cons_self⟩
    ·rintro⟨o',h⟩
     rcases List.mem_cons.1 h with h|h
     ·simp at h;exact .inr (by simp[h.1])
     ·exact .inl ⟨o',h⟩
  |re i o=>
   rw[hx]at hp he
   have hb:=hp.re i o rfl
   rw[hb]
   refine⟨fun j o'=> ?_,a2⟩
   rw[a1]
   constructor
   ·rintro⟨p,h1,h2⟩;exact⟨p,by omega,h2⟩
   ·rintro⟨p,h1,h2⟩
    rcases Nat.lt_or_ge p P with h|h
    ·exact⟨p,h,h2⟩
    ·have:p=P:=by omega
     subst this
     rw[he]at h2;simp at h2
theorem oj {p p':Nat} {i:Nat} {o o':Oper} (h1:pl[p]? =some (.ex i o)) (h2:pl[p']? =some (.ex i o')):p=p':=by
 have key: ∀{p p':Nat} {o o':Oper},pl[p]? =some (.ex i o) ->pl[p']? =some (.ex i o') -> ¬p<p':=by
  intro p p' o o' h1 h2 hlt
  have hl:=(List.getElem?_eq_some_iff.1 h2).1
  obtain⟨a1,a2⟩:=rI h0 hps p' (by omega)
  obtain⟨_,hf,_⟩:=(hps p' _ h2).ex i o' rfl
  have:=(a2 i).2 ⟨o,(a1 i o).2 ⟨p,hlt,h1⟩⟩
  rw[hf]at this;simp at this
 have:=key h1 h2
 have:=key h2 h1
 omega
theorem rK {p q:Nat} {i j:Nat} {o o':Oper} (h1:pl[p]? =some (.ex i o)) (h2:pl[q]? =some (.ex j o')) (hlt:q<p) (hc:bt o'.op=true \/clash ops o' o=true):(yK ops i).testBit j=true:=by
 have hl:=(List.getElem?_eq_some_iff.1 h1).1
 obtain⟨a1,a2⟩:=rI h0 hps p (by omega)
 obtain⟨_,_,_,hb,_⟩:=(hps p _ h1).ex i o rfl
 exact hb (j,o') ((a1 j o').2 ⟨q,hlt,h2⟩) hc
end
end Go.Am

namespace Go.Am
open Go
theorem uY (τ:List (List Value)) (dst:Option Tmp) (v:Value) (u:Nat):zr (qz τ dst v) u↔zr τ u:=by
 cases dst with
 |none=>exact Iff.rfl
 |some d=>exact F8 τ d u v
theorem uZ (τ:List (List Value)) {dst:Option Tmp} {u:Nat} (h:dst≠some u) (v:Value):iU (qz τ dst v) u=iU τ u:=by
 cases dst with
 |none=>rfl
 |some d=>exact oP τ (fun e=>h (by rw[e])) v
theorem F9 {τ:List (List Value)} {t:Nat} (h: ¬zr τ t):iU τ t=undef:=by
 unfold zr at h
 rw[oQ,List.getD_eq_getElem?_getD,List.getElem?_eq_none (by omega)]
 rfl
def rU (a b:IF) (dst:Option Tmp) (v:Value):Prop:=b.2.1.tmps=qz a.2.1.tmps dst v
theorem C7 {C:Ctx} {self:Self} {rd:Option Nat} {ops:List Oper} {a b:IF} {i:Nat} {o:Oper} (h:rW C self rd ops a b (.ex i o)): ∃v,rU a b o.dst v:=by
 rcases h with⟨_,rfl⟩|⟨_,_,_,h⟩|⟨_,_,e,_,h,_⟩
 ·exact⟨undef,by simp[rU,sM]⟩
 ·obtain⟨v,D,p,h1,_⟩:=DU (τ:=a.2.1.tmps) (τ':=a.2.1.tmps) (D:=a.2.1.defers) (p:=a.2.1.pan) (fun _ _=>rfl) _ _ h
  exact⟨v,by simp[rU,h1]⟩
 ·cases e with
  |val v=>
   simp[mn]at h
   exact⟨v,by simp[rU,<-h.1,sM]⟩
  |new x mk=>
   obtain⟨_,h⟩:=aq h
   simp at h
   exact⟨mk a.2.2.next,by simp[rU,<-h.1,sM]⟩
section
variable {C:Ctx} {self:Self} {rd:Option Nat} {ops:List Oper} {pl:List PE} {tr:Nat ->IF} (htr: ∀p e,pl[p]? =some e ->rW C self rd ops (tr p) (tr (p+1)) e)
include htr
theorem OP {t:Tmp} {a:Nat}: ∀{b:Nat},a<=b ->b<=pl.length ->(∀p i o,a<=p ->p<b ->pl[p]? =some (.ex i o) ->o.dst≠some t) ->iU (tr b).2.1.tmps t=iU (tr a).2.1.tmps t/\ (zr (tr b).2.1.tmps t↔zr (tr a).2.1.tmps t)
 |b,hab,hb,hw=>by
  by_cases he:a=b
  ·subst he;exact⟨rfl,Iff.rfl⟩
  ·obtain⟨b,rfl⟩: ∃c,b=c+1:=⟨b -1,by omega⟩
   obtain⟨i1,i2⟩:=OP (t:=t) (a:=a) (b:=b) (by omega) (by omega) (fun p i o h1 h2=>hw p i o h1 (by omega))
   have hlt:b<pl.length:=by omega
   have hx:=List.getElem?_eq_getElem hlt
   cases hc:pl[b]with
   |re i o=>
    rw[hc]at hx
    obtain⟨h1,_⟩:=htr b _ hx
    rw[h1];exact⟨i1,i2⟩
   |ex i o=>
    rw[hc]at hx
    obtain⟨v,hv⟩:=C7 (htr b _ hx)
    have hv:(tr (b+1)).2.1.tmps=qz (tr b).2.1.tmps o.dst v:=hv
    rw[hv]
    exact⟨(uZ _ (hw b i o (by omega) (by omega) hx) v).trans i1,(uY _ _ _ _).trans i2⟩
termination_by b=>b
theorem zq {t:Tmp}: ∀{b:Nat},b<=pl.length ->(zr (tr b).2.1.tmps t↔zr (tr 0).2.1.tmps t)
 |0,_=>Iff.rfl
 |b+1,hb=>by
  have ih:=zq (t:=t) (b:=b) (by omega)
  have hlt:b<pl.length:=by omega
  have hx:=List.getElem?_eq_getElem hlt
  cases hc:pl[b]with
  |re i o=>
   rw[hc]at hx
   obtain⟨h1,_⟩:=htr b _ hx
   rw[h1];exact ih
  |ex i o=>
   rw[hc]at hx
   obtain⟨v,hv⟩:=C7 (htr b _ hx)
   have hv:(tr (b+1)).2.1.tmps=qz (tr b).2.1.tmps o.dst v:=hv
   rw[hv]
   exact(uY _ _ _ _).trans ih
end
end Go.Am
