/- Parts Am28, Am29, Am30, Am31 of the abstract machine over this program, joined: what each part says stands at its head. -/
import Derived.Test.YtlflfbnnjlkkcaaGreatJAm22
set_option linter.unusedSimpArgs false
set_option linter.unusedVariables false
set_option linter.defProp false
namespace Go.Am
open Go
theorem MF {C : Ctx} {ρ : Operand → Value} {h : Heap} {op : Op} {x : AObj} {mk : Nat → Value} (he : aJ C ρ h op = some (.new x mk)) : ik op = true := by
  cases hb : ik op with
  | true => rfl
  | false =>
    exfalso
    cases op <;> simp [ik] at hb <;> simp only [aJ] at he <;> first
      | (simp at he; done)
      | (obtain ⟨a, _, h1⟩ := ab he; simp [aY] at h1; done)
      | (simp [aY] at he; done)
      | (unfold Ct at he; split at he <;> simp [aY] at he; done)
      | (obtain ⟨a, _, h1⟩ := ab he; obtain ⟨_, h2⟩ := aq h1; simp [aY] at h2; done)
      | (obtain ⟨a, _, h1⟩ := ab he; obtain ⟨_, _, h2⟩ := ab h1; obtain ⟨_, h3⟩ := aq h2; simp [aY] at h3; done)
      | (obtain ⟨a, _, h1⟩ := ab he; obtain ⟨_, _, h2⟩ := ab h1; obtain ⟨_, _, h3⟩ := ab h2; simp [aY] at h3; done)
      | (obtain ⟨a, _, h1⟩ := ab he; obtain ⟨_, _, h2⟩ := ab h1; simp [aY] at h2; done)
      | (obtain ⟨_, h1⟩ := aq he; simp [aY] at h1; done)
      | (unfold ir K6 sP at he; repeat' split at he
         all_goals first | (simp [aY] at he; done) | (obtain ⟨_, h1⟩ := aq he; simp [aY] at h1; done) | (obtain ⟨_, _, h1⟩ := ab he; obtain ⟨_, h2⟩ := aq h1; simp [aY] at h2; done) | (obtain ⟨_, _, h1⟩ := ab he; simp [aY] at h1; done))
def Us (C:Ctx) (a:IF) (op:Op) (h:Heap):EV ->Prop
 | .val v=>aJ C (ev a.2.1.tmps) h op=some (.val v)
 | .new x _=>h.get a.2.2.next=some x
theorem kT (i:Nat) (r:Rec) (l:List Rec):io i (r::l)=(match Nat.beq r.idx i with|true=>some r|false=>io i l):=rfl
theorem Dj (i:Nat) (τ:List (List Value)) (h:Heap) (e:EV):(Dk i τ h e).idx=i:=by cases e<;>rfl
theorem o0 {dst:Option Tmp} {s s':FrS} {h h':Heap} {e:EV} (hp:mn dst s h e=some (.ok s' h')):HLe h h'/\ s'.defers=s.defers/\ s'.pan=s.pan/\ h.next<=h'.next/\
  (∀v,e= .val v ->h'=h)/\ ∀x mk,e= .new x mk ->h'=h.alloc x/\ js (h.get h.next)=true:=by
 cases e with
 |val v=>
  simp[mn]at hp
  obtain⟨rfl,rfl⟩:=hp
  refine⟨HLe.refl _,?_,?_,Nat.le_refl _,fun _ _=>rfl,fun x mk e=>by simp at e⟩<;>cases dst<;>rfl
 |new x mk=>
  obtain⟨h1,h2⟩:=aq hp
  simp at h2
  obtain⟨rfl,rfl⟩:=h2
  refine⟨HLe.alloc h1 x,?_,?_,by simp,fun v e=>by simp at e,fun x' mk' e=> ?_⟩
  ·cases dst<;>rfl
  ·cases dst<;>rfl
  ·simp at e;obtain⟨rfl,_⟩:=e;exact⟨rfl,h1⟩
section
variable {C:Ctx} {self:Self} {rd:Option Nat} {ops:List Oper} {pl:List PE} {tr:Nat ->IF} {ps:Nat ->CV}
 (h0:ps 0=(0,[],[])) (hps: ∀p e,pl[p]? =some e ->PassAt ops e (ps p) (ps (p+1)))
 (htr: ∀p e,pl[p]? =some e ->rW C self rd ops (tr p) (tr (p+1)) e)
 (hown: ∀x∈pl,(∀i o,x= .ex i o ->ops[i]? =some o)/\ ∀i o,x= .re i o ->ops[i]? =some o)
include h0 hps htr
structure Did (C:Ctx) (ops:List Oper) (pl:List PE) (tr:Nat ->IF) (p i:Nat) (o:Oper) (e:EV):Prop where
 at':pl[p]? =some (.ex i o)
 early:bt o.op=false
 want:bO ops o (tr p).2.1.tmps=true
 ev':aJ C (ev (tr p).2.1.tmps) (tr p).2.2 o.op=some e
omit h0 hps in
theorem Did.step {p i:Nat} {o:Oper} {e:EV} (D:Did C ops pl tr p i o e):mn o.dst (tr p).2.1 (tr p).2.2 e=some (.ok (tr (p+1)).2.1 (tr (p+1)).2.2)/\ (tr (p+1)).1=Dk i (tr p).2.1.tmps (tr p).2.2 e::(tr p).1:=by
 rcases htr p _ D.at' with⟨h1,_⟩|⟨_,h1,_⟩|⟨_,_,e',h1,h2,h3⟩
 ·rw[D.want]at h1;simp at h1
 ·rw[D.early]at h1;simp at h1
 ·rw[D.ev']at h1;simp at h1;subst h1
  exact⟨h2,h3⟩
theorem Qm {p i:Nat} {o:Oper} {e:EV} (D:Did C ops pl tr p i o e): ∀P,p<P ->P<=pl.length ->io i (tr P).1=some (Dk i (tr p).2.1.tmps (tr p).2.2 e)
 |0,h,_=>by omega
 |P+1,h,hP=>by
  by_cases hp:p=P
  ·subst hp
   rw[(D.step htr).2,kT,Dj,Nat.beq_refl]
  ·have ih:=Qm D P (by omega) (by omega)
   have hlt:P<pl.length:=by omega
   have hx:=List.getElem?_eq_getElem hlt
   cases hc:pl[P]with
   |re j o'=>
    rw[hc]at hx
    obtain⟨h1,_⟩:=htr P _ hx
    rw[h1];exact ih
   |ex j o'=>
    rw[hc]at hx
    rcases htr P _ hx with⟨_,h1⟩|⟨_,_,h1,_⟩|⟨_,_,e',_,_,h1⟩
    ·rw[h1];exact ih
    ·rw[h1];exact ih
    ·rw[h1,kT,Dj]
     cases hb:Nat.beq j i with
     |true=>
      have hji:=dR hb
      subst hji
      exact absurd (oj h0 hps D.at' hx) hp
     |false=>exact ih
include hown in
theorem HA {p i:Nat} {o:Oper} {e:EV} (D:Did C ops pl tr p i o e): ∀P,p<P ->P<=pl.length ->(∀q j o',q<P ->pl[q]? =some (.ex j o') ->bt o'.op=true -> ¬(yK ops j).testBit i=true) ->i∉(ps P).2.2 ->Us C (tr p) o.op (tr P).2.2 e
 |0,h,_,_,_=>by omega
 |P+1,h,hP,hq,hi=>by
  have hlt:P<pl.length:=by omega
  have hx:=List.getElem?_eq_getElem hlt
  by_cases hp:p=P
  ·subst hp
   obtain⟨_,_,_,_,h1,h2⟩:=o0 (D.step htr).1
   cases e with
   |val v=>show aJ C _ _ _=_;rw[h1 v rfl];exact D.ev'
   |new x mk=>show(tr (p+1)).2.2.get _=_;rw[(h2 x mk rfl).1];exact Heap.get_alloc_self _ _
  ·have hpP:p<P:=by omega
   have ih:i∉(ps P).2.2 ->Us C (tr p) o.op (tr P).2.2 e:=HA D P hpP (by omega) (fun q j o' a=>hq q j o' (by omega))
   cases hc:pl[P]with
   |re j o'=>
    rw[hc]at hx
    obtain⟨h1,h2⟩:=htr P _ hx
    have hb:=(hps P _ hx).re j o' rfl
    rw[hb]at hi
    rw[h1]
    by_cases hij:i=j
    ·subst hij
     have hoo:o'=o:=by
      have e1:=(hown _ (List.mem_of_getElem? hx)).2 i o' rfl
      have e2:=(hown _ (List.mem_of_getElem? D.at')).1 i o rfl
      rw[e1]at e2;simpa using e2
     subst hoo
     rw[Qm h0 hps htr D P hpP (by omega)]at h2
     cases e with
     |val v=>
      have h2:AQ v (aJ C (ev (tr p).2.1.tmps) (tr P).2.2 o'.op)=true:=h2
      unfold AQ at h2
      split at h2
      ·rename_i v' hv'
       show aJ C _ _ _=_
       rw[hv',Qi h2]
      ·simp at h2
     |new x mk=>
      have h2:sameAt x ((tr P).2.2.get (tr p).2.2.next)=true:=h2
      unfold sameAt at h2
      split at h2
      ·rename_i y hy
       show(tr P).2.2.get _=_
       rw[hy,Qj h2]
      ·simp at h2
    ·refine ih fun hm=>hi ?_
     refine List.mem_filter.2 ⟨hm,?_⟩
     cases hbq:Nat.beq i j with
     |true=>exact absurd (dR hbq) hij
     |false=>rfl
   |ex j o'=>
    rw[hc]at hx
    obtain⟨hnil,_,_,_,hb⟩:=(hps P _ hx).ex j o' rfl
    have ih:=ih (by rw[hnil];simp)
    rcases htr P _ hx with⟨_,h1⟩|⟨_,heff,_,_⟩|⟨_,_,e',_,h2,_⟩
    ·rw[h1];exact ih
    ·have hm:=hq P j o' (by omega) hx heff
     have hmem:(i,o)∈(ps P).2.1:=((rI h0 hps P (by omega)).1 i o).2 ⟨p,hpP,D.at'⟩
     have hhb:ik o.op=false:=by
      cases hh:ik o.op with
      |false=>rfl
      |true=>
       refine absurd ?_ hi
       rw[hb,heff]
       show i∈Jd (yK ops j) (ps P).2.1
       unfold Jd
       refine List.mem_map.2 ⟨(i,o),List.mem_filter.2 ⟨hmem,?_⟩,rfl⟩
       have:(yK ops j).testBit i=false:=by simpa using hm
       simp[D.early,hh,this]
     cases e with
     |val v=>
      show aJ C _ _ _=_
      rw[JX hhb];exact ih
     |new x mk=>
      have:=MF D.ev'
      rw[hhb]at this;simp at this
    ·have hle:=(o0 h2).1
     cases e with
     |val v=>exact JY hle ih
     |new x mk=>exact hle.2 _ _ ih
end
end Go.Am

namespace Go.Am
open Go
def RT (pl:List PE) (tr:Nat ->IF) (pre:List Nat) (τ:List (List Value)):Prop:=
 (∀t Q,Q<=pl.length ->(∀p i o,pl[p]? =some (.ex i o) ->o.dst=some t ->(p<Q↔i∈pre)) ->iU τ t=iU (tr Q).2.1.tmps t)/\ ∀t,zr τ t↔zr (tr 0).2.1.tmps t
section
variable {C:Ctx} {self:Self} {rd:Option Nat} {ops:List Oper} {pl:List PE} {tr:Nat ->IF} {ps:Nat ->CV}
 (h0:ps 0=(0,[],[])) (hps: ∀p e,pl[p]? =some e ->PassAt ops e (ps p) (ps (p+1)))
 (htr: ∀p e,pl[p]? =some e ->rW C self rd ops (tr p) (tr (p+1)) e)
include htr in
theorem RT.init:RT pl tr [] (tr 0).2.1.tmps:=by
 refine⟨fun t Q hQ hw=> ?_,fun _=>Iff.rfl⟩
 refine((OP htr (t:=t) (a:=0) (b:=Q) (by omega) hQ fun p i o _ h1 h2 hd=> ?_).1).symm
 have:=(hw p i o h2 hd).1 h1
 simp at this
include h0 hps
include htr in
theorem RT.step {pre:List Nat} {τ:List (List Value)} (R:RT pl tr pre τ) (hc:Closed ops pre) {p i:Nat} {o:Oper} (hp:pl[p]? =some (.ex i o)) (hi:i∉pre) {v:Value} (hv:(tr (p+1)).2.1.tmps=qz (tr p).2.1.tmps o.dst v):
  RT pl tr (i::pre) (qz τ o.dst v):=by
 refine⟨fun t Q hQ hw=> ?_,fun t=>(uY _ _ _ _).trans (R.2 t)⟩
 have hpl:p<pl.length:=(List.getElem?_eq_some_iff.1 hp).1
 by_cases hd:o.dst=some t
 ·have hpQ:p<Q:=(hw p i o hp hd).2 List.mem_cons_self
  by_cases ht:zr (tr 0).2.1.tmps t
  ·have e1:iU (qz τ o.dst v) t=v:=by rw[hd];exact lz ((R.2 t).2 ht) v
   have e2:iU (tr (p+1)).2.1.tmps t=v:=by
    rw[hv,hd]
    exact lz ((zq htr (by omega)).2 ht) v
   rw[e1,<-e2]
   refine((OP htr (t:=t) (a:=p+1) (b:=Q) (by omega) hQ fun q j o' h1 h2 h3 hd'=> ?_).1).symm
   have hj:=(hw q j o' h3 hd').1 h2
   rcases List.mem_cons.1 hj with rfl|hj
   ·have:=oj h0 hps hp h3;omega
   ·have:=rK h0 hps h3 hp (by omega) (.inr (vS hd (by simp[names,hd'])).1)
    exact hi (hc j hj i this)
  ·rw[F9 (fun h=>ht ((R.2 t).1 ((uY _ _ _ _).1 h)))]
   exact(F9 fun h=>ht ((zq htr hQ).1 h)).symm
 ·rw[uZ _ hd]
  refine R.1 t Q hQ fun p' i' o' h1 h2=>(hw p' i' o' h1 h2).trans ?_
  rw[List.mem_cons]
  constructor
  ·rintro(rfl|h)
   ·have:=oj h0 hps hp h1
    subst this
    rw[hp]at h1;simp at h1
    rw[h1]at hd
    exact absurd h2 hd
   ·exact h
  ·exact .inr
theorem RT.read {pre:List Nat} {τ:List (List Value)} (R:RT pl tr pre τ) (hc:Closed ops pre) {p i:Nat} {o:Oper} (hp:pl[p]? =some (.ex i o)) (hi:i∉pre) (hm: ∀j,(yK ops i).testBit j=true ->j∈pre) {t:Tmp} (ht:t∈names ops o):
  iU τ t=iU (tr p).2.1.tmps t:=by
 have hpl:p<pl.length:=(List.getElem?_eq_some_iff.1 hp).1
 refine R.1 t p (by omega) fun p' i' o' h1 h2=> ?_
 constructor
 ·intro hlt
  exact hm i' (rK h0 hps hp h1 hlt (.inr (vS h2 ht).1))
 ·intro hpre
  rcases Nat.lt_or_ge p' p with h|h
  ·exact h
  ·rcases Nat.eq_or_lt_of_le h with e|h
   ·subst e
    rw[hp]at h1;simp at h1
    rw[h1.1]at hi;exact absurd hpre hi
   ·exact absurd (hc i' hpre i (rK h0 hps h1 hp h (.inr (vS h2 ht).2))) hi
theorem RT.readN {N:Nat} {tr:Nat ->IF} {pre:List Nat} {τ:List (List Value)} (R:RT (pl.take N) tr pre τ) {i:Nat} {o:Oper} (hp:pl[N]? =some (.ex i o)) (hm: ∀j,(yK ops i).testBit j=true ->j∈pre) {t:Tmp} (ht:t∈names ops o):
  iU τ t=iU (tr N).2.1.tmps t:=by
 have hpl:N<pl.length:=(List.getElem?_eq_some_iff.1 hp).1
 refine R.1 t N (by simp;omega) fun p' i' o' h1 h2=> ?_
 have hp':p'<N:=by have:=(List.getElem?_eq_some_iff.1 h1).1;simp at this;omega
 rw[List.getElem?_take_of_lt hp']at h1
 exact⟨fun _=>hm i' (rK h0 hps hp h1 hp' (.inr (vS h2 ht).1)),fun _=>hp'⟩
omit h0 hps in
theorem Bl {l:List Operand} {t:Tmp} (h:Operand.tmp t∈l):t∈Eb l:=by
 induction l with
 |nil=>simp at h
 |cons x l ih=>
  rcases List.mem_cons.1 h with hx|h
  ·subst hx;show t∈t::Eb l;exact List.mem_cons_self
  ·have:=ih h
   cases x with
   |tmp u=>show t∈u::Eb l;exact List.mem_cons_of_mem _ this
   |const v=>exact this
   |global g=>exact this
   |func f=>exact this
omit h0 hps in
theorem YZ {τ τ':List (List Value)} {o:Oper} (hr: ∀t∈names ops o,iU τ t=iU τ' t):(∀x∈o.op.operands.toList,ev τ x=ev τ' x)/\ bO ops o τ=bO ops o τ':=by
 constructor
 ·intro x hx
  cases x with
  |tmp t=>exact hr t (by simp[names,Hc,Bl hx])
  |const v=>rfl
  |global g=>rfl
  |func f=>rfl
 ·unfold bO
  cases hg:o.guard with
  |none=>rfl
  |some q=>
   simp only
   unfold gJ
   cases hl:Ex ops q.1 with
   |none=>rfl
   |some g=>
    simp only[au]
    cases hd:g.dst with
    |none=>rfl
    |some t=>
     simp only
     rw[hr t (by simp[names,Hc,BJ,hg,hl,hd])]
theorem RT.evs {pre:List Nat} {τ:List (List Value)} (R:RT pl tr pre τ) (hc:Closed ops pre) {p i:Nat} {o:Oper} (hp:pl[p]? =some (.ex i o)) (hi:i∉pre) (hm: ∀j,(yK ops i).testBit j=true ->j∈pre):
  (∀x∈o.op.operands.toList,ev τ x=ev (tr p).2.1.tmps x)/\ bO ops o τ=bO ops o (tr p).2.1.tmps:=by
 constructor
 ·intro x hx
  cases x with
  |tmp t=>exact R.read h0 hps hc hp hi hm (by simp[names,Hc,Bl hx])
  |const v=>rfl
  |global g=>rfl
  |func f=>rfl
 ·unfold bO
  cases hg:o.guard with
  |none=>rfl
  |some q=>
   simp only
   unfold gJ
   cases hl:Ex ops q.1 with
   |none=>rfl
   |some g=>
    simp only[au]
    cases hd:g.dst with
    |none=>rfl
    |some t=>
     simp only
     rw[R.read h0 hps hc hp hi hm (t:=t) (by simp[names,Hc,BJ,hg,hl,hd])]
end
theorem TRel.of_same {μ:Mu} {τ τ':List (List Value)} {T:Array Value} (h:TRel μ τ T) (h1: ∀t,iU τ t=iU τ' t) (h2: ∀t,zr τ t↔zr τ' t):TRel μ τ' T:=by
 intro t
 rw[<-h1 t]
 exact⟨(h t).1,(h2 t).symm.trans (h t).2⟩
end Go.Am

namespace Go.Am
open Go
structure PlanOK (C:Ctx) (me:Self) (rd:Option Nat) (ops:List Oper) (pl:List PE) (tr:Nat ->IF) (ps:Nat ->CV):Prop where
 h0:ps 0=(0,[],[])
 hps: ∀p e,pl[p]? =some e ->PassAt ops e (ps p) (ps (p+1))
 htr: ∀p e,pl[p]? =some e ->rW C me rd ops (tr p) (tr (p+1)) e
 own: ∀x∈pl,(∀i o,x= .ex i o ->ops[i]? =some o)/\ ∀i o,x= .re i o ->ops[i]? =some o
 endp:(ps pl.length).2.2=[]
def rX (pl:List PE) (P:Nat):Prop:=P=pl.length \/ ∃i o,pl[P]? =some (.ex i o)/\ bt o.op=true
structure RInv (C:Ctx) (ops:List Oper) (pl:List PE) (tr:Nat ->IF) (pre:List Nat) (P:Nat) (τ:List (List Value)) (μ:Mu):Prop where
 lt:P<=pl.length
 closed:Closed ops pre
 effs: ∀q i o,pl[q]? =some (.ex i o) ->bt o.op=true ->(q<P↔i∈pre)
 rt:RT pl tr pre τ
 mono: ∀p q,p<=q ->q<=P ->(tr p).2.2.next<=(tr q).2.2.next
 pend: ∀p i o x mk,p<P ->Did C ops pl tr p i o (.new x mk) ->i∉pre ->μ (tr p).2.2.next=none
section
variable {C:Ctx} {gd:List Oper ->Bool} {w0:World} {self:Self} {rd:Option Nat} {ops:List Oper} {pl:List PE} {tr:Nat ->IF} {ps:Nat ->CV} (PO:PlanOK C self rd ops pl tr ps)
include PO
theorem PlanOK.own_at {p i:Nat} {o:Oper} (h:pl[p]? =some (.ex i o)):ops[i]? =some o:=(PO.own _ (List.mem_of_getElem? h)).1 i o rfl
omit PO in
theorem Ya (h0:ps 0=(0,[],[])) (hps: ∀p e,pl[p]? =some e ->PassAt ops e (ps p) (ps (p+1))) (own: ∀x∈pl,(∀i o,x= .ex i o ->ops[i]? =some o)/\ ∀i o,x= .re i o ->ops[i]? =some o)
  (all: ∀i,i<ops.length ->(ps pl.length).1.testBit i=true) {i:Nat} {o:Oper} (h:ops[i]? =some o): ∃p:Nat,pl[p]? =some (PE.ex i o):=by
 have hi:=(List.getElem?_eq_some_iff.1 h).1
 obtain⟨a1,a2⟩:=rI h0 hps pl.length (Nat.le_refl _)
 obtain⟨o',ho⟩:=(a2 i).1 (all i hi)
 obtain⟨p,_,hp⟩:=(a1 i o').1 ho
 have:=(own _ (List.mem_of_getElem? hp)).1 i o' rfl
 rw[h]at this;simp at this
 exact⟨p,by rw[this];exact hp⟩
theorem PlanOK.ends {P:Nat} (h:rX pl P):(ps P).2.2=[]:=by
 rcases h with rfl|⟨i,o,h1,_⟩
 ·exact PO.endp
 ·exact((PO.hps P _ h1).ex i o rfl).1
theorem PlanOK.new_next {p i:Nat} {o:Oper} {x:AObj} {mk:Nat ->Value} (D:Did C ops pl tr p i o (.new x mk)):(tr (p+1)).2.2.next=(tr p).2.2.next+1:=by
 have:=(o0 (D.step PO.htr).1).2.2.2.2.2 x mk rfl
 rw[this.1];simp
variable {μ0:Mu} {n0:Nat} {s0:FrS} {cs0:List Frame} {b:Frame}
theorem Fi {pre:List Nat} {τ:List (List Value)} {μ:Mu} {t:Array Value} {d:List Deferred} {cs:List Frame} {w:World}: ∀(n P1:Nat),pl.length -P1<=n ->RInv C ops pl tr pre P1 τ μ ->
  Aft C gd w0 μ0 n0 s0 cs0 rd b ⟨τ,(tr P1).2.1.defers,(tr P1).2.1.pan⟩ (tr P1).2.2 μ t d cs w ->
  ∃P,rX pl P/\ RInv C ops pl tr pre P τ μ/\ Aft C gd w0 μ0 n0 s0 cs0 rd b ⟨τ,(tr P).2.1.defers,(tr P).2.1.pan⟩ (tr P).2.2 μ t d cs w:=by
 intro n
 induction n with
 |zero=>intro P1 hn I A;exact⟨P1, .inl (by have:=I.lt;omega),I,A⟩
 |succ n ih=>
  intro P1 hn I A
  by_cases hP:P1=pl.length
  ·exact⟨P1, .inl hP,I,A⟩
  have hlt:P1<pl.length:=by have:=I.lt;omega
  have hx:=List.getElem?_eq_getElem hlt
  have goOn:(∀i o,pl[P1]? =some (.ex i o) ->bt o.op=false) ->(tr (P1+1)).2.1.defers=(tr P1).2.1.defers ->(tr (P1+1)).2.1.pan=(tr P1).2.1.pan ->((tr (P1+1)).2.2=(tr P1).2.2 \/ ∃x,(tr (P1+1)).2.2=(tr P1).2.2.alloc x) ->
    ∃P,rX pl P/\ RInv C ops pl tr pre P τ μ/\ Aft C gd w0 μ0 n0 s0 cs0 rd b ⟨τ,(tr P).2.1.defers,(tr P).2.1.pan⟩ (tr P).2.2 μ t d cs w:=by
   intro hne hd hp hh
   have hnx:(tr P1).2.2.next<=(tr (P1+1)).2.2.next:=by
    rcases hh with hh|⟨x,hh⟩<;>rw[hh]<;>simp
   refine ih (P1+1) (by omega) ⟨by omega,I.closed,?_,I.rt,?_,?_⟩ ?_
   ·intro q i o hq he
    rw[<-I.effs q i o hq he]
    constructor
    ·intro h
     rcases Nat.lt_or_ge q P1 with h'|h'
     ·exact h'
     ·have:q=P1:=by omega
      subst this
      rw[hne i o hq]at he;simp at he
    ·omega
   ·intro p q hpq hq
    rcases Nat.lt_or_ge q (P1+1)with h|h
    ·exact I.mono p q hpq (by omega)
    ·have:q=P1+1:=by omega
     subst this
     rcases Nat.lt_or_ge p (P1+1)with h'|h'
     ·exact Nat.le_trans (I.mono p P1 (by omega) (Nat.le_refl _)) hnx
     ·have:p=P1+1:=by omega
      subst this;exact Nat.le_refl _
   ·intro p i o x mk hp' D hi
    rcases Nat.lt_or_ge p P1 with h|h
    ·exact I.pend p i o x mk h D hi
    ·have:p=P1:=by omega
     subst this
     exact A.st.H.fresh
   ·rw[hd,hp]
    have H':HRel (goodP C gd) w0 μ (tr (P1+1)).2.2 w:=by
     rcases hh with hh|⟨x,hh⟩<;>rw[hh]
     ·exact A.st.H
     ·exact A.st.H.allocA x
    exact⟨A.le,A.fresh,Nat.le_trans A.nx hnx,⟨H',A.st.T,A.st.D,A.st.R,A.st.N,A.st.G⟩,A.pan⟩
  cases hc:pl[P1]with
  |re i o=>
   rw[hc]at hx
   obtain⟨h1,_⟩:=PO.htr P1 _ hx
   refine goOn (fun i' o' h=>by rw[hx]at h;simp at h) (by rw[h1]) (by rw[h1]) (.inl (by rw[h1]))
  |ex i o=>
   rw[hc]at hx
   cases heff:bt o.op with
   |true=>exact⟨P1, .inr ⟨i,o,hx,heff⟩,I,A⟩
   |false=>
    have hne: ∀i' o',pl[P1]? =some (.ex i' o') ->bt o'.op=false:=fun i' o' h=>by rw[hx]at h;simp at h;rw[<-h.2];exact heff
    rcases PO.htr P1 _ hx with⟨_,h1⟩|⟨_,h1,_⟩|⟨_,_,e,_,h2,_⟩
    ·refine goOn hne (by rw[h1];exact oZ _ _ _) (by rw[h1];exact sL _ _ _) (.inl (by rw[h1]))
    ·rw[heff]at h1;simp at h1
    ·obtain⟨_,a1,a2,_,a3,a4⟩:=o0 h2
     refine goOn hne a1 a2 ?_
     cases e with
     |val v=>exact .inl (a3 v rfl)
     |new x mk=>exact .inr ⟨x,(a4 x mk rfl).1⟩
theorem RInv.early_lt {pre:List Nat} {P:Nat} {τ:List (List Value)} {μ:Mu} (I:RInv C ops pl tr pre P τ μ) (hF:rX pl P) {p i:Nat} {o:Oper} (hp:pl[p]? =some (.ex i o)) (he:bt o.op=false) (hm: ∀j,(yK ops i).testBit j=true ->j∈pre):p<P:=by
 have hpl:=(List.getElem?_eq_some_iff.1 hp).1
 rcases hF with rfl|⟨j,o',h1,h2⟩
 ·exact hpl
 ·rcases Nat.lt_or_ge p P with h|h
  ·exact h
  ·rcases Nat.eq_or_lt_of_le h with e|h
   ·subst e;rw[hp]at h1;simp at h1;rw[h1.2,h2]at he;simp at he
   ·have:=(I.effs P j o' h1 h2).2 (hm j (rK PO.h0 PO.hps hp h1 h (.inl h2)))
    omega
theorem RInv.eff_eq {pre:List Nat} {P:Nat} {τ:List (List Value)} {μ:Mu} (I:RInv C ops pl tr pre P τ μ) (hF:rX pl P) {p i:Nat} {o:Oper} (hp:pl[p]? =some (.ex i o)) (he:bt o.op=true) (hi:i∉pre) (hm: ∀j,(yK ops i).testBit j=true ->j∈pre):p=P:=by
 have hpl:=(List.getElem?_eq_some_iff.1 hp).1
 have hge: ¬p<P:=fun h=>hi ((I.effs p i o hp he).1 h)
 rcases hF with rfl|⟨j,o',h1,h2⟩
 ·omega
 ·rcases Nat.lt_or_ge P p with h|h
  ·have:=(I.effs P j o' h1 h2).2 (hm j (rK PO.h0 PO.hps hp h1 h (.inl h2)))
   omega
  ·omega
theorem RInv.early {pre:List Nat} {P:Nat} {τ:List (List Value)} {μ μ':Mu} (I:RInv C ops pl tr pre P τ μ) {p i:Nat} {o:Oper} (hp:pl[p]? =some (.ex i o)) (he:bt o.op=false) (hi:i∉pre) (hm: ∀j,(yK ops i).testBit j=true ->j∈pre) {v:Value}
  (hv:(tr (p+1)).2.1.tmps=qz (tr p).2.1.tmps o.dst v) (hμ: ∀p' i' o' x mk,p'<P ->Did C ops pl tr p' i' o' (.new x mk) ->i'∉i::pre ->μ' (tr p').2.2.next=none):RInv C ops pl tr (i::pre) P (qz τ o.dst v) μ':=by
 refine⟨I.lt,I.closed.cons hm,fun q j o' hq heq=> ?_,I.rt.step PO.h0 PO.hps PO.htr I.closed hp hi hv,I.mono,hμ⟩
 rw[I.effs q j o' hq heq,List.mem_cons]
 constructor
 ·exact .inr
 ·rintro(rfl|h)
  ·have e1:=PO.own_at hq
   have e2:=PO.own_at hp
   rw[e1]at e2;simp at e2
   rw[e2,he]at heq;simp at heq
  ·exact h
theorem RInv.eff {pre:List Nat} {P:Nat} {τ:List (List Value)} {μ μ':Mu} (I:RInv C ops pl tr pre P τ μ) {i:Nat} {o:Oper} (hp:pl[P]? =some (.ex i o)) (hi:i∉pre) (hm: ∀j,(yK ops i).testBit j=true ->j∈pre) {v:Value}
  (hv:(tr (P+1)).2.1.tmps=qz (tr P).2.1.tmps o.dst v) (he:bt o.op=true) (hn:(tr P).2.2.next<=(tr (P+1)).2.2.next) (hμ: ∀j,j<(tr P).2.2.next ->μ j=none ->μ' j=none):RInv C ops pl tr (i::pre) (P+1) (qz τ o.dst v) μ':=by
 have hpl:=(List.getElem?_eq_some_iff.1 hp).1
 refine⟨by omega,I.closed.cons hm,fun q j o' hq heq=> ?_,I.rt.step PO.h0 PO.hps PO.htr I.closed hp hi hv,?_,?_⟩
 ·rw[List.mem_cons]
  constructor
  ·intro h
   rcases Nat.lt_or_ge q P with h'|h'
   ·exact .inr ((I.effs q j o' hq heq).1 h')
   ·have:q=P:=by omega
    subst this
    rw[hp]at hq;simp at hq
    exact .inl hq.1.symm
  ·rintro(rfl|h)
   ·have:=oj PO.h0 PO.hps hp hq;omega
   ·have:=(I.effs q j o' hq heq).2 h;omega
 ·intro p q hpq hq
  rcases Nat.lt_or_ge q (P+1)with h|h
  ·exact I.mono p q hpq (by omega)
  ·have:q=P+1:=by omega
   subst this
   rcases Nat.lt_or_ge p (P+1)with h'|h'
   ·exact Nat.le_trans (I.mono p P (by omega) (Nat.le_refl _)) hn
   ·have:p=P+1:=by omega
    subst this;exact Nat.le_refl _
 ·intro p j o' x mk hpP D hj
  rw[List.mem_cons]at hj
  have hpP':p<P:=by
   rcases Nat.lt_or_ge p P with h|h
   ·exact h
   ·have:p=P:=by omega
    subst this
    have:=D.at'
    rw[hp]at this;simp at this
    have h2:=D.early
    rw[<-this.2,he]at h2;simp at h2
  refine hμ _ ?_ (I.pend p j o' x mk hpP' D fun h=>hj (.inr h))
  have h1:=PO.new_next D
  have h2:=I.mono (p+1) P (by omega) (Nat.le_refl _)
  omega
theorem RInv.holds {pre:List Nat} {P:Nat} {τ:List (List Value)} {μ:Mu} (I:RInv C ops pl tr pre P τ μ) (hF:rX pl P) {p i:Nat} {o:Oper} {e:EV} (D:Did C ops pl tr p i o e) (hi:i∉pre) (hlt:p<P):Us C (tr p) o.op (tr P).2.2 e:=by
 refine HA PO.h0 PO.hps PO.htr PO.own D P hlt I.lt (fun q j o' hq h1 h2 h3=> ?_) (by rw[PO.ends hF];simp)
 exact hi (I.closed j ((I.effs q j o' h1 h2).1 hq) i h3)
end
end Go.Am

namespace Go.Am
open Go
section
variable {C:Ctx} {gd:List Oper ->Bool} {w0:World} {self:Self} {rd:Option Nat} {ops:Array Oper} {pl:List PE} {tr:Nat ->IF} {ps:Nat ->CV}
 {μ0:Mu} {n0:Nat} {s0:FrS} {cs0:List Frame} {b:Frame} {k:List Item}
theorem Do (hOk:C.Ok gd w0) (hS:SelfOK C gd w0 self) (hgo: ∀o∈ops.toList,jI C o=true) (PO:PlanOK C self rd ops.toList pl tr ps) (hn0:n0=(tr 0).2.2.next) (hpos:0<n0) {pre L:List Nat} {i:Nat} {o:Oper} (ho:ops[i]? =some o) (hn:i∉pre)
  {p:Nat} (hp:pl[p]? =some (.ex i o)) (he: ∀o,ops[i]? =some o -> ∀e∈o.after.toList,Region.binds .any e=true ->e.on∈pre)
  {P:Nat} {τ:List (List Value)} {μ:Mu} {t:Array Value} {d:List Deferred} {cs:List Frame} {w:World} (hF:rX pl P) (I:RInv C ops.toList pl tr pre P τ μ)
  (A:Aft C gd w0 μ0 n0 s0 cs0 rd b ⟨τ,(tr P).2.1.defers,(tr P).2.1.pan⟩ (tr P).2.2 μ t d cs w):
  ∃P2 τ2 μ2 t2 d2 cs2 w2,rX pl P2/\ RInv C ops.toList pl tr (i::pre) P2 τ2 μ2/\ Aft C gd w0 μ0 n0 s0 cs0 rd b ⟨τ2,(tr P2).2.1.defers,(tr P2).2.1.pan⟩ (tr P2).2.2 μ2 t2 d2 cs2 w2/\
   Steps C.P (lone (bW b t d (.inRegion ops (i::L)::k)) cs w) (lone (bW b t2 d2 (.inRegion ops L::k)) cs2 w2):=by
 have ho':ops.toList[i]? =some o:=by rw[Array.getElem?_toList];exact ho
 have hpl:=(List.getElem?_eq_some_iff.1 hp).1
 have hm: ∀j,(yK ops.toList i).testBit j=true ->j∈pre:=K7 I.closed ho' (fun e h1 h2=>he o ho e h1 h2)
 obtain⟨hev,hwa⟩:=I.rt.evs PO.h0 PO.hps I.closed hp hn hm
 have hwt:bO ops.toList o τ=Region.wanted o (yielded ops t):=sC A.st.T ops o
 have hgoo:=hgo o (List.mem_of_getElem? ho')
 have fin: ∀{P1:Nat} {τ1:List (List Value)} {μ1:Mu} {t1:Array Value} {d1:List Deferred} {cs1:List Frame} {w1:World},RInv C ops.toList pl tr (i::pre) P1 τ1 μ1 ->
   Aft C gd w0 μ0 n0 s0 cs0 rd b ⟨τ1,(tr P1).2.1.defers,(tr P1).2.1.pan⟩ (tr P1).2.2 μ1 t1 d1 cs1 w1 ->
   Steps C.P (lone (bW b t d (.inRegion ops (i::L)::k)) cs w) (lone (bW b t1 d1 (.inRegion ops L::k)) cs1 w1) ->
   ∃P2 τ2 μ2 t2 d2 cs2 w2,rX pl P2/\ RInv C ops.toList pl tr (i::pre) P2 τ2 μ2/\ Aft C gd w0 μ0 n0 s0 cs0 rd b ⟨τ2,(tr P2).2.1.defers,(tr P2).2.1.pan⟩ (tr P2).2.2 μ2 t2 d2 cs2 w2/\
    Steps C.P (lone (bW b t d (.inRegion ops (i::L)::k)) cs w) (lone (bW b t2 d2 (.inRegion ops L::k)) cs2 w2):=by
  intro P1 τ1 μ1 t1 d1 cs1 w1 I1 A1 hs
  obtain⟨P2,hF2,I2,A2⟩:=Fi PO (pl.length -P1) P1 (Nat.le_refl _) I1 A1
  exact⟨P2,_,_,_,_,_,_,hF2,I2,A2,hs⟩
 have pend_keep: ∀p' i' o' x mk,p'<P ->Did C ops.toList pl tr p' i' o' (.new x mk) ->i'∉i::pre ->μ (tr p').2.2.next=none:=fun p' i' o' x mk h1 h2 h3=>I.pend p' i' o' x mk h1 h2 (fun h=>h3 (List.mem_cons_of_mem _ h))
 have hstep:=PO.htr p _ hp
 have putAft: ∀{μ':Mu} {w':World} {v V:Value},μ.le μ' ->Fresh n0 μ μ' ->HRel (goodP C gd) w0 μ' (tr P).2.2 w' ->VRel μ' v V ->
   Aft C gd w0 μ0 n0 s0 cs0 rd b ⟨qz τ o.dst v,(tr P).2.1.defers,(tr P).2.1.pan⟩ (tr P).2.2 μ' (putT t o.dst V) d cs w':=by
  intro μ' w' v V hle hfr H' hv
  have S:=A.st.put hle H' o.dst hv
  rw[uf]at S
  exact⟨A.le.trans hle,Fresh.trans (Nat.le_refl _) A.fresh hfr,A.nx,S,A.pan⟩
 cases hw:Region.wanted o (yielded ops t)with
 |false=>
  rw[hw,hwa]at hwt
  have hb:(tr (p+1))=((tr p).1,(tr p).2.1.put o.dst undef,(tr p).2.2):=by
   rcases hstep with⟨_,h1⟩|⟨h1,_⟩|⟨h1,_⟩
   ·exact h1
   ·rw[hwt]at h1;simp at h1
   ·rw[hwt]at h1;simp at h1
  have hv:(tr (p+1)).2.1.tmps=qz (tr p).2.1.tmps o.dst undef:=by rw[hb];simp[sM]
  have A1:=putAft (fun _ _ a=>a) (Fresh.refl _ _) A.st.H (sD μ)
  have hs:Steps C.P (lone (bW b t d (.inRegion ops (i::L)::k)) cs w) (lone (bW b (putT t o.dst undef) d (.inRegion ops L::k)) cs w):= .one (Da ho hw)
  cases heff:bt o.op with
  |false=>exact fin (I.early PO hp heff hn hm hv pend_keep) A1 hs
  |true=>
   have hpP:=I.eff_eq PO hF hp heff hn hm
   subst hpP
   refine fin (P1:=p+1) (I.eff PO hp hn hm hv heff (by rw[hb];exact Nat.le_refl _) (fun _ _ h=>h)) ?_ hs
   have e1:(tr (p+1)).2.1.defers=(tr p).2.1.defers:=by rw[hb];exact oZ _ _ _
   have e2:(tr (p+1)).2.1.pan=(tr p).2.1.pan:=by rw[hb];exact sL _ _ _
   have e3:(tr (p+1)).2.2=(tr p).2.2:=by rw[hb]
   rw[e1,e2,e3]
   exact A1
 |true=>
  rw[hw,hwa]at hwt
  rcases hstep with⟨h1,_⟩|⟨_,heff,_,hE⟩|⟨_,heff,e,he1,he2,he3⟩
  ·rw[hwt]at h1;simp at h1
  ·--an effect
   have hpP:=I.eff_eq PO hF hp heff hn hm
   subst hpP
   obtain⟨v,D,q,hq1,hq2⟩:=DU (τ:=(tr p).2.1.tmps) (τ':=τ) (D:=(tr p).2.1.defers) (p:=(tr p).2.1.pan) (dst:=o.dst) (fun x hx=>(hev x hx).symm) _ _ hE
   have hA:=ER (k:=k) (rest:=L) hOk hS A.st ho hw hgoo hq2
   obtain⟨μ',w',t',d',cs',A',hs⟩:=hA
   have e1:(tr (p+1)).2.1.defers=D:=by rw[hq1]
   have e2:(tr (p+1)).2.1.pan=q:=by rw[hq1]
   refine fin (P1:=p+1) (μ1:=μ') (I.eff PO hp hn hm (by rw[hq1]) heff A'.nx ?_) ?_ hs
   ·intro j hj hjn
    cases hx:μ' j with
    |none=>rfl
    |some y=>
     rcases A'.fresh j y hx with h|h
     ·rw[hjn]at h;simp at h
     ·omega
   ·rw[e1,e2]
    exact A.trans A'
  ·--an early operation
   have hlt:=I.early_lt PO hF hp heff hm
   have Dd:Did C ops.toList pl tr p i o e:=⟨hp,heff,hwt,he1⟩
   have hh:=I.holds PO hF Dd hn hlt
   have hρ: ∀x∈o.op.operands.toList,VRel μ (ev (tr p).2.1.tmps x) ((bW b t d (.inRegion ops (i::L)::k)).eval x):=fun x hx=>by
    rw[<-hev x hx]
    exact B8 A.st.G A.st.T (List.all_eq_true.1 hgoo x hx)
   have hd: ∀c,o.op≠ .defer c:=by intro c e';rw[e']at he1;simp[aJ]at he1
   cases e with
   |val v=>
    have hh:aJ C (ev (tr p).2.1.tmps) (tr P).2.2 o.op=some (.val v):=hh
    obtain⟨V,w',hrun,hq,hv⟩:=yf hOk.ok0 A.st.H hρ hh
    simp[mn]at he2
    refine fin (I.early PO hp heff hn hm (v:=v) (by rw[<-he2.1];simp[sM]) pend_keep) (putAft (fun _ _ a=>a) (Fresh.refl _ _) (A.st.H.quiet hq) hv) (.one (Ay ho hw (.inr hd) hrun))
   |new x mk=>
    have hget:(tr P).2.2.get (tr p).2.2.next=some x:=hh
    obtain⟨V,w',O,lim,esz,hrun,hg,hx⟩:=yf hOk.ok0 A.st.H hρ (Nn he1:aJ C (ev (tr p).2.1.tmps) (tr P).2.2 o.op=some (.new x mk))
    have hid:μ (tr p).2.2.next=none:=I.pend p i o x mk hlt Dd hn
    have hmono0:=I.mono 0 p (by omega) (by omega)
    have hnn:=PO.new_next Dd
    have hmono1:=I.mono (p+1) P (by omega) (Nat.le_refl _)
    obtain⟨h1,h2⟩:=hx (tr p).2.2.next hid (by omega)
    obtain⟨_,he2⟩:=aq he2
    simp at he2
    refine fin (I.early PO hp heff hn hm (v:=mk (tr p).2.2.next) (by rw[<-he2.1];simp[sM]) ?_) (putAft (Mu.le_upd _ hid) (Fresh.upd _ _ (by omega)) (A.st.H.grew lim esz hid (by omega) (by omega) hget hg h1) h2) (.one (Ay ho hw (.inr hd) hrun))
    intro p' i' o' x' mk' hp' D' hi'
    have hne:(tr p').2.2.next≠(tr p).2.2.next:=by
     have hpp:p'≠p:=by
      rintro rfl
      have:=D'.at'
      rw[hp]at this;simp at this
      exact hi' (by rw[this.1];exact List.mem_cons_self)
     rcases Nat.lt_or_ge p' p with h|h
     ·have a1:=PO.new_next D'
      have a2:=I.mono (p'+1) p (by omega) (by omega)
      omega
     ·have a2:=I.mono (p+1) p' (by omega) (by omega)
      omega
    rw[Mu.upd_ne _ _ hne]
    exact pend_keep p' i' o' x' mk' hp' D' hi'
theorem QQ {pre:List Nat} {i:Nat} {o:Oper} (hc:Closed ops.toList pre) (ho:ops[i]? =some o) (he: ∀o,ops[i]? =some o -> ∀e∈o.after.toList,Region.binds .any e=true ->e.on∈pre): ∀j,(yK ops.toList i).testBit j=true ->j∈pre:=
 K7 hc (by rw[Array.getElem?_toList];exact ho) (fun e h1 h2=>he o ho e h1 h2)
theorem NK (hOk:C.Ok gd w0) (hS:SelfOK C gd w0 self) (hgo: ∀o∈ops.toList,jI C o=true) (PO:PlanOK C self rd ops.toList pl tr ps) (all: ∀i o,ops.toList[i]? =some o -> ∃p:Nat,pl[p]? =some (PE.ex i o)) (hn0:n0=(tr 0).2.2.next) (hpos:0<n0) {pre L:List Nat} (hO:Order ops pre L):
  ∀{P:Nat} {τ:List (List Value)} {μ:Mu} {t:Array Value} {d:List Deferred} {cs:List Frame} {w:World},rX pl P ->RInv C ops.toList pl tr pre P τ μ ->
   Aft C gd w0 μ0 n0 s0 cs0 rd b ⟨τ,(tr P).2.1.defers,(tr P).2.1.pan⟩ (tr P).2.2 μ t d cs w ->
   ∃μ' w' t' d' cs',Aft C gd w0 μ0 n0 s0 cs0 rd b (tr pl.length).2.1 (tr pl.length).2.2 μ' t' d' cs' w'/\ Steps C.P (lone (bW b t d (.inRegion ops L::k)) cs w) (lone (bW b t' d' k) cs' w'):=by
 induction hO with
 |done pre h=>
  intro P τ μ t d cs w hF I A
  have hP:P=pl.length:=by
   rcases hF with e|⟨i,o,h1,h2⟩
   ·exact e
   ·have hi:=(List.getElem?_eq_some_iff.1 (PO.own_at h1)).1
    have:=(I.effs P i o h1 h2).2 (h i (by simpa using hi))
    omega
  subst hP
  refine⟨μ,w,t,d,cs,⟨A.le,A.fresh,A.nx,⟨A.st.H,?_,A.st.D,A.st.R,A.st.N,A.st.G⟩,A.pan⟩, .one u2⟩
  refine A.st.T.of_same (fun u=>I.rt.1 u pl.length (Nat.le_refl _) fun p i o h1 h2=> ?_) (fun u=>(I.rt.2 u).trans (zq PO.htr (Nat.le_refl _)).symm)
  have hp:=(List.getElem?_eq_some_iff.1 h1).1
  have hi:=(List.getElem?_eq_some_iff.1 (PO.own_at h1)).1
  exact⟨fun _=>h i (by simpa using hi),fun _=>hp⟩
 |next pre i L hi hn he hO ih=>
  intro P τ μ t d cs w hF I A
  have ho:ops[i]? =some ops[i]:=Array.getElem?_eq_getElem hi
  obtain⟨p,hp⟩:=all i _ (by rw[Array.getElem?_toList];exact ho)
  obtain⟨P2,τ2,μ2,t2,d2,cs2,w2,hF2,I2,A2,hs⟩:=Do (k:=k) (L:=L) hOk hS hgo PO hn0 hpos ho hn hp he hF I A
  obtain⟨μ',w',t',d',cs',A',hs'⟩:=ih hF2 I2 A2
  exact⟨μ',w',t',d',cs',A',hs.trans hs'⟩
theorem NJ (hOk:C.Ok gd w0) (hS:SelfOK C gd w0 self) (hgo: ∀o∈ops.toList,jI C o=true) {plF:List PE} {psF:Nat ->CV} {N ip:Nat} {op:Oper} {v:Value} {hv:Heap} (PO:PlanOK C self rd ops.toList (plF.take N) tr ps)
  (h0F:psF 0=(0,[],[])) (hpsF: ∀p e,plF[p]? =some e ->PassAt ops.toList e (psF p) (psF (p+1))) (ownF: ∀x∈plF,(∀i o,x= .ex i o ->ops.toList[i]? =some o)/\ ∀i o,x= .re i o ->ops.toList[i]? =some o)
  (all: ∀i o,ops.toList[i]? =some o -> ∃p:Nat,plF[p]? =some (PE.ex i o))
  (hN:plF[N]? =some (.ex ip op)) (heff:bt op.op=true) (hwant:bO ops.toList op (tr N).2.1.tmps=true) (hE:c9 C self rd op.dst (tr N).2.1 (tr N).2.2 op.op=some (.panic v (tr N).2.1 hv)) (hbare:(tr N).2.1.defers=[])
  (hn0:n0=(tr 0).2.2.next) (hpos:0<n0) {pre L:List Nat} (hO:Order ops pre L):
  ∀{P:Nat} {τ:List (List Value)} {μ:Mu} {t:Array Value} {d:List Deferred} {cs:List Frame} {w:World},ip∉pre ->rX (plF.take N) P ->RInv C ops.toList (plF.take N) tr pre P τ μ ->
   Aft C gd w0 μ0 n0 s0 cs0 rd b ⟨τ,(tr P).2.1.defers,(tr P).2.1.pan⟩ (tr P).2.2 μ t d cs w ->
   OAt C gd w0 μ0 n0 s0 cs0 rd b (lone (bW b t d (.inRegion ops L::k)) cs w) k (.panic v (tr N).2.1 hv):=by
 have hNl:=(List.getElem?_eq_some_iff.1 hN).1
 have hlen:(plF.take N).length=N:=by simp;omega
 have hip:ops[ip]? =some op:=by have:=(ownF _ (List.mem_of_getElem? hN)).1 ip op rfl;rwa [Array.getElem?_toList]at this
 induction hO with
 |done pre h=>
  intro P τ μ t d cs w hnp _ _ _
  exact absurd (h ip (Array.getElem?_eq_some_iff.1 hip).1) hnp
 |next pre i L hi hn he hO ih=>
  intro P τ μ t d cs w hnp hF I A
  have ho:ops[i]? =some ops[i]:=Array.getElem?_eq_getElem hi
  have hm:=QQ I.closed ho he
  obtain⟨p,hp⟩:=all i _ (by rw[Array.getElem?_toList];exact ho)
  rcases Nat.lt_trichotomy p N with hlt|heq|hgt
  ·have hp':(plF.take N)[p]? =some (.ex i ops[i]):=by rw[List.getElem?_take_of_lt hlt];exact hp
   obtain⟨P2,τ2,μ2,t2,d2,cs2,w2,hF2,I2,A2,hs⟩:=Do (k:=k) (L:=L) hOk hS hgo PO hn0 hpos ho hn hp' he hF I A
   have hne:ip∉i::pre:=by
    intro h
    rcases List.mem_cons.1 h with h|h
    ·have:=oj h0F hpsF hp (h▸hN);omega
    ·exact hnp h
   have:=ih hne hF2 I2 A2
   obtain⟨s2,μ',w',t',d',cs',nr,A',E⟩:=this
   exact⟨s2,μ',w',t',d',cs',nr,A',E.of_steps hs⟩
  ·subst heq
   rw[hN]at hp
   have hpe:ip=i/\ op=ops[i]:=by simpa using hp
   obtain⟨rfl,hoe⟩:=hpe
   have hPN:P=p:=by
    rcases hF with e|⟨j,o',h1,h2⟩
    ·rw[hlen]at e;exact e
    ·have hPlt:P<p:=by have:=(List.getElem?_eq_some_iff.1 h1).1;omega
     have h1':=h1
     rw[List.getElem?_take_of_lt hPlt]at h1'
     have:=(I.effs P j o' h1 h2).2 (hm j (rK h0F hpsF hN h1' hPlt (.inl h2)))
     omega
   subst hPN
   obtain⟨hev,hwa⟩:=YZ (ops:=ops.toList) (o:=op) (τ:=τ) (τ':=(tr P).2.1.tmps) fun u hu=>I.rt.readN h0F hpsF hN hm hu
   have hwt:bO ops.toList op τ=Region.wanted op (yielded ops t):=sC A.st.T ops op
   rw[hwa,hwant]at hwt
   obtain⟨es,er⟩:=DR (C:=C) (self:=self) (rd:=rd) (τ:=(tr P).2.1.tmps) (τ':=τ) (D:=(tr P).2.1.defers) (p:=(tr P).2.1.pan) (dst:=op.dst) (h:=(tr P).2.2) (op:=op.op) (fun x hx=>(hev x hx).symm) _ _ _ hE
   have hgoo:=hgo op (List.mem_of_getElem? (by rw[Array.getElem?_toList];exact hip))
   have hA:=ER (k:=k) (rest:=L) hOk hS A.st hip hwt.symm hgoo er
   obtain⟨s2,μ',w',t',d',cs',nr,A',E⟩:=hA
   refine⟨s2,μ',w',t',d',cs',?_,A.trans A',E⟩
   rcases nr with e|⟨v',e,e1,e2,e3⟩
   ·exact .inr ⟨v,rfl,hbare,by rw[e];exact hbare,by rw[e]⟩
   ·exact .inr ⟨v,rfl,hbare,e2,e3⟩
  ·exact absurd (hm ip (rK h0F hpsF hp hN hgt (.inl heff))) hnp
end
theorem J3 {C:Ctx} {w0:World} {self:Self} (hOk:C.Ok iw w0) (hS:SelfOK C iw w0 self):Kz C iw w0 self:=by
 intro ops rd s h r hr hgd hgo μ w b cs t d k x S
 obtain⟨h1,h2⟩:=(Bool.and_eq_true _ _).mp hgd
 obtain⟨tr,N,t0,htr,hend⟩:=AZ _ hr
 obtain⟨ps,p0,hps,pe,pa⟩:=A0 _ h2
 have hall: ∀i o,ops.toList[i]? =some o -> ∃p:Nat,(i7 ops.toList)[p]? =some (PE.ex i o):=fun i o h=>Ya p0 hps vk pa h
 have inv: ∀pl:List PE,(∀p e,pl[p]? =some e ->rW C self rd ops.toList (tr p) (tr (p+1)) e) ->RInv C ops.toList pl tr [] 0 (tr 0).2.1.tmps μ:=by
  intro pl htr
  refine⟨Nat.zero_le _,fun i hi=>by simp at hi,fun q i o _ _=>⟨fun h=>by omega,fun h=>by simp at h⟩,RT.init htr,fun p q hpq hq=> ?_,fun p i o x mk hp=>by omega⟩
  have h1:p=0:=by omega
  have h2:q=0:=by omega
  rw[h1,h2];exact Nat.le_refl _
 have A:Aft C iw w0 μ h.next s cs rd b ⟨(tr 0).2.1.tmps,(tr 0).2.1.defers,(tr 0).2.1.pan⟩ (tr 0).2.2 μ t d cs w:=by
  rw[t0];exact Aft.refl S
 rcases hend with⟨rfl,rfl⟩|⟨ip,op,v,hv,e1,e2,e3,e4,e5,rfl⟩
 ·have htr': ∀p e,(i7 ops.toList)[p]? =some e ->rW C self rd ops.toList (tr p) (tr (p+1)) e:=fun p e h=>htr p e (List.getElem?_eq_some_iff.1 h).1 h
  have PO:PlanOK C self rd ops.toList (i7 ops.toList) tr ps:=⟨p0,hps,htr',vk,pe⟩
  obtain⟨P,hF,I',A'⟩:=Fi PO _ 0 (Nat.le_refl _) (inv _ htr') A
  exact NK hOk hS hgo PO hall (by rw[t0]) S.H.pos (qO h1 _ x) hF I' A'
 ·have hNl:=(List.getElem?_eq_some_iff.1 e1).1
  have hlt: ∀{p:Nat} {e:PE},((i7 ops.toList).take N)[p]? =some e ->p<N/\ (i7 ops.toList)[p]? =some e:=fun {p e} h=>by
   have hp:p<N:=by have:=(List.getElem?_eq_some_iff.1 h).1;simp at this;omega
   rw[List.getElem?_take_of_lt hp]at h
   exact⟨hp,h⟩
  have htr': ∀p e,((i7 ops.toList).take N)[p]? =some e ->rW C self rd ops.toList (tr p) (tr (p+1)) e:=fun p e h=>htr p e (hlt h).1 (hlt h).2
  have hlen:((i7 ops.toList).take N).length=N:=by simp;omega
  have PO:PlanOK C self rd ops.toList ((i7 ops.toList).take N) tr ps:=⟨p0,fun p e h=>hps p e (hlt h).2,htr',fun x hx=>vk x (List.mem_of_mem_take hx),by
   rw[hlen];exact((hps N _ e1).ex ip op rfl).1⟩
  obtain⟨P,hF,I',A'⟩:=Fi PO _ 0 (Nat.le_refl _) (inv _ htr') A
  exact NJ hOk hS hgo PO p0 hps vk hall e1 e2 e3 e4 e5 (by rw[t0]) S.H.pos (qO h1 _ x) (by simp) hF I' A'
theorem Qk {C:Ctx} {w0:World} (hOk:C.Ok iw w0) (n:Nat):SelfOK C iw w0 (run C n):=wW hOk (fun _=>J3 hOk) n
end Go.Am
