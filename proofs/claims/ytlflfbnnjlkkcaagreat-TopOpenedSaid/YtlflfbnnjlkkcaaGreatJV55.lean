/- Parts V55, V56, V57, V58, V59 of the abstract machine over this program, joined: what each part says stands at its head. -/
import Derived.Test.YtlflfbnnjlkkcaaGreatJV53
import Derived.Test.YtlflfbnnjlkkcaaGreatJV120
set_option linter.unusedSimpArgs false
set_option linter.unusedVariables false
set_option linter.defProp false
open Nat renaming reduceLT→Q1,reduceEqDiff→Q2,reduceAdd→Q3,reduceMul→Q4,reduceLeDiff→Q5
open Int renaming reduceNe→Q6,reduceEq→Q7
namespace Go.Am
open Go Go.Proofs
set_option maxRecDepth 10000 in
theorem Jc {h:Heap} (hk:HOK h) {cs:List Value}:
  CW CC 115 [.agg ⟨cs⟩] h fun r h'=>r= .func (.func 220) ⟨[]⟩ ⟨[.pointer (some ⟨h.next,0,none⟩)]⟩/\ Fr h h'/\ rowAt h' h.next=some cs:=by
 refine aw Tryz.f115 (by kernel_rfl) (by kernel_rfl) rfl rfl ?_
 simp only[Tryz.f115]
 simp(maxDischargeDepth:=30)only[AA,↓reduceIte,Q1,Q2,Q3,Q4,reduceCtorEq,Q5,Q6,Q7,fT,hk]
 exact⟨trivial,(Fr.refl hk).alloc _,trivial⟩
set_option maxRecDepth 10000 in
set_option maxHeartbeats 2000000 in
theorem G0 {s:CoatS} (ho:s.ok=true) (hw:s.work.length<=1000) {h0:Heap} (hk0:HOK h0) {cs:List Value} (hv:IsShop h0 (.agg ⟨cs⟩) s) {pS:Nat} (rS:rowAt h0 pS=some cs):
  Ux gZ IE 220 [.pointer (some ⟨pS,0,none⟩)] s.plans h0:=by
 intro J S l F h1 M f01 hp E hM hJ
 have hk:=f01.ok
 refine aw Tryz.f220 (by kernel_rfl) (by kernel_rfl) rfl rfl ?_
 simp only[Tryz.f220]
 simp(maxDischargeDepth:=30)only[AA,↓reduceIte,Q1,Q2,Q3,Q4,reduceCtorEq,Q5,Q6,Q7,cG,QZ,bJ,aV,ba,AI,KV,bm,kE,bh,zZ,KC,hk,List.set_cons_zero,ff]
 have fH:Fr h1 (((((((h1.alloc (.row [.func (.yield l) ⟨[]⟩ ⟨[]⟩] 0 true)).alloc (.map [] 0)).alloc (.row [.map none] 0 true)).set (h1.next+1+1) (.row [.map (some (h1.next+1))] 0 true)).alloc (.row [.slice none 0 0] 0 true)).alloc (.row [.nilFunc] 0 true)).set (h1.next+1+1+1+1) (.row [.func (.func 221) ⟨[]⟩ ⟨[.pointer (some ⟨h1.next+1+1+1,0,none⟩), .pointer (some ⟨pS,0,none⟩), .pointer (some ⟨h1.next,0,none⟩), .pointer (some ⟨h1.next+1+1,0,none⟩), .pointer (some ⟨h1.next+1+1+1+1,0,none⟩)]⟩] 0 true)):=(((((((Fr.refl hk).alloc _).alloc _).alloc _).set (by omega) (by simp) _).alloc _).alloc _).set (by omega) (by simp) _
 have gY:(((((((h1.alloc (.row [.func (.yield l) ⟨[]⟩ ⟨[]⟩] 0 true)).alloc (.map [] 0)).alloc (.row [.map none] 0 true)).set (h1.next+1+1) (.row [.map (some (h1.next+1))] 0 true)).alloc (.row [.slice none 0 0] 0 true)).alloc (.row [.nilFunc] 0 true)).set (h1.next+1+1+1+1) (.row [.func (.func 221) ⟨[]⟩ ⟨[.pointer (some ⟨h1.next+1+1+1,0,none⟩), .pointer (some ⟨pS,0,none⟩), .pointer (some ⟨h1.next,0,none⟩), .pointer (some ⟨h1.next+1+1,0,none⟩), .pointer (some ⟨h1.next+1+1+1+1,0,none⟩)]⟩] 0 true)).get h1.next=some (.row [.func (.yield l) ⟨[]⟩ ⟨[]⟩] 0 true):=by
  rw[dD _ (by omega),cP _ (by first|(simp;done)|(simp;omega)),cP _ (by first|(simp;done)|(simp;omega)),dD _ (by omega),cP _ (by first|(simp;done)|(simp;omega)),cP _ (by first|(simp;done)|(simp;omega))];exact dr _ rfl
 have gm:(((((((h1.alloc (.row [.func (.yield l) ⟨[]⟩ ⟨[]⟩] 0 true)).alloc (.map [] 0)).alloc (.row [.map none] 0 true)).set (h1.next+1+1) (.row [.map (some (h1.next+1))] 0 true)).alloc (.row [.slice none 0 0] 0 true)).alloc (.row [.nilFunc] 0 true)).set (h1.next+1+1+1+1) (.row [.func (.func 221) ⟨[]⟩ ⟨[.pointer (some ⟨h1.next+1+1+1,0,none⟩), .pointer (some ⟨pS,0,none⟩), .pointer (some ⟨h1.next,0,none⟩), .pointer (some ⟨h1.next+1+1,0,none⟩), .pointer (some ⟨h1.next+1+1+1+1,0,none⟩)]⟩] 0 true)).get (h1.next+1)=some (.map [] 0):=by
  rw[dD _ (by omega),cP _ (by first|(simp;done)|(simp;omega)),cP _ (by first|(simp;done)|(simp;omega)),dD _ (by omega),cP _ (by first|(simp;done)|(simp;omega))];exact dr _ (by simp)
 have gM:(((((((h1.alloc (.row [.func (.yield l) ⟨[]⟩ ⟨[]⟩] 0 true)).alloc (.map [] 0)).alloc (.row [.map none] 0 true)).set (h1.next+1+1) (.row [.map (some (h1.next+1))] 0 true)).alloc (.row [.slice none 0 0] 0 true)).alloc (.row [.nilFunc] 0 true)).set (h1.next+1+1+1+1) (.row [.func (.func 221) ⟨[]⟩ ⟨[.pointer (some ⟨h1.next+1+1+1,0,none⟩), .pointer (some ⟨pS,0,none⟩), .pointer (some ⟨h1.next,0,none⟩), .pointer (some ⟨h1.next+1+1,0,none⟩), .pointer (some ⟨h1.next+1+1+1+1,0,none⟩)]⟩] 0 true)).get (h1.next+1+1)=some (.row [.map (some (h1.next+1))] 0 true):=by
  rw[dD _ (by omega),cP _ (by first|(simp;done)|(simp;omega)),cP _ (by first|(simp;done)|(simp;omega))];exact am _ _ _
 have gN:(((((((h1.alloc (.row [.func (.yield l) ⟨[]⟩ ⟨[]⟩] 0 true)).alloc (.map [] 0)).alloc (.row [.map none] 0 true)).set (h1.next+1+1) (.row [.map (some (h1.next+1))] 0 true)).alloc (.row [.slice none 0 0] 0 true)).alloc (.row [.nilFunc] 0 true)).set (h1.next+1+1+1+1) (.row [.func (.func 221) ⟨[]⟩ ⟨[.pointer (some ⟨h1.next+1+1+1,0,none⟩), .pointer (some ⟨pS,0,none⟩), .pointer (some ⟨h1.next,0,none⟩), .pointer (some ⟨h1.next+1+1,0,none⟩), .pointer (some ⟨h1.next+1+1+1+1,0,none⟩)]⟩] 0 true)).get (h1.next+1+1+1)=some (.row [.slice none 0 0] 0 true):=by
  rw[dD _ (by omega),cP _ (by first|(simp;done)|(simp;omega))];exact dr _ (by simp)
 have gF:(((((((h1.alloc (.row [.func (.yield l) ⟨[]⟩ ⟨[]⟩] 0 true)).alloc (.map [] 0)).alloc (.row [.map none] 0 true)).set (h1.next+1+1) (.row [.map (some (h1.next+1))] 0 true)).alloc (.row [.slice none 0 0] 0 true)).alloc (.row [.nilFunc] 0 true)).set (h1.next+1+1+1+1) (.row [.func (.func 221) ⟨[]⟩ ⟨[.pointer (some ⟨h1.next+1+1+1,0,none⟩), .pointer (some ⟨pS,0,none⟩), .pointer (some ⟨h1.next,0,none⟩), .pointer (some ⟨h1.next+1+1,0,none⟩), .pointer (some ⟨h1.next+1+1+1+1,0,none⟩)]⟩] 0 true)).get (h1.next+1+1+1+1)=some (.row [.func (.func 221) ⟨[]⟩ ⟨[.pointer (some ⟨h1.next+1+1+1,0,none⟩), .pointer (some ⟨pS,0,none⟩), .pointer (some ⟨h1.next,0,none⟩), .pointer (some ⟨h1.next+1+1,0,none⟩), .pointer (some ⟨h1.next+1+1+1+1,0,none⟩)]⟩] 0 true):=am _ _ _
 generalize(((((((h1.alloc (.row [.func (.yield l) ⟨[]⟩ ⟨[]⟩] 0 true)).alloc (.map [] 0)).alloc (.row [.map none] 0 true)).set (h1.next+1+1) (.row [.map (some (h1.next+1))] 0 true)).alloc (.row [.slice none 0 0] 0 true)).alloc (.row [.nilFunc] 0 true)).set (h1.next+1+1+1+1) (.row [.func (.func 221) ⟨[]⟩ ⟨[.pointer (some ⟨h1.next+1+1+1,0,none⟩), .pointer (some ⟨pS,0,none⟩), .pointer (some ⟨h1.next,0,none⟩), .pointer (some ⟨h1.next+1+1,0,none⟩), .pointer (some ⟨h1.next+1+1+1+1,0,none⟩)]⟩] 0 true))=H at fH gY gm gM gN gF⊢
 have lF:=fun i hi=>(E.low F [] h1 hJ i hi)
 have q:GSt eh s.goesV ⟨J,F,h1,h1.next+1+1+1,h1.next+1,h1.next,h1.next+1+1,h1.next+1+1+1+1, .func (.yield l) ⟨[]⟩ ⟨[]⟩, .func (.func 221) ⟨[]⟩ ⟨[.pointer (some ⟨h1.next+1+1+1,0,none⟩), .pointer (some ⟨pS,0,none⟩), .pointer (some ⟨h1.next,0,none⟩), .pointer (some ⟨h1.next+1+1,0,none⟩), .pointer (some ⟨h1.next+1+1+1+1,0,none⟩)]⟩⟩ F [] [] H:=
  ⟨fH.gr,Nat.lt_of_lt_of_le hp fH.next,E.stay _ _ _ _ hJ fH.ok fH.next fun i hi=>fH.get i (lF i hi).2,fun i hi=> .inl hi,gY,gM,gF,⟨_,gN,PV.nil _ _,fun b hb=>by simp[ay]at hb⟩,⟨[],0,gm,MemoK.nil⟩,
   fun i hi=>⟨fun hf=>by have:=(lF i hf).2;simp at hi;omega,by simp at hi;show h1.next<=i;omega⟩⟩
 refine aC (GZ ho hw hk0 hv rS E f01 (fun i hi=>(lF i hi).1) ⟨by simp;omega,by simp,by simp⟩ rfl rfl s.coats.length q (by simp) (by simp) (by simpa[CoatS.plans]using hM)) ?_
 rintro R h2 ⟨base,le,_,hR⟩
 simp(maxDischargeDepth:=30)only[AA,↓reduceIte,Q1,Q2,Q3,Q4,reduceCtorEq,Q5,Q6,Q7,cG,QZ,bJ,aV,ba,AI,KV,bm,kE,bh,zZ,KC,base.ok,v7]
 refine⟨base,?_⟩
 rcases hR with⟨_,F',q',hs⟩|⟨_,l1,l2,el,hS⟩
 ·exact .inl ⟨F',by simpa[CoatS.plans]using q'.j,fun i hi=>(hs i hi).elim .inl fun h=> .inr (Nat.le_trans fH.next h)⟩
 ·exact .inr ⟨l1,l2,el,by simpa using hS⟩
end Go.Am

namespace Go.Am
open Go Go.Proofs
set_option maxRecDepth 10000 in
theorem E6 {h:Heap} (hk:HOK h) (hp:0<h.next) {g:FuncId} {caps:List Value} {L:List (List Int)} (hL:L.length<=1000000) (hf:Ux gZ IE g caps L h):
  CW CC 113 [.func (.func g) ⟨[]⟩ ⟨caps⟩] h fun r h'=>(∃us,SL h.next h' r us 1 us.length/\ LR (fun g u w=>gZ h.next g w u) h' us L)/\ Fr h h':=by
 refine aw Tryz.f113 (by kernel_rfl) (by kernel_rfl) rfl rfl ?_
 simp only[Tryz.f113]
 simp(maxDischargeDepth:=30)only[AA,↓reduceIte,Q1,Q2,Q3,Q4,reduceCtorEq,Q5,Q6,Q7,fT,hk]
 refine aC (Cq hk hp hL hf) ?_
 rintro r h2 ⟨hr,fr2⟩
 simp(maxDischargeDepth:=30)only[AA,↓reduceIte,Q1,Q2,Q3,Q4,reduceCtorEq,Q5,Q6,Q7,fT,fr2.ok]
 exact⟨hr,fr2⟩
theorem sY {α β:Type} (f:α ->List β) (n:Nat): ∀(l:List α),(∀x,x∈l ->(f x).length<=n) ->(l.flatMap f).length<=l.length*n
 |[],_=>by simp
 |x::l,h=>by
  have a:=h x List.mem_cons_self
  have b:=sY f n l fun y hy=>h y (List.mem_cons_of_mem _ hy)
  simp only[List.flatMap_cons,List.length_append,List.length_cons,Nat.succ_mul]
  omega
theorem CoatS.ext_le (s:CoatS) (hw:s.work.length<=14): ∀(d:Nat) (now:List Int),(s.ext d now).length<=14 ^ d
 |0,_=>Nat.le_refl _
 |d+1,now=>by
  have h:=sY (fun day:Int=>
   if(now.length≠0/\ day<=now.getD (now.length -1) 0) \/s.goesP now.length day.toNat=false then[]
   else if now.length≠0/\ s.standsB (now.length -1) (now.getD (now.length -1) 0).toNat day.toNat true≠none then[]
   else s.ext d (now++[day])) (14 ^ d) s.work (fun x _=>by
    have:=s.ext_le hw d (now++[x])
    show List.length (if _ then _ else if _ then _ else _)<=_
    split
    ·simp
    ·split
     ·simp
     ·exact this)
  have e:s.work.length*14 ^ d<=14*14 ^ d:=Nat.mul_le_mul_right _ hw
  rw[Nat.pow_succ,Nat.mul_comm (14 ^ d) 14]
  exact Nat.le_trans h e
end Go.Am

namespace Go.Am
open Go Go.Proofs
def zX:=A2 @tM<|A2 @cM<|A2 @lO<|A2 @kN<|A2 @aV<|A2 @kJ<|A2 @jh @kD
theorem CoatS.plans_le {s:CoatS} (ho:s.ok=true) (hw:s.work.length<=14):s.plans.length<=1000000:=by
 have h:=s.ext_le hw s.coats.length []
 have hl:=(CoatS.lens ho).2.2.2
 have:14 ^ s.coats.length<=14 ^ 5:=Nat.pow_le_pow_right (by omega) hl
 have e:(14:Nat) ^ 5=537824:=by decide
 unfold CoatS.plans
 omega
def CoatS.allP (s:CoatS) (none:Int):List (List Int)×Int:=if s.ok=false then([],2)else if s.plans=[]then([],none)else(s.plans,0)
theorem TX {h:Heap} (hk:HOK h) (hp:0<h.next) {a b c:Value} {s:CoatS} (hs:IsCoats h a b c s) (hw:s.work.length<=14) (e:Int):
  CW CC 40 [.agg ⟨[a,b,c]⟩, .int .i64 e] h fun r h'=>(∃v us,r= .tuple ⟨[v, .int .i64 (s.allP e).2]⟩/\ SL h.next h' v us 1 us.length/\ LR (fun g u w=>gZ h.next g w u) h' us (s.allP e).1)/\ Fr h h':=by
 refine aw Tryz.f40 (by kernel_rfl) (by kernel_rfl) rfl rfl ?_
 simp only[Tryz.f40]
 have f1:=aI [.row [a,b,c] 0 true] (Fr.refl hk)
 have r1:rowAt (h.ex [.row [a,b,c] 0 true]) h.next=some [a,b,c]:=aZ rfl
 simp(maxDischargeDepth:=30)only[AA,↓reduceIte,Q1,Q2,Q3,Q4,reduceCtorEq,Q5,Q6,Q7,XH,lO,ko,hk]
 refine aC (EA f1.ok (hs.fr hk f1) (by omega)) ?_
 rintro _ h2 ⟨rfl,f2⟩
 have f02:=f1.trans f2
 have r2:=f2.row' f1.ok r1
 cases ok:s.ok with
 |false=>
  have e1:s.allP e=([],2):=by unfold CoatS.allP;rw[if_pos ok]
  simp(maxDischargeDepth:=30)only[AA,↓reduceIte,Q1,Q2,Q3,Q4,reduceCtorEq,Q5,Q6,Q7,XH,lO,ko,f2.ok]
  rw[e1]
  exact⟨⟨_,[],rfl,SL.nil _ _ _,rfl,fun i u w hu=>by simp at hu⟩,f02⟩
 |true=>
  simp(maxDischargeDepth:=30)only[AA,↓reduceIte,Q1,Q2,Q3,Q4,reduceCtorEq,Q5,Q6,Q7,XH,lO,ko,f2.ok,r2]
  refine aC (MB f2.ok (by have:=f02.next;omega) (hs.fr hk f02) ok) ?_
  rintro _ h3 ⟨hsh,f3⟩
  obtain⟨a',b',c',l',g',rfl,_⟩:=id hsh
  have f03:=f02.trans f3
  simp(maxDischargeDepth:=30)only[AA,↓reduceIte,Q1,Q2,Q3,Q4,reduceCtorEq,Q5,Q6,Q7,XH,lO,ko,f3.ok]
  refine aC (Jc f3.ok) ?_
  rintro _ h4 ⟨rfl,f4,r4⟩
  have f04:=f03.trans f4
  simp(maxDischargeDepth:=30)only[AA,↓reduceIte,Q1,Q2,Q3,Q4,reduceCtorEq,Q5,Q6,Q7,XH,lO,ko,f4.ok]
  refine aC (E6 f4.ok (by have:=f04.next;omega) (CoatS.plans_le ok hw) (G0 ok (by omega) f4.ok (hsh.fr f3.ok f4) r4)) ?_
  rintro v h5 ⟨⟨us,q5,lr5⟩,f5⟩
  have f05:=f04.trans f5
  have n4:=f04.next
  have ul:=lr5.1
  have lr:LR (fun g u w=>gZ h.next g w u) h5 us s.plans:=lr5.map fun u w hi=>SL.low hi n4
  obtain⟨pv,cv,rfl⟩:=q5.value
  by_cases hn:s.plans=[]
  ·have e1:s.allP e=([],e):=by unfold CoatS.allP;rw[if_neg (by rw[ok];simp),if_pos hn]
   have u0:us.length=0:=by rw[ul,hn];rfl
   have z:((us.length:Int)==0)=true:=by rw[u0];rfl
   simp(maxDischargeDepth:=30)only[AA,↓reduceIte,Q1,Q2,Q3,Q4,reduceCtorEq,Q5,Q6,Q7,XH,lO,ko,f5.ok,z]
   rw[e1]
   exact⟨⟨_,[],rfl,SL.nil _ _ _,rfl,fun i u w hu=>by simp at hu⟩,f05⟩
  ·have e1:s.allP e=(s.plans,0):=by unfold CoatS.allP;rw[if_neg (by rw[ok];simp),if_neg hn]
   have z:((us.length:Int)==0)=false:=by
    have:us.length≠0:=by rw[ul];exact fun h=>hn (List.length_eq_zero_iff.1 h)
    rw[beq_eq_false_iff_ne];omega
   simp(maxDischargeDepth:=30)only[AA,↓reduceIte,Q1,Q2,Q3,Q4,reduceCtorEq,Q5,Q6,Q7,XH,lO,ko,f5.ok,z]
   rw[e1]
   exact⟨⟨_,us,rfl,q5.low n4,lr⟩,f05⟩
def CoatS.firstP (s:CoatS):List Int×Int:=if s.ok=false then([],2)else if s.plans=[]then([],5)else(s.plans.getD 0 [],0)
theorem uC {h:Heap} (hk:HOK h) (hp:0<h.next) {a b c:Value} {s:CoatS} (hs:IsCoats h a b c s) (hw:s.work.length<=14):
  CW CC 10 [.agg ⟨[a,b,c]⟩] h fun r h'=>(∃v,r= .tuple ⟨[v, .int .i64 s.firstP.2]⟩/\ SL h.next h' v (s.firstP.1.flatMap aQ) 1 s.firstP.1.length)/\ Fr h h':=by
 refine aw Tryz.f10 (by kernel_rfl) (by kernel_rfl) rfl rfl ?_
 simp only[Tryz.f10]
 have f1:=aI [.row [a,b,c] 0 true] (Fr.refl hk)
 simp(maxDischargeDepth:=30)only[AA,↓reduceIte,Q1,Q2,Q3,Q4,reduceCtorEq,Q5,Q6,Q7,XH,zX,hk]
 refine aC (TX f1.ok (by have:=f1.next;omega) (hs.fr hk f1) hw 5) ?_
 rintro _ h2 ⟨⟨v,us,rfl,q,lr⟩,f2⟩
 have f02:=f1.trans f2
 have n1:=f1.next
 by_cases he:s.ok=false
 ·have e1:s.allP 5=([],2):=by unfold CoatS.allP;rw[if_pos he]
  have e2:s.firstP=([],2):=by unfold CoatS.firstP;rw[if_pos he]
  rw[e1,e2]
  simp(maxDischargeDepth:=30)only[AA,↓reduceIte,Q1,Q2,Q3,Q4,reduceCtorEq,Q5,Q6,Q7,XH,zX,f2.ok,show((2:Int) !=0)=true from rfl]
  exact⟨⟨_,rfl,SL.nil _ _ _⟩,f02⟩
 ·by_cases hn:s.plans=[]
  ·have e1:s.allP 5=([],5):=by unfold CoatS.allP;rw[if_neg he,if_pos hn]
   have e2:s.firstP=([],5):=by unfold CoatS.firstP;rw[if_neg he,if_pos hn]
   rw[e1,e2]
   simp(maxDischargeDepth:=30)only[AA,↓reduceIte,Q1,Q2,Q3,Q4,reduceCtorEq,Q5,Q6,Q7,XH,zX,f2.ok,show((5:Int) !=0)=true from rfl]
   exact⟨⟨_,rfl,SL.nil _ _ _⟩,f02⟩
  ·have e1:s.allP 5=(s.plans,0):=by unfold CoatS.allP;rw[if_neg he,if_neg hn]
   have e2:s.firstP=(s.plans.getD 0 [],0):=by unfold CoatS.firstP;rw[if_neg he,if_neg hn]
   rw[e1]at lr⊢
   rw[e2]
   obtain⟨p0,hp0⟩: ∃p,s.plans[0]? =some p:=⟨_,List.getElem?_eq_getElem (Nat.pos_of_ne_zero fun h=>hn (List.length_eq_zero_iff.1 h))⟩
   obtain⟨u,hu,hi⟩:=lr.get hp0
   have ul:=(List.getElem?_eq_some_iff.1 hu).1
   have g0:s.plans.getD 0 []=p0:=by rw[List.getD_eq_getElem?_getD,hp0];rfl
   rw[g0]
   rcases q with⟨_,e0,_⟩|⟨bb,rfl,_,_,gb,_⟩
   ·rw[e0]at ul;simp at ul
   have rb:rowAt h2 bb=some us:=by unfold rowAt;rw[gb];rfl
   have ix:aD CC 33 (.slice (some ⟨bb,0,some 1⟩) us.length us.length) (.int .i64 0)=some (.pointer (some ⟨bb,0,none⟩)):=by
    have:=tM bb 0 (some 1) us.length us.length 0 ul
    simpa using this
   simp(maxDischargeDepth:=30)only[AA,↓reduceIte,Q1,Q2,Q3,Q4,reduceCtorEq,Q5,Q6,Q7,XH,zX,f2.ok,show((0:Int) !=0)=false from rfl,ix,rb,hu]
   exact⟨⟨u,rfl,SL.low hi (by omega)⟩,f02⟩
end Go.Am

namespace Go.Am
open Go Go.Proofs
def lZ:=A2 @cG<|A2 @cS<|A2 @kv<|A2 @cA<|A2 @bJ<|A2 @aV<|A2 @ba<|A2 @bm @bh
def wo:=A2 @cG<|A2 @cS<|A2 @cA<|A2 @bJ<|A2 @aV<|A2 @ba<|A2 @bm @bh
set_option maxRecDepth 10000 in
theorem VY {h:Heap} (hk:HOK h) {v:Value} {xs:List Int} (y:Int) (hv:LS h v xs aQ 1) (hl:xs.length<=1000):
  CW CC 291 [v, .int .i64 y] h fun r h'=>(∃i:Int,r= .int .i64 i/\ decide (i>=0)=xs.contains y)/\ h'=h:=by
 obtain⟨p,c,rfl,hx⟩:=hv.open
 refine aw Tryz.f291 (by kernel_rfl) (by kernel_rfl) rfl rfl ?_
 simp only[Tryz.f291]
 simp(maxDischargeDepth:=30)only[AA,↓reduceIte,Q1,Q2,Q3,Q4,reduceCtorEq,Q5,Q6,Q7,XH,wo,hk]
 refine dN [4,5,8,9,10,11,12,13,14,15,16,17,18] 8 xs.length (fun i g h'=>h'=h/\ y∉xs.take i) (by simp only[aa,↓reduceIte]) ⟨rfl,by simp⟩ ?_ ?_
 ·rintro i g _ hi ag g8 ⟨rfl,hn⟩ ih
  obtain⟨x,gx⟩: ∃x,xs[i]? =some x:=⟨_,List.getElem?_eq_getElem hi⟩
  rcases hx with hx|⟨b,o,sp,row,rfl,hr,hx⟩
  ·rw[hx]at hi;simp at hi
  have c1:row[o+i]? =some (.int .i64 x):=by simpa[aQ]using(hx _ x gx).2 0 (by omega)
  cases ne:(y==x)with
  |true=>
   have e:y=x:=by simpa using ne
   simp(maxDischargeDepth:=30)only[AA,↓reduceIte,Q1,Q2,Q3,Q4,reduceCtorEq,Q5,Q6,Q7,XH,wo,ag.r,NE,g8,hk,cX hi,hi,hr,c1,Nat.mul_one,ne]
   refine⟨⟨_,rfl,?_⟩,trivial⟩
   rw[e,List.contains_iff_mem.2 (List.mem_of_getElem? gx)]
   simp
  |false=>
   simp(maxDischargeDepth:=30)only[AA,↓reduceIte,Q1,Q2,Q3,Q4,reduceCtorEq,Q5,Q6,Q7,XH,wo,ag.r,NE,g8,hk,cX hi,hi,hr,c1,Nat.mul_one,ne,bp hi hl]
   refine ih _ _ (by simp only[AG,Nat.reduceEqDiff,ag]) (by simp only[aa,↓reduceIte]) ⟨rfl,?_⟩
   rw[bI gx]
   intro hm
   rcases List.mem_append.1 hm with hm|hm
   ·exact hn hm
   ·simp at hm;rw[hm]at ne;simp at ne
 ·rintro g _ ag g8 ⟨rfl,hn⟩
  simp(maxDischargeDepth:=30)only[AA,↓reduceIte,Q1,Q2,Q3,Q4,reduceCtorEq,Q5,Q6,Q7,XH,wo,ag.r,NE,g8,hk,dL]
  refine⟨⟨_,rfl,?_⟩,trivial⟩
  rw[List.take_length]at hn
  have:xs.contains y=false:=by
   cases e:xs.contains y with
   |false=>rfl
   |true=>exact absurd (List.contains_iff_mem.1 e) hn
  rw[this];rfl
theorem pK {h:Heap} (hk:HOK h) {v:Value} {xs:List Int} (y:Int) (hv:LS h v xs aQ 1) (hl:xs.length<=1000):
  cI CC (bH CC) 251 [v, .int .i64 y] h=some (.ret (.bool (xs.contains y)) h none):=by
 obtain⟨r,h',e,⟨i,rfl,hi⟩,rfl⟩:=VY hk y hv hl
 obtain⟨p,c,rfl,hx⟩:=hv.open
 refine CW.eq (aw Tryz.f251 (by kernel_rfl) (by kernel_rfl) rfl rfl ?_)
 simp only[Tryz.f251]
 simp(maxDischargeDepth:=30)only[AA,↓reduceIte,Q1,Q2,Q3,Q4,reduceCtorEq,Q5,Q6,Q7,XH,fT,hk,e,hi]
def IsCut (h:Heap) (u:Value) (w:List Int):Prop:=LS h u w aQ 1/\ (w≠[] -> ∃b o sp c,u= .slice (some ⟨b+1,o,sp⟩) w.length c/\ w.length<=c)
theorem IsCut.fr {h h':Heap} {u:Value} {w:List Int} (q:IsCut h u w) (hk:HOK h) (f:Fr h h'):IsCut h' u w:=⟨q.1.fr hk f,q.2⟩
theorem nM (lo hi n:Nat):Dp lo hi (n:Int)=aX (Nat.ble lo n&&Nat.ble n hi) (some n):=rfl
theorem ot (hi d:Nat) (k:IntKind) (i:Int):gU hi d (some (.int k i))=Dp 0 hi i:=rfl
theorem jJ (hi d:Nat):gU hi d none=some d:=rfl
theorem jK {C:Ctx} {t e:TypeId} {n:Nat} (hu:C.und t=some (.slice e)) (hs:C.size e=some n) (p:Option Addr) (len cap:Nat) (lo hi:Option Value):jb C t (.slice p len cap) lo hi none=kG n p len cap lo hi:=by
 unfold jb
 rw[hu]
 show ae (C.size e) _=_
 rw[hs];rfl
theorem IsCut.upto {h:Heap} {u:Value} {w:List Int} (q:IsCut h u w) {i:Nat} (hi:i<w.length): ∃u',jb CC 22 u none (some (.int .i64 i)) none=some u'/\ LS h u' (w.take i) aQ 1:=by
 obtain⟨q1,q2⟩:=q
 obtain⟨b,o,sp,c,rfl,hc⟩:=q2 (fun e=>by rw[e]at hi;simp at hi)
 rcases q1 with⟨e,_⟩|⟨b',o',sp',c',row,e,hr,hy⟩
 ·rw[e]at hi;simp at hi
 simp only[Value.slice.injEq,Option.some.injEq,Addr.mk.injEq]at e
 obtain⟨⟨rfl,rfl,rfl⟩,_,rfl⟩:=e
 refine⟨.slice (some ⟨b+1,o,eA 1 sp⟩) i c,?_, .inr ⟨b+1,o,eA 1 sp,c,row,by rw[List.length_take,Nat.min_eq_left (by omega)],hr,fun j x hx=> ?_⟩⟩
 ·rw[jK bm ba]
  unfold kG
  rw[Nat.ble_eq_true_of_le hc,aK]
  simp only[jJ,ot,nM,Nat.ble_eq_true_of_le (Nat.zero_le i),Nat.ble_eq_true_of_le (show i<=c by omega),Bool.and_self,aK,au,Nat.sub_zero,ib,Nat.zero_mul,Nat.add_zero]
 ·have:w[j]? =some x:=by
   rw[List.getElem?_take]at hx
   split at hx
   ·exact hx
   ·simp at hx
  exact hy j x this
theorem IsCut.from' {h:Heap} {u:Value} {w:List Int} (q:IsCut h u w) {i:Nat} (hi:i<w.length): ∃u',jb CC 22 u (some (.int .i64 ((i+1:Nat):Int))) none none=some u'/\ LS h u' (w.drop (i+1)) aQ 1:=by
 obtain⟨q1,q2⟩:=q
 obtain⟨b,o,sp,c,rfl,hc⟩:=q2 (fun e=>by rw[e]at hi;simp at hi)
 rcases q1 with⟨e,_⟩|⟨b',o',sp',c',row,e,hr,hy⟩
 ·rw[e]at hi;simp at hi
 simp only[Value.slice.injEq,Option.some.injEq,Addr.mk.injEq]at e
 obtain⟨⟨rfl,rfl,rfl⟩,_,rfl⟩:=e
 refine⟨.slice (some ⟨b+1,o+(i+1)*1,eA 1 sp⟩) (w.length -(i+1)) (c -(i+1)),?_, .inr ⟨b+1,o+(i+1)*1,eA 1 sp,c -(i+1),row,by rw[List.length_drop],hr,fun j x hx=> ?_⟩⟩
 ·rw[jK bm ba]
  unfold kG
  rw[Nat.ble_eq_true_of_le hc,aK]
  simp only[jJ,ot,nM,Nat.ble_eq_true_of_le (Nat.zero_le (i+1)),Nat.ble_eq_true_of_le (show i+1<=w.length by omega),Bool.and_self,aK,au,ib]
 ·rw[List.getElem?_drop]at hx
  have:=hy (i+1+j) x hx
  rw[show o+(i+1)*1+j*1=o+(i+1+j)*1 by omega]
  exact this
def xf (n:Int) (l:List Int) (i:Nat):Bool:=cL (l.getD i 0) 0 (n -1)&& !((l.take i).contains (l.getD i 0))
def pf (n:Int) (l:List Int):Bool:=(List.range l.length).all (xf n l)
def Db (n:Int) (l:List Int):Bool:=cL l.length 1 5&&pf n l
def StripB.ok (s:StripB):Bool:=cL s.names 1 6&&(decide ((s.spots.length:Int)<=6)&& !(s.spots.any fun l=> !(Db s.names l)))
theorem qK (x lo hi:Int) (h:Heap):cI CC (bH CC) 116 [.int .i64 x, .int .i64 lo, .int .i64 hi] h=some (.ret (.bool (cL x lo hi)) h none):=Rq x lo hi h
theorem Rp (n:Int) (v:Value) (x:Int) (h:Heap) (hk:HOK h) (hv:jx v=true) (hn:1<=n/\ n<=6):CW CC 270 [.agg ⟨[.int .i64 n,v]⟩, .int .i64 x] h fun r h'=>r= .bool (cL x 0 (n -1))/\ Fr h h':=by
 have w1:IntKind.i64.wrap (n -1)=n -1:=bG (by omega) (by omega)
 refine aw Tryz.f270 (by kernel_rfl) (by kernel_rfl) rfl rfl ?_
 simp only[Tryz.f270]
 simp(maxDischargeDepth:=30)only[AA,↓reduceIte,Q1,Q2,Q3,Q4,reduceCtorEq,Q5,Q6,Q7,XH,vL,cS,hk,w1,qK]
 exact⟨trivial,aI _ (Fr.refl hk)⟩
set_option maxRecDepth 10000 in
theorem Kj {n:Int} {v u:Value} {w:List Int} {h:Heap} (hk:HOK h) (hv: ∃p a c,v= .slice p a c) (hn:1<=n/\ n<=6) (hu:IsCut h u w) (hl:w.length<=1000):CW CC 227 [.agg ⟨[.int .i64 n,v]⟩,u] h fun r h'=>r= .bool (pf n w)/\ Fr h h':=by
 obtain⟨pv,av,cv,rfl⟩:=hv
 obtain⟨p,c,rfl,hx⟩:=hu.1.open
 refine aw Tryz.f227 (by kernel_rfl) (by kernel_rfl) rfl rfl ?_
 simp only[Tryz.f227]
 have f1:=aI [.row [.int .i64 n, .slice pv av cv] 0 true] (Fr.refl hk)
 have r1:rowAt (h.ex [.row [.int .i64 n, .slice pv av cv] 0 true]) h.next=some [.int .i64 n, .slice pv av cv]:=aZ rfl
 simp(maxDischargeDepth:=30)only[AA,↓reduceIte,Q1,Q2,Q3,Q4,reduceCtorEq,Q5,Q6,Q7,XH,lZ,hk]
 refine dN [4,5,6,9,10,11,12,13,14,15,16,17,18,19,20,21,22,23,24,25] 9 w.length (fun i g h'=>Fr (h.ex [.row [.int .i64 n, .slice pv av cv] 0 true]) h'/\ ∀j,j<i ->xf n w j=true) (by simp only[aa,↓reduceIte]) ⟨Fr.refl f1.ok,fun j hj=>by omega⟩ ?_ ?_
 ·rintro i g h2 hi ag g9 ⟨f2,ha⟩ ih
  have f02:=f1.trans f2
  obtain⟨x,gx⟩: ∃x,w[i]? =some x:=⟨_,List.getElem?_eq_getElem hi⟩
  have gd:w.getD i 0=x:=by rw[List.getD_eq_getElem?_getD,gx];rfl
  rcases hx with hx|⟨b,o,sp,row,rfl,hr,hx⟩
  ·rw[hx]at hi;simp at hi
  have c1:row[o+i]? =some (.int .i64 x):=by simpa[aQ]using(hx _ x gx).2 0 (by omega)
  have hr2:=f02.row' hk hr
  have r2:=f2.row' f1.ok r1
  obtain⟨u',es,lu⟩:=(hu.fr hk f02).upto hi
  simp(maxDischargeDepth:=30)only[AA,↓reduceIte,Q1,Q2,Q3,Q4,reduceCtorEq,Q5,Q6,Q7,XH,lZ,ag.r,NE,g9,f2.ok,cX hi,hi,hr2,c1,Nat.mul_one,r2]
  refine aC (Rp n _ x h2 f2.ok rfl hn) ?_
  rintro _ h3 ⟨rfl,f3⟩
  cases q1:cL x 0 (n -1)with
  |false=>
   simp(maxDischargeDepth:=30)only[AA,↓reduceIte,Q1,Q2,Q3,Q4,reduceCtorEq,Q5,Q6,Q7,XH,lZ,ag.r,NE,g9,f3.ok]
   refine⟨?_,f02.trans f3⟩
   have:pf n w=false:=by
    unfold pf
    rw[List.all_eq_false]
    exact⟨i,List.mem_range.2 hi,by unfold xf;rw[gd,q1];simp⟩
   rw[this]
  |true=>
   have ci:=pK f3.ok x (lu.fr f2.ok f3) (by rw[List.length_take];omega)
   obtain⟨pu,cu,rfl⟩:=lu.len
   simp(maxDischargeDepth:=30)only[AA,↓reduceIte,Q1,Q2,Q3,Q4,reduceCtorEq,Q5,Q6,Q7,XH,lZ,ag.r,NE,g9,f3.ok,Option.map_some,Option.map_none,es,ci]
   cases q2:(w.take i).contains x with
   |true=>
    simp(maxDischargeDepth:=30)only[AA,↓reduceIte,Q1,Q2,Q3,Q4,reduceCtorEq,Q5,Q6,Q7,XH,lZ,ag.r,NE,g9,f3.ok]
    refine⟨?_,f02.trans f3⟩
    have:pf n w=false:=by
     unfold pf
     rw[List.all_eq_false]
     exact⟨i,List.mem_range.2 hi,by unfold xf;rw[gd,q2];simp⟩
    rw[this]
   |false=>
    simp(maxDischargeDepth:=30)only[AA,↓reduceIte,Q1,Q2,Q3,Q4,reduceCtorEq,Q5,Q6,Q7,XH,lZ,ag.r,NE,g9,f3.ok,bp hi hl]
    refine ih _ _ (by simp only[AG,Nat.reduceEqDiff,ag]) (by simp only[aa,↓reduceIte]) ⟨f2.trans f3,fun j hj=> ?_⟩
    by_cases hji:j<i
    ·exact ha j hji
    ·obtain rfl:j=i:=by omega
     unfold xf;rw[gd,q1,q2];rfl
 ·rintro g h2 ag g9 ⟨f2,ha⟩
  simp(maxDischargeDepth:=30)only[AA,↓reduceIte,Q1,Q2,Q3,Q4,reduceCtorEq,Q5,Q6,Q7,XH,lZ,ag.r,NE,g9,f2.ok,dL]
  refine⟨?_,f1.trans f2⟩
  have:pf n w=true:=by
   unfold pf
   rw[List.all_eq_true]
   exact fun j hj=>ha j (List.mem_range.1 hj)
  rw[this]
theorem Rn {n:Int} {v u:Value} {w:List Int} {h:Heap} (hk:HOK h) (hv: ∃p a c,v= .slice p a c) (hn:1<=n/\ n<=6) (hu:IsCut h u w) (hl:w.length<=1000):CW CC 119 [.agg ⟨[.int .i64 n,v]⟩,u] h fun r h'=>r= .bool (Db n w)/\ Fr h h':=by
 have hv':=hv
 obtain⟨pv,av,cv,rfl⟩:=hv
 obtain⟨p,c,rfl⟩:=hu.1.len
 refine aw Tryz.f119 (by kernel_rfl) (by kernel_rfl) rfl rfl ?_
 simp only[Tryz.f119]
 have f1:=aI [.row [.int .i64 n, .slice pv av cv] 0 true] (Fr.refl hk)
 simp(maxDischargeDepth:=30)only[AA,↓reduceIte,Q1,Q2,Q3,Q4,reduceCtorEq,Q5,Q6,Q7,XH,kv,cA,hk,qK]
 unfold Db
 cases q:cL w.length 1 5 with
 |false=>
  simp(maxDischargeDepth:=30)only[AA,↓reduceIte,Q1,Q2,Q3,Q4,reduceCtorEq,Q5,Q6,Q7,XH,kv,cA,hk]
  exact⟨by simp,f1⟩
 |true=>
  simp(maxDischargeDepth:=30)only[AA,↓reduceIte,Q1,Q2,Q3,Q4,reduceCtorEq,Q5,Q6,Q7,XH,kv,cA,hk]
  refine aC (Kj f1.ok hv' hn (hu.fr hk f1) hl) ?_
  rintro _ h2 ⟨rfl,f2⟩
  simp(maxDischargeDepth:=30)only[AA,↓reduceIte,Q1,Q2,Q3,Q4,reduceCtorEq,Q5,Q6,Q7,XH,kv,cA,f2.ok]
  exact⟨by simp,f1.trans f2⟩
def IsSpots (h:Heap) (v:Value) (l:List (List Int)):Prop:= ∃us,LS h v us jB 1/\ LR IsCut h us l
theorem IsSpots.fr {h h':Heap} {v:Value} {l:List (List Int)} (q:IsSpots h v l) (hk:HOK h) (f:Fr h h'):IsSpots h' v l:=by
 obtain⟨us,h1,h2⟩:=q
 exact⟨us,h1.fr hk f,h2.map fun u w q=>q.fr hk f⟩
theorem TV {α β:Type} {us:List α} {ws:List β} (hl:us.length=ws.length) (g:α ->Bool) (g':β ->Bool) (h: ∀(i:Nat) u w,us[i]? =some u ->ws[i]? =some w ->g u=g' w):us.any g=ws.any g':=by
 induction us generalizing ws with
 |nil=>cases ws with
  |nil=>rfl
  |cons _ _=>simp at hl
 |cons u us ih=>cases ws with
  |nil=>simp at hl
  |cons w ws=>
   rw[List.any_cons,List.any_cons,h 0 u w rfl rfl,ih (by simpa using hl) fun i u w h1 h2=>h (i+1) u w h1 h2]
end Go.Am

namespace Go.Am
open Go Go.Proofs
def zW:=A2 @vL<|A2 @zI<|A2 @cS<|A2 @Hl @ko
theorem He {α β:Type} {us:List α} {ws:List β} (hl:us.length=ws.length) (g:β ->Bool) (out:α ->Option Bool) (ho: ∀(i:Nat) u w,us[i]? =some u ->ws[i]? =some w ->out u=some (g w)):
  us.any (fun u=>(out u).getD false)=ws.any g/\ ∀u∈us,∃(w:β) (i:Nat),us[i]? =some u/\ ws[i]? =some w/\ (out u).getD false=g w:=by
 refine⟨TV hl _ _ fun i u w h1 h2=>by rw[ho i u w h1 h2];rfl,fun u hu=> ?_⟩
 obtain⟨i,hi⟩:=List.mem_iff_getElem?.1 hu
 obtain⟨w,hw⟩: ∃w,ws[i]? =some w:=⟨_,List.getElem?_eq_getElem (by rw[<-hl];exact(List.getElem?_eq_some_iff.1 hi).1)⟩
 exact⟨w,i,hi,hw,by rw[ho i u w hi hw];rfl⟩
noncomputable def outB (r:Option FRes):Option Bool:=match r with
 |some (.ret (.bool b) _ none)=>some b
 |_=>none
theorem Cd {h:Heap} (hk:HOK h) {v fv:Value} {us:List Value} {β:Type} {ws:List β} (hl:us.length=ws.length) (g:β ->Bool) (hv:LS h v us jB 1) (hn:us.length<=1000)
  (hcl: ∀h1,Fr h h1 -> ∀(i:Nat) u w,us[i]? =some u ->ws[i]? =some w -> ∃h2,iy CC fv [u] h1=some (.ret (.bool (g w)) h2 none)/\ Fr h1 h2):
  CW CC 117 [v,fv] h fun r h'=>r= .bool (ws.any g)/\ Fr h h':=by
 have L:=He hl g (fun u=>outB (iy CC fv [u] h)) fun i u w h1 h2=>by
  obtain⟨h2,e,_⟩:=hcl h (Fr.refl hk) i u w h1 h2
  rw[e];rfl
 rw[<-L.1]
 refine CS hk _ hv hn fun h1 f1 u hu=> ?_
 obtain⟨w,i,h1',h2',e⟩:=L.2 u hu
 rw[e]
 exact hcl h1 f1 i u w h1' h2'
theorem JI {n:Int} {v u:Value} {w:List Int} {h:Heap} {b:Nat} (hk:HOK h) (hv: ∃p a c,v= .slice p a c) (hr:rowAt h b=some [.int .i64 n,v]) (hn:1<=n/\ n<=6) (hu:IsCut h u w) (hl:w.length<=1000):CW CC 118 [u, .pointer (some ⟨b,0,none⟩)] h fun r h'=>r= .bool (!(Db n w))/\ Fr h h':=by
 have hv':=hv
 obtain⟨pv,av,cv,rfl⟩:=hv
 obtain⟨p,c,rfl⟩:=hu.1.len
 have nb:=af hk hr
 refine aw Tryz.f118 (by kernel_rfl) (by kernel_rfl) rfl rfl ?_
 simp only[Tryz.f118]
 simp(maxDischargeDepth:=30)only[AA,↓reduceIte,Q1,Q2,Q3,Q4,reduceCtorEq,Q5,Q6,Q7,XH,kv,hk,hr,nb]
 refine aC (Rn hk hv' hn hu hl) ?_
 rintro _ h2 ⟨rfl,f2⟩
 simp(maxDischargeDepth:=30)only[AA,↓reduceIte,Q1,Q2,Q3,Q4,reduceCtorEq,Q5,Q6,Q7,XH,kv,f2.ok]
 exact⟨trivial,f2⟩
structure StripB.Small (s:StripB):Prop where
 n:s.spots.length<=1000
 w: ∀w∈s.spots,w.length<=1000
set_option maxRecDepth 10000 in
theorem MT {h:Heap} (hk:HOK h) {v:Value} {s:StripB} (hs:IsSpots h v s.spots) (sm:s.Small):CW CC 41 [.agg ⟨[.int .i64 s.names,v]⟩] h fun r h'=>r= .bool s.ok/\ Fr h h':=by
 obtain⟨us,hu,lr⟩:=hs
 obtain⟨p,c,rfl,hx⟩:=hu.open
 have ul:us.length=s.spots.length:=lr.1
 refine aw Tryz.f41 (by kernel_rfl) (by kernel_rfl) rfl rfl ?_
 simp only[Tryz.f41]
 have f1:=aI [.row [.int .i64 s.names, .slice p us.length c] 0 true] (Fr.refl hk)
 have r1:rowAt (h.ex [.row [.int .i64 s.names, .slice p us.length c] 0 true]) h.next=some [.int .i64 s.names, .slice p us.length c]:=aZ rfl
 unfold StripB.ok
 cases q1:cL s.names 1 6 with
 |false=>
  simp(maxDischargeDepth:=30)only[AA,↓reduceIte,Q1,Q2,Q3,Q4,reduceCtorEq,Q5,Q6,Q7,XH,zW,hk,qK,q1]
  exact⟨by simp,f1⟩
 |true=>
 have hn:1<=s.names/\ s.names<=6:=of_decide_eq_true q1
 rw[<-ul]
 cases q2:decide ((us.length:Int)<=6)with
 |false=>
  simp(maxDischargeDepth:=30)only[AA,↓reduceIte,Q1,Q2,Q3,Q4,reduceCtorEq,Q5,Q6,Q7,XH,zW,hk,qK,q1,q2]
  exact⟨by simp,f1⟩
 |true=>
 simp(maxDischargeDepth:=30)only[AA,↓reduceIte,Q1,Q2,Q3,Q4,reduceCtorEq,Q5,Q6,Q7,XH,zW,hk,qK,q1,q2]
 refine aC (Cd f1.ok ul (fun w=> !(Db s.names w)) (hu.fr hk f1) (by have:=sm.n;omega) fun h2 f2 i u w hu' hw'=> ?_) ?_
 ·rw[ff]
  obtain⟨r,h3,e,rfl,f3⟩:=JI f2.ok ⟨_,_,_,rfl⟩ (f2.row' f1.ok r1) hn ((lr.2 i u w hu' hw').fr hk (f1.trans f2)) (sm.w w (List.mem_of_getElem? hw'))
  exact⟨h3,e,f3⟩
 ·rintro _ h2 ⟨rfl,f2⟩
  simp(maxDischargeDepth:=30)only[AA,↓reduceIte,Q1,Q2,Q3,Q4,reduceCtorEq,Q5,Q6,Q7,XH,zW,f2.ok]
  exact⟨by simp,f1.trans f2⟩
def dc (n:Int) (v:Value) (M:List Bool):List Value:= .int .i64 n::v::M.map .bool
def M0:List Bool:=List.replicate 36 false
def wV (M:List Bool) (i j:Nat):List Bool:=M.set (i*6+j) true
def LM (M:List Bool) (i j:Nat):Bool:=M.getD (i*6+j) false
def Jb (n:Nat) (l:List Int) (M:List Bool):List Bool:=l.foldl (fun M m=>wV M n m.toNat) M
def Ep (l:List Int) (k:Nat) (M:List Bool):List Bool:=(List.range k).foldl (fun M i=>Jb (l.getD i 0).toNat (l.drop (i+1)) M) M
def j4 (ls:List (List Int)) (M:List Bool):List Bool:=ls.foldl (fun M l=>Ep l l.length M) M
def TB (k i n:Nat) (M:List Bool):List Bool:=(List.range n).foldl (fun M j=>if(LM M i k&&LM M k j)=true then wV M i j else M) M
def LA (k n m:Nat) (M:List Bool):List Bool:=(List.range m).foldl (fun M i=>TB k i n M) M
def FA (n m:Nat) (M:List Bool):List Bool:=(List.range m).foldl (fun M k=>LA k n n M) M
def StripB.after (s:StripB):List Bool:=FA s.names.toNat s.names.toNat (j4 s.spots M0)
def StripB.clash (s:StripB):Bool:=(List.range s.names.toNat).any fun i=>LM s.after i i
theorem oY {β:Type} (f:β ->Nat ->β) (n:Nat) (b:β):(List.range (n+1)).foldl f b=f ((List.range n).foldl f b) n:=by rw[List.range_succ,List.foldl_append];rfl
theorem AO {M:List Bool} {i j:Nat}:(wV M i j).length=M.length:=by simp[wV]
theorem Hy (b o:Nat) (sp:Option Nat) {i:Nat} (hi:i<6):aD CC 129 (.pointer (some ⟨b,o,sp⟩)) (.int .i64 i)=some (.pointer (some ⟨b,o+i*6,none⟩)):=aH D9 jY b o sp i hi
theorem yO (b o:Nat) (sp:Option Nat) {i:Nat} (hi:i<6):aD CC 128 (.pointer (some ⟨b,o,sp⟩)) (.int .i64 i)=some (.pointer (some ⟨b,o+i*1,none⟩)):=aH dQ fp b o sp i hi
theorem oR {n:Int} {v:Value} {M:List Bool} (h:M.length=36):(dc n v M).length=38:=by simp[dc,h]
theorem KK (n:Int) (v:Value) (M:List Bool) (i j:Nat):(dc n v M).set (2+i*6+j) (.bool true)=dc n v (wV M i j):=by
 unfold dc wV
 rw[show 2+i*6+j=i*6+j+1+1 by omega,List.set_cons_succ,List.set_cons_succ,List.map_set]
theorem Ed {n:Int} {v:Value} {M:List Bool} (h:M.length=36) {i j:Nat} (hi:i<6) (hj:j<6):(dc n v M)[2+i*6+j]? =some (.bool (LM M i j)):=by
 unfold dc LM
 rw[show 2+i*6+j=i*6+j+1+1 by omega,List.getElem?_cons_succ,List.getElem?_cons_succ,List.getElem?_map,List.getD_eq_getElem?_getD]
 obtain⟨x,hx⟩: ∃x,M[i*6+j]? =some x:=⟨_,List.getElem?_eq_getElem (by omega)⟩
 rw[hx];rfl
theorem GU (n:Nat): ∀(l:List Int) (M:List Bool),(Jb n l M).length=M.length
 |[],_=>rfl
 |m::l,M=>by
  show(Jb n l (wV M n m.toNat)).length=_
  rw[GU n l,AO]
theorem oi {α:Type} (f:List Bool ->α ->List Bool) (hf: ∀M x,(f M x).length=M.length): ∀(l:List α) (M:List Bool),(l.foldl f M).length=M.length
 |[],_=>rfl
 |x::l,M=>by rw[List.foldl_cons,oi f hf l,hf]
theorem Qn (l:List Int) (k:Nat) (M:List Bool):(Ep l k M).length=M.length:=oi _ (fun M i=>GU _ _ M) _ _
theorem Qo (ls:List (List Int)) (M:List Bool):(j4 ls M).length=M.length:=oi _ (fun M i=>Qn _ _ M) _ _
theorem Wv (k i n:Nat) (M:List Bool):(TB k i n M).length=M.length:=oi _ (fun M j=>by split<;>simp[AO]) _ _
theorem Ww (k n m:Nat) (M:List Bool):(LA k n m M).length=M.length:=oi _ (fun M i=>Wv _ _ _ M) _ _
theorem Wx (n m:Nat) (M:List Bool):(FA n m M).length=M.length:=oi _ (fun M i=>Ww _ _ _ M) _ _
theorem StripB.ok_at {s:StripB} (h:s.ok=true):(1<=s.names/\ s.names<=6)/\ s.spots.length<=6/\ ∀w∈s.spots,(1<=w.length/\ w.length<=5)/\ ∀x∈w,0<=x/\ x<s.names:=by
 unfold StripB.ok at h
 simp only[Bool.and_eq_true,Bool.not_eq_true',List.any_eq_false]at h
 obtain⟨h1,h2,h3⟩:=h
 refine⟨of_decide_eq_true h1,by have:=of_decide_eq_true h2;omega,fun w hw=> ?_⟩
 have:=h3 w hw
 simp only[Bool.not_eq_true',Bool.not_eq_false]at this
 unfold Db at this
 simp only[Bool.and_eq_true]at this
 refine⟨by have:=of_decide_eq_true this.1;omega,fun x hx=> ?_⟩
 obtain⟨i,hi⟩:=List.mem_iff_getElem?.1 hx
 have hil:=(List.getElem?_eq_some_iff.1 hi).1
 have a:=this.2
 unfold pf at a
 rw[List.all_eq_true]at a
 have:=a i (List.mem_range.2 hil)
 unfold xf at this
 rw[show w.getD i 0=x by rw[List.getD_eq_getElem?_getD,hi];rfl]at this
 simp only[Bool.and_eq_true]at this
 have:=of_decide_eq_true this.1
 omega
end Go.Am
