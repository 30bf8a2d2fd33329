/- Parts V74, V75, V76, V77 of the abstract machine over this program, joined: what each part says stands at its head. -/
import Derived.Test.YtlflfbnnjlkkcaaGreatJV68
set_option linter.unusedSimpArgs false
set_option linter.unusedVariables false
set_option linter.defProp false
open Nat renaming reduceLT→Q1,reduceEqDiff→Q2,reduceAdd→Q3,reduceMul→Q4,reduceLeDiff→Q5
open Int renaming reduceNe→Q6,reduceEq→Q7
namespace Go.Am
open Go Go.Proofs
set_option maxRecDepth 10000 in
set_option maxHeartbeats 2000000 in
theorem Qs {B:Bench} (ok:B.ok=true) {bo st:Value} {pT:Nat}:
  Ky (Ur B.strokes.length) IE 228 [.pointer (some ⟨pT,0,none⟩)] (gh B B.strokes.length []) fun F h1=> ∀h,Gr F h1 h ->IsBenchV h bo st B/\ rowAt h pT=some [.int .i64 B.app,bo,st]:=by
 rintro h0 J S l F h1 MX f01 hp E hMX hJ hK
 have hk:=f01.ok
 refine aw Tryz.f228 (by kernel_rfl) (by kernel_rfl) rfl rfl ?_
 simp only[Tryz.f228]
 have fH:=aI [.row [.func (.yield l) ⟨[]⟩ ⟨[]⟩] 0 true, .row [.func (.func 229) ⟨[]⟩ ⟨[.pointer (some ⟨pT,0,none⟩), .pointer (some ⟨h1.next,0,none⟩), .pointer (some ⟨h1.next+1,0,none⟩)]⟩] 0 true] (Fr.refl hk)
 have gY:(h1.ex [.row [.func (.yield l) ⟨[]⟩ ⟨[]⟩] 0 true, .row [.func (.func 229) ⟨[]⟩ ⟨[.pointer (some ⟨pT,0,none⟩), .pointer (some ⟨h1.next,0,none⟩), .pointer (some ⟨h1.next+1,0,none⟩)]⟩] 0 true]).get h1.next=some (.row [.func (.yield l) ⟨[]⟩ ⟨[]⟩] 0 true):=dG rfl
 have gF:(h1.ex [.row [.func (.yield l) ⟨[]⟩ ⟨[]⟩] 0 true, .row [.func (.func 229) ⟨[]⟩ ⟨[.pointer (some ⟨pT,0,none⟩), .pointer (some ⟨h1.next,0,none⟩), .pointer (some ⟨h1.next+1,0,none⟩)]⟩] 0 true]).get (h1.next+1)=some (.row [.func (.func 229) ⟨[]⟩ ⟨[.pointer (some ⟨pT,0,none⟩), .pointer (some ⟨h1.next,0,none⟩), .pointer (some ⟨h1.next+1,0,none⟩)]⟩] 0 true):=by rw[jd rfl (by simp)];rfl
 simp(maxDischargeDepth:=30)only[AA,↓reduceIte,Q1,Q2,Q3,Q4,reduceCtorEq,Q5,Q6,Q7,XH,By,Gv,FL,hk,ff]
 generalize(h1.ex [.row [.func (.yield l) ⟨[]⟩ ⟨[]⟩] 0 true, .row [.func (.func 229) ⟨[]⟩ ⟨[.pointer (some ⟨pT,0,none⟩), .pointer (some ⟨h1.next,0,none⟩), .pointer (some ⟨h1.next+1,0,none⟩)]⟩] 0 true])=H at fH gY gF⊢
 have lF:=fun i hi=>(E.low F [] h1 hJ i hi)
 have q:GR ⟨J,F,h1,0,h1.next,h1.next+1, .func (.yield l) ⟨[]⟩ ⟨[]⟩, .func (.func 229) ⟨[]⟩ ⟨[.pointer (some ⟨pT,0,none⟩), .pointer (some ⟨h1.next,0,none⟩), .pointer (some ⟨h1.next+1,0,none⟩)]⟩⟩ F [] H:=
  ⟨fH.gr,Nat.lt_of_lt_of_le hp fH.next,E.stay _ _ _ _ hJ fH.ok fH.next fun i hi=>fH.get i (lF i hi).2,fun i hi=> .inl hi,gY,gF,
   fun i hi=>⟨fun hf=>by have:=(lF i hf).2;simp at hi;omega,by simp at hi;show h1.next<=i;omega⟩⟩
 refine aC (Qr ok E hk hK f01 (fun i hi=>(lF i hi).1) rfl rfl B.strokes.length q (now:=[]) (by simp) (SL.nil _ _ _) (fun b hb=>by simp[ay]at hb) (by simpa using hMX)) ?_
 rintro R h2 ⟨gr,hR⟩
 simp(maxDischargeDepth:=30)only[AA,↓reduceIte,Q1,Q2,Q3,Q4,reduceCtorEq,Q5,Q6,Q7,XH,By,Gv,FL,gr.ok,v7]
 have GG:Gr F h1 h2:=fH.gr.trans' gr (fun j hj=> .inl hj)
 refine⟨GG,?_⟩
 rcases hR with⟨_,F',q',hs⟩|⟨_,l1,l2,el,hS⟩
 ·exact .inl ⟨F',by simpa using q'.j,fun i hi=>by
   rcases hs i hi with a|a|a
   ·exact .inl a
   ·simp[ay]at a
   ·exact .inr (Nat.le_trans fH.next a)⟩
 ·exact .inr ⟨l1,l2,el,by simpa using hS⟩
theorem Vy {h:Heap} (hk:HOK h) {app:Int} {bo st:Value} (hbo: ∃p a c,bo= .slice p a c) (hst: ∃p a c,st= .slice p a c):
  CW CC 127 [.agg ⟨[.int .i64 app,bo,st]⟩] h fun r h'=>r= .func (.func 228) ⟨[]⟩ ⟨[.pointer (some ⟨h.next,0,none⟩)]⟩/\ Fr h h'/\ rowAt h' h.next=some [.int .i64 app,bo,st]:=by
 obtain⟨pb,nb,cb,rfl⟩:=hbo
 obtain⟨ps,ns,cs,rfl⟩:=hst
 refine aw Tryz.f127 (by kernel_rfl) (by kernel_rfl) rfl rfl ?_
 simp only[Tryz.f127]
 simp(maxDischargeDepth:=30)only[AA,↓reduceIte,Q1,Q2,Q3,Q4,reduceCtorEq,Q5,Q6,Q7,XH,fT,hk]
 exact⟨trivial,aI _ (Fr.refl hk),trivial⟩
theorem MZ {B:Bench} (ok:B.ok=true) (n:Nat):(kq B n).length<=4:=by
 have:=(Bench.ok_at ok).1
 unfold kq
 split
 ·simp
 ·rw[List.length_range];omega
theorem wY {B:Bench} (ok:B.ok=true): ∀(d:Nat) (now:List Int),(gh B d now).length<=4 ^ d
 |0,_=>Nat.le_refl _
 |d+1,now=>by
  have h:=sY (fun k:Nat=>gh B d (now++[(k:Int)])) (4 ^ d) (kq B now.length) (fun n _=>wY ok d _)
  rw[Nat.pow_succ]
  exact Nat.le_trans h (by rw[Nat.mul_comm];exact Nat.mul_le_mul_left _ (MZ ok _))
theorem AX {B:Bench}: ∀(d:Nat) (now p:List Int),p∈gh B d now ->p.length=now.length+d
 |0,now,p,h=>by simp[gh]at h;subst h;rfl
 |d+1,now,p,h=>by
  simp only[gh,List.mem_flatMap]at h
  obtain⟨k,_,h⟩:=h
  have:=AX d _ p h
  rw[this,List.length_append];simp;omega
end Go.Am

namespace Go.Am
open Go Go.Proofs
def mG:=A2 @WP<|A2 @xV<|A2 @xU<|A2 @Ez<|A2 @YM<|A2 @qZ<|A2 @A9<|A2 @AM<|A2 @mZ<|A2 @Pu<|A2 @Pt<|A2 @uU<|A2 @Ak @Aj
def fo (u:Value×Int):List Value:=[u.1, .int .i64 u.2]
theorem DY:AppT CC 135 135 2:=qE (by kernel_rfl)
theorem vV (a b:Value):bn CC 135 1 [(0, .agg ⟨[a,b]⟩)]=some (.new (.row [a,b] 2 true) (aG 2 1 1)):=by kernel_rfl
def D5 (B:Bench) (N:Nat) (h:Heap) (u:Value×Int) (w:List Int):Prop:=gZ N h w u.1/\ u.2=qh B w
structure TJ (B:Bench) (RB:List Value) (N b c d l:Nat) (R:ALoop) (F:Nat ->Prop) (D:List (List Int)) (h:Heap):Prop where
 ok:HOK h
 ex: ∃us out,(∀i,F i↔i=b \/i=c \/i=d \/i=l \/ay out=some i \/ ∃u,u∈us/\ ay u.1=some i)/\ h.get b=some (.row RB 0 true)/\ h.get c=some (.row [out] 0 true)/\ h.get d=some (.deferred true)/\ h.get l=some (.loop R)/\
  SL N h out (us.flatMap fo) 2 us.length/\ LR (fun h u w=>D5 B N h u w) h us D/\ ∀u,u∈us -> ∀i,ay u.1=some i ->ay out≠some i
theorem SL.not {N s n:Nat} {h:Heap} {v:Value} {l:List Value} (q:SL N h v l s n) {i:Nat} {x:AObj} (hg:h.get i=some x) (hx: ∀c k r,x≠ .row c k r):ay v≠some i:=fun hb=>by
 rcases q with⟨rfl,_⟩|⟨b',rfl,_,_,g',_⟩
 ·simp[ay]at hb
 ·simp[ay]at hb;subst hb
  rw[hg]at g'
  exact hx _ _ _ (Option.some.inj g')
set_option maxRecDepth 10000 in
set_option maxHeartbeats 4000000 in
theorem TH {h:Heap} (hk:HOK h) (hp:0<h.next) {bo st:Value} {B:Bench} (q:IsBenchV h bo st B) (ok:B.ok=true) {L:List (List Int)} (hL:gh B B.strokes.length []=L) {P:Value ->Heap ->Prop}
  (hP: ∀{h':Heap} {out:Value} {us:List (Value×Int)},HOK h' ->0<h'.next ->SL h.next h' out (us.flatMap fo) 2 us.length ->LR (fun g u w=>D5 B h.next g u w) h' us L ->Fr h h' ->CW CC 129 [out, .func (.func 130) ⟨[]⟩ ⟨[]⟩] h' fun r h2=>Fr h' h2/\ ∀(d:Nat),h.next<=d ->h2.get d=some (.deferred true) ->P r (h2.set d (.deferred false))):
  CW CC 47 [.agg ⟨[.int .i64 B.app,bo,st]⟩] h P:=by
 have hL1:L.length<=4096:=by
  have:=wY ok B.strokes.length []
  have h6:=(Bench.ok_at ok).2.1.2
  have:4 ^ B.strokes.length<=4 ^ 6:=Nat.pow_le_pow_right (by omega) h6
  have:(4:Nat) ^ 6=4096:=by decide
  rw[<-hL];omega
 have q0:=q
 obtain⟨pb,cb,rfl⟩:=q.bo.len
 obtain⟨ps,cs,rfl⟩:=q.len
 refine CH Tryz.f47 (by kernel_rfl) (by kernel_rfl) rfl rfl ?_
 simp only[Tryz.f47]
 have fA:=aI [.row [.int .i64 B.app, .slice pb B.boards.length cb, .slice ps B.strokes.length cs] 0 true, .row [.slice none 0 0] 0 true] (Fr.refl hk)
 have gb:(h.ex [.row [.int .i64 B.app, .slice pb B.boards.length cb, .slice ps B.strokes.length cs] 0 true, .row [.slice none 0 0] 0 true]).get h.next=some (.row [.int .i64 B.app, .slice pb B.boards.length cb, .slice ps B.strokes.length cs] 0 true):=dG rfl
 have gA:(h.ex [.row [.int .i64 B.app, .slice pb B.boards.length cb, .slice ps B.strokes.length cs] 0 true, .row [.slice none 0 0] 0 true]).get (h.next+1)=some (.row [.slice none 0 0] 0 true):=by rw[jd rfl (by simp)];rfl
 have nA:(h.ex [.row [.int .i64 B.app, .slice pb B.boards.length cb, .slice ps B.strokes.length cs] 0 true, .row [.slice none 0 0] 0 true]).next=h.next+2:=by rw[bc];rfl
 simp(maxDischargeDepth:=30)only[AA,↓reduceIte,Q1,Q2,Q3,Q4,reduceCtorEq,Q5,Q6,Q7,XH,mG,hk,pW]
 generalize(h.ex [.row [.int .i64 B.app, .slice pb B.boards.length cb, .slice ps B.strokes.length cs] 0 true, .row [.slice none 0 0] 0 true])=h0 at fA gb gA nA⊢
 refine aC (Vy fA.ok ⟨_,_,_,rfl⟩ ⟨_,_,_,rfl⟩) ?_
 rintro _ hA ⟨rfl,fA2,rT⟩
 have f0A:=fA.trans fA2
 have n0A:=fA2.next
 have gb:=fA2.get' fA.ok gb
 have gA:=fA2.get' fA.ok gA
 have lb:=aF fA2.ok gb
 have lc:=aF fA2.ok gA
 have lT:=af fA2.ok rT
 have qA:=q0.fr hk f0A
 simp(maxDischargeDepth:=30)only[AA,↓reduceIte,Q1,Q2,Q3,Q4,reduceCtorEq,Q5,Q6,Q7,XH,mG,fA2.ok,pW]
 refine rR (P:=fun R _ h'=>(∃F,TJ B [.int .i64 B.app, .slice pb B.boards.length cb, .slice ps B.strokes.length cs] h.next h.next (h.next+1) hA.next (hA.next+1) R F L h')/\ Fr h h') ?_ ?_
 ·intro R hR
  have f4:Fr hA ((hA.alloc (.deferred true)).alloc (.loop R)):=((Fr.refl fA2.ok).alloc _).alloc _
  have d4:((hA.alloc (.deferred true)).alloc (.loop R)).get hA.next=some (.deferred true):=by rw[cP _ (by simp)];exact dr _ rfl
  have l4:((hA.alloc (.deferred true)).alloc (.loop R)).get (hA.next+1)=some (.loop R):=dr _ (by simp)
  have c4:=f4.get' fA2.ok gA
  have b4:=f4.get' fA2.ok gb
  have n4:((hA.alloc (.deferred true)).alloc (.loop R)).next=hA.next+2:=by simp
  have rT4:=f4.row' fA2.ok rT
  generalize((hA.alloc (.deferred true)).alloc (.loop R))=h4 at f4 d4 l4 c4 b4 n4 rT4⊢
  have E:Eats (Ur B.strokes.length) IE (TJ B [.int .i64 B.app, .slice pb B.boards.length cb, .slice ps B.strokes.length cs] h.next h.next (h.next+1) hA.next (hA.next+1) R) (fun _ _=>False) (hA.next+1) h 4096:=by
   refine⟨?_,?_,?_⟩
   ·rintro F D g hJ i hi
    obtain⟨us,out,hF,gb,gc,gd,gl,qo,hR',nd⟩:=hJ.ex
    have a0:=aF hJ.ok gb
    have a1:=aF hJ.ok gc
    have a2:=aF hJ.ok gd
    have a3:=aF hJ.ok gl
    rcases(hF i).1 hi with rfl|rfl|rfl|rfl|hb|⟨u,hu,hb⟩
    ·omega
    ·omega
    ·omega
    ·omega
    ·exact qo.blk_lt hJ.ok hb
    ·obtain⟨j,hj⟩:=List.mem_iff_getElem?.1 hu
     obtain⟨w,hw,hi,_⟩:=hR'.get' hj
     exact SL.blk_lt hi hJ.ok hb
   ·rintro F D g g' hJ kg' hn hs
    obtain⟨us,out,hF,gb,gc,gd,gl,qo,hR',nd⟩:=hJ.ex
    refine⟨kg',us,out,hF,?_,?_,?_,?_,?_,?_,nd⟩
    ·rw[hs _ ((hF _).2 (by simp))];exact gb
    ·rw[hs _ ((hF _).2 (by simp))];exact gc
    ·rw[hs _ ((hF _).2 (by simp))];exact gd
    ·rw[hs _ ((hF _).2 (by simp))];exact gl
    ·exact qo.keep fun b hb=>hs _ ((hF _).2 (by simp[hb]))
    ·refine⟨hR'.1,fun j u w hu hw=>⟨SL.keep (hR'.2 j u w hu hw).1 fun b hb=>hs _ ((hF _).2 (.inr (.inr (.inr (.inr (.inr ⟨u,List.mem_of_getElem? hu,hb⟩)))))),(hR'.2 j u w hu hw).2⟩⟩
   ·rintro F D g v w kg hg0 fg hJ ⟨hI,hwl⟩ hdis dl
    obtain⟨us,out,hF,gb,gc,gd,gl,qo,hR',nd⟩:=hJ.ex
    have rok:pt R.state=true:=by rw[hR];rfl
    have hA1:R.assign=_:=congrArg ALoop.assign hR
    have hA2:R.body=_:=congrArg ALoop.body hR
    have hA3:R.params=_:=congrArg ALoop.params hR
    have hA4:R.tmps=_:=congrArg ALoop.tmps hR
    have hR1:(R.turn .busy R.pending).turn (gK none) none=R:=by rw[hR];rfl
    simp only[iN]at hA1 hA2 hA3 hA4
    clear hR
    refine uQ gl (by rw[hA3];rfl) ?_
    rw[hA1,hA2,hA3,hA4,oW]
    have lg:=aF kg gl
    have cg:=aF kg gc
    have dg:=aF kg gd
    simp(maxDischargeDepth:=30)only[AA,↓reduceIte,Q1,Q2,Q3,Q4,reduceCtorEq,Q5,Q6,Q7,XH,mG,kg,zS gl rok]
    have qB:SL h.next (g.set (hA.next+1) (.loop (R.turn .busy R.pending))) out (us.flatMap fo) 2 us.length:=qo.keep fun b hb=>Heap.get_set_ne _ _ (fun e=>by subst e;exact qo.not gl (by simp) hb)
    have iB:gZ h.next (g.set (hA.next+1) (.loop (R.turn .busy R.pending))) w v:=SL.keep hI fun b hb=>Heap.get_set_ne _ _ (fun e=>by subst e;exact SL.not hI gl (by simp) hb)
    have fB:Fr h (g.set (hA.next+1) (.loop (R.turn .busy R.pending))):=fg.set (by omega) (by omega) _
    have bB:(g.set (hA.next+1) (.loop (R.turn .busy R.pending))).get h.next=some (.row [.int .i64 B.app, .slice pb B.boards.length cb, .slice ps B.strokes.length cs] 0 true):=by rw[Heap.get_set_ne _ _ (by omega)];exact gb
    have cB:(g.set (hA.next+1) (.loop (R.turn .busy R.pending))).get (h.next+1)=some (.row [out] 0 true):=by rw[Heap.get_set_ne _ _ (by omega)];exact gc
    have dB:(g.set (hA.next+1) (.loop (R.turn .busy R.pending))).get hA.next=some (.deferred true):=by rw[Heap.get_set_ne _ _ (by omega)];exact gd
    have lB:(g.set (hA.next+1) (.loop (R.turn .busy R.pending))).get (hA.next+1)=some (.loop (R.turn .busy R.pending)):=am _ _ _
    have oB: ∀i,i≠hA.next+1 ->(g.set (hA.next+1) (.loop (R.turn .busy R.pending))).get i=g.get i:=fun i hi=>Heap.get_set_ne _ _ hi
    have nB:(g.set (hA.next+1) (.loop (R.turn .busy R.pending))).next=g.next:=Heap.next_set _ _ _
    generalize(g.set (hA.next+1) (.loop (R.turn .busy R.pending)))=hB at qB iB fB bB cB dB lB oB nB⊢
    have rB:rowAt hB (h.next+1)=some [out]:=by unfold rowAt;rw[cB];rfl
    have rb:rowAt hB h.next=some [.int .i64 B.app, .slice pb B.boards.length cb, .slice ps B.strokes.length cs]:=by unfold rowAt;rw[bB];rfl
    have wk:IsWork hB _ _ v B w:=⟨q0.fr hk fB,SL.ls aP iB⟩
    obtain⟨pv,cv,rfl⟩:=SL.value hI
    obtain⟨po,co,rfl⟩:=qo.value
    have ul:us.length=D.length:=hR'.1
    refine bR [(true,0),(true,1),(true,2),(true,3),(true,4),(false,0),(true,5),(false,0),(true,6),(true,7),(true,8),(true,9)] (by kernel_rfl) ?_
    have mB:=af fB.ok rB
    have mb:=af fB.ok rb
    simp(maxDischargeDepth:=30)only[AA,↓reduceIte,Q1,Q2,Q3,Q4,reduceCtorEq,Q5,Q6,Q7,dk,XH,mG,fB.ok,rB,rb,mB,mb]
    refine bk (OA fB.ok wk) ?_
    rintro _ h2 ⟨⟨m,rfl,lm,hm⟩,f2⟩
    have rB2:=f2.row' fB.ok rB
    have rb2:=f2.row' fB.ok rb
    simp(maxDischargeDepth:=30)only[AA,↓reduceIte,Q1,Q2,Q3,Q4,reduceCtorEq,Q5,Q6,Q7,dk,XH,mG,f2.ok,rB2,rb2]
    refine bk (Yx ok hwl f2.ok (by have:=f2.next;omega) (wk.fr fB.ok f2) hm) ?_
    rintro _ h3 ⟨rfl,f3⟩
    have f23:Fr hB h3:=FrK.fr f2 lm f3
    have rB3:=f23.row' fB.ok rB
    have rb3:=f23.row' fB.ok rb
    have f6:=aI [.row [.slice pv w.length cv, .int .i64 (qh B w)] 2 true] (Fr.refl f23.ok)
    have n6:(h3.ex [.row [.slice pv w.length cv, .int .i64 (qh B w)] 2 true]).next=h3.next+1:=by rw[bc];rfl
    have n23:=f23.next
    have fn:=fB.next
    obtain⟨hC,eC,qC,kC,nC,gC⟩:=dI (ts:=[]) DY (N:=h.next) f6.ok (by omega) (by omega) ((qB.fr fB.ok f23).fr f23.ok f6) (x:= .slice (some ⟨h3.next,0,some 2⟩) 1 1) (m:=0) (new:=fo (.slice pv w.length cv,qh B w)) rfl (by
     show ae (rowAt _ h3.next) (fun cells=>aA cells 0 ((0+1)*2))=_
     rw[aZ rfl];rfl) rfl rfl (by omega)
    rw[n6]at eC qC nC gC
    simp only[XH,aG,Nat.zero_add]at eC qC
    have gO: ∀i,i<g.next ->i≠hA.next+1 ->ay (.slice po us.length co)≠some i ->hC.get i=g.get i:=fun i hi h1 h2=>by
     rw[gC i (by omega) h2,gz (by omega),f23.get i (by omega)];exact oB i h1
    have tl:ay (.slice po us.length co)≠some (hA.next+1):=qB.not lB (by simp)
    have td:ay (.slice po us.length co)≠some hA.next:=qB.not dB (by simp)
    have tc:ay (.slice po us.length co)≠some (h.next+1):=qB.tag cB (by omega)
    have tb:ay (.slice po us.length co)≠some h.next:=qB.tag bB (by omega)
    have cC:hC.get (h.next+1)=some (.row [.slice po us.length co] 0 true):=by rw[gO _ (by omega) (by omega) tc];exact gc
    have bC:hC.get h.next=some (.row [.int .i64 B.app, .slice pb B.boards.length cb, .slice ps B.strokes.length cs] 0 true):=by rw[gO _ (by omega) (by omega) tb];exact gb
    have rbC:rowAt hC h.next=some [.int .i64 B.app, .slice pb B.boards.length cb, .slice ps B.strokes.length cs]:=by unfold rowAt;rw[bC];rfl
    have rcC:rowAt hC (h.next+1)=some [.slice po us.length co]:=by unfold rowAt;rw[cC];rfl
    have mc:=af kC rcC
    have gx:hC.get h3.next=some (.row [.slice pv w.length cv, .int .i64 (qh B w)] 2 true):=by
     rw[gC _ (by omega) (fun e=>by have:=(qB.blk_lt fB.ok e).2;omega)];exact dG rfl
    simp(maxDischargeDepth:=30)only[AA,↓reduceIte,Q1,Q2,Q3,Q4,reduceCtorEq,Q5,Q6,Q7,dk,XH,mG,f23.ok,rB3,rb3,vV,aG,eC,kC,cC,rbC,rcC,mc,gx,List.set_cons_zero]
    have fin: ∀i,i<g.next ->i≠h.next+1 ->i≠hA.next+1 ->ay (.slice po us.length co)≠some i -> ∀x y,((hC.set (h.next+1) x).set (hA.next+1) y).get i=g.get i:=fun i hi h1 h2 h3 x y=>by
     rw[Heap.get_set_ne _ _ h2,Heap.get_set_ne _ _ h1,gO i hi h2 h3]
    have gl': ∀i b,i=h.next \/i=h.next+1 \/i=hA.next \/i=hA.next+1 ->ay (.slice pv w.length cv)=some b ->b≠i:=by
     rintro i b hi hb rfl
     exact hdis b hb ((hF b).2 (by rcases hi with h|h|h|h<;>simp[h]))
    refine⟨none,_,rfl,trivial,by rw[Heap.get_set_ne _ _ (by omega),gC _ (by omega) tl,gz (by omega),f23.get _ (by omega)];exact lB,?_, .inl ⟨rfl,fun i=>i=h.next \/i=h.next+1 \/i=hA.next \/i=hA.next+1 \/i=h3.next+1 \/ ∃u,u∈us++[(.slice pv w.length cv,qh B w)]/\ ay u.1=some i,?_,?_⟩⟩
    ·refine⟨(kC.set (by omega) _).set (by simp;omega) _,by simp;omega,fun i hi hn=>fin i hi (fun e=>hn ((hF i).2 (.inr (.inl e)))) (fun e=>hn ((hF i).2 (.inr (.inr (.inr (.inl e)))))) (fun e=>hn ((hF i).2 (.inr (.inr (.inr (.inr (.inl e))))))) _ _⟩
    ·rintro i (h|h|h|h|h|⟨u,hu,hb⟩)
     ·exact .inl ((hF i).2 (.inl h))
     ·exact .inl ((hF i).2 (.inr (.inl h)))
     ·exact .inl ((hF i).2 (.inr (.inr (.inl h))))
     ·exact .inl ((hF i).2 (.inr (.inr (.inr (.inl h)))))
     ·exact .inr (.inr (by omega))
     ·rcases List.mem_append.1 hu with hu|hu
      ·exact .inl ((hF i).2 (.inr (.inr (.inr (.inr (.inr ⟨u,hu,hb⟩))))))
      ·simp at hu;subst hu;exact .inr (.inl hb)
    ·have key: ∀(u:Value×Int) w',u∈us++[(.slice pv w.length cv,qh B w)] ->D5 B h.next g u w' ->D5 B h.next ((hC.set (h.next+1) (.row [.slice (some ⟨h3.next+1,0,some 2⟩) (us.length+1) (us.length+1)] 0 true)).set (hA.next+1) (.loop ((R.turn .busy R.pending).turn (gK none) none))) u w':=by
      rintro u w' hu ⟨hi,hl⟩
      refine⟨SL.keep hi fun b hb=> ?_,hl⟩
      have hbl:=(SL.blk_lt hi kg hb).2
      rcases List.mem_append.1 hu with hu|hu
      ·exact fin b hbl (fun e=>by subst e;exact SL.tag hi gc (by omega) hb) (fun e=>by subst e;exact SL.not hi gl (by simp) hb) (nd u hu b hb) _ _
      ·simp at hu;subst hu
       exact fin b hbl (gl' _ b (.inr (.inl rfl)) hb) (gl' _ b (.inr (.inr (.inr rfl))) hb) (fun e=>hdis b hb ((hF b).2 (.inr (.inr (.inr (.inr (.inl e))))))) _ _
     refine⟨(kC.set (by omega) _).set (by simp;omega) _,us++[(.slice pv w.length cv,qh B w)], .slice (some ⟨h3.next+1,0,some 2⟩) (us.length+1) (us.length+1),?_,?_,?_,?_,?_,?_,?_,?_⟩
     ·intro i
      have:(ay (.slice (some ⟨h3.next+1,0,some 2⟩) (us.length+1) (us.length+1))=some i)↔i=h3.next+1:=by simp[ay,eq_comm]
      rw[this]
     ·rw[Heap.get_set_ne _ _ (by omega),Heap.get_set_ne _ _ (by omega)];exact bC
     ·rw[Heap.get_set_ne _ _ (by omega)];exact am _ _ _
     ·rw[Heap.get_set_ne _ _ (by omega),Heap.get_set_ne _ _ (by omega),gO _ (by omega) (by omega) td];exact gd
     ·rw[am,hR1]
     ·rw[List.length_append,List.flatMap_append]
      refine SL.keep (l:=us.flatMap fo++fo (.slice pv w.length cv,qh B w)) qC fun b hb=> ?_
      simp[ay]at hb;subst hb
      rw[Heap.get_set_ne _ _ (by omega),Heap.get_set_ne _ _ (by omega)]
     ·refine⟨by simp[ul],fun j u w' hu hw=>key u w' (List.mem_of_getElem? hu) ?_⟩
      by_cases hj:j<us.length
      ·rw[List.getElem?_append_left hj]at hu
       rw[List.getElem?_append_left (by omega)]at hw
       exact hR'.2 j u w' hu hw
      ·rw[List.getElem?_append_right (by omega)]at hu hw
       have:j -us.length=0:=by
        cases e:j -us.length with
        |zero=>rfl
        |succ n=>rw[e]at hu;simp at hu
       rw[this]at hu
       rw[show j -D.length=0 by omega]at hw
       simp at hu hw
       subst hu;subst hw;exact⟨hI,rfl⟩
     ·intro u hu i hb
      have hi:i<g.next:=by
       rcases List.mem_append.1 hu with hu|hu
       ·obtain⟨j,hj⟩:=List.mem_iff_getElem?.1 hu
        obtain⟨w',hw,hi,_⟩:=hR'.get' hj
        exact(SL.blk_lt hi kg hb).2
       ·simp at hu;subst hu;exact(SL.blk_lt hI kg hb).2
      simp[ay];omega
  have lowF: ∀i,(i=h.next \/i=h.next+1 \/i=hA.next \/i=hA.next+1) ->h.next<=i:=fun i hi=>by have:=f0A.next;omega
  obtain⟨rv,h',e,gr,hq⟩:=Qs ok (bo:= .slice pb B.boards.length cb) (st:= .slice ps B.strokes.length cs) (pT:=h0.next) h (TJ B [.int .i64 B.app, .slice pb B.boards.length cb, .slice ps B.strokes.length cs] h.next h.next (h.next+1) hA.next (hA.next+1) R) (fun _ _=>False) (hA.next+1) (fun i=>i=h.next \/i=h.next+1 \/i=hA.next \/i=hA.next+1) h4 4096 (f0A.trans f4) (by omega) E (by rw[hL];exact hL1)
   ⟨f4.ok,[], .slice none 0 0,fun i=>by simp[ay],b4,c4,d4,l4,SL.nil _ _ _,⟨rfl,fun j u w hu=>by simp at hu⟩,fun u hu=>by simp at hu⟩
   (fun g hg=>⟨q0.fr hk (hg.fr (f0A.trans f4) lowF),by
    have:=af f4.ok rT4
    unfold rowAt;rw[hg.get h0.next (by omega) (by omega)];exact rT4⟩)
  rw[hL]at hq
  refine⟨rv,h',e,?_,gr.fr (f0A.trans f4) lowF⟩
  rcases hq with⟨F',hJ,_⟩|⟨_,_,_,hn⟩
  ·exact⟨F',hJ⟩
  ·exact hn.elim
 ·rintro R hR rv h' ⟨⟨F,hJ⟩,fr⟩
  obtain⟨us,out,hF,gb,gc,gd,gl,qo,hR',nd⟩:=hJ.ex
  refine⟨R,gl,by rw[hR];rfl,?_⟩
  have hp':R.pending=none:=by rw[hR];rfl
  rw[hp',lQ,nR]
  have k':=hJ.ok
  have ml:=aF k' gl
  have c2:rowAt (h'.set (hA.next+1) (.loop (R.turn .exhausted none))) (h.next+1)=some [out]:=by unfold rowAt;rw[Heap.get_set_ne _ _ (by omega),gc];rfl
  have d2:(h'.set (hA.next+1) (.loop (R.turn .exhausted none))).get hA.next=some (.deferred true):=by rw[Heap.get_set_ne _ _ (by omega)];exact gd
  have f2:Fr h (h'.set (hA.next+1) (.loop (R.turn .exhausted none))):=fr.set (by omega) (by have:=f0A.next;omega) _
  have q2:SL h.next (h'.set (hA.next+1) (.loop (R.turn .exhausted none))) out (us.flatMap fo) 2 us.length:=qo.keep fun b hb=>Heap.get_set_ne _ _ (fun e=>by subst e;exact qo.not gl (by simp) hb)
  have r2:LR (fun g u w=>D5 B h.next g u w) (h'.set (hA.next+1) (.loop (R.turn .exhausted none))) us L:=⟨hR'.1,fun j u w hu hw=>⟨SL.keep (hR'.2 j u w hu hw).1 fun b hb=>Heap.get_set_ne _ _ (fun e=>by subst e;exact SL.not (hR'.2 j u w hu hw).1 gl (by simp) hb),(hR'.2 j u w hu hw).2⟩⟩
  generalize(h'.set (hA.next+1) (.loop (R.turn .exhausted none)))=h2 at c2 d2 f2 q2 r2⊢
  obtain⟨po,co,rfl⟩:=q2.value
  simp(maxDischargeDepth:=30)only[AA,↓reduceIte,Q1,Q2,Q3,Q4,reduceCtorEq,Q5,Q6,Q7,XH,mG,f2.ok,c2]
  refine aC (hP f2.ok (by have:=f2.next;omega) q2 r2 f2) ?_
  rintro r h5 ⟨f5,hPd⟩
  have d5:=f5.get' f2.ok d2
  simp(maxDischargeDepth:=30)only[AA,↓reduceIte,Q1,Q2,Q3,Q4,reduceCtorEq,Q5,Q6,Q7,XH,mG,f5.ok,pV]
  exact⟨d5,hPd _ f0A.next d5⟩
end Go.Am

namespace Go.Am
open Go Go.Proofs
def fV:=A2 @Ez<|A2 @YL<|A2 @VQ<|A2 @A9<|A2 @AM<|A2 @mZ<|A2 @uU<|A2 @Ak @Aj
section
variable {α:Type}
def cQ (cur:List (α×Int)) (x:α×Int):List (α×Int):=match cur with
 |[]=>[x]
 |y::l=>if x.2<y.2 then[x]else if y.2<x.2 then y::l else(y::l)++[x]
def yY (l:List (α×Int)):List (α×Int):=l.foldl cQ []
theorem Ff {cur:List (α×Int)} {x u:α×Int} (h:u∈cQ cur x):u∈cur \/u=x:=by
 unfold cQ at h
 split at h
 ·exact .inr (by simpa using h)
 ·split at h
  ·exact .inr (by simpa using h)
  ·split at h
   ·exact .inl h
   ·rcases List.mem_append.1 h with h|h
    ·exact .inl h
    ·exact .inr (by simpa using h)
theorem tq: ∀(l:List (α×Int)) (cur:List (α×Int)) (u:α×Int),u∈l.foldl cQ cur ->u∈cur \/u∈l
 |[],cur,u,h=> .inl h
 |x::l,cur,u,h=>by
  rcases tq l _ u h with h|h
  ·rcases Ff h with h|h
   ·exact .inl h
   ·exact .inr (by simp[h])
  ·exact .inr (by simp[h])
theorem Ij (cur:List (α×Int)) (x:α×Int):cQ cur x≠[]:=by
 unfold cQ
 split
 ·simp
 ·split
  ·simp
  ·split<;>simp
theorem Il: ∀(l cur:List (α×Int)),cur≠[] \/l≠[] ->l.foldl cQ cur≠[]
 |[],cur,h=>by simpa using h
 |x::l,cur,_=>Il l _ (.inl (Ij _ _))
theorem Ik (cur:List (α×Int)) (x:α×Int):(cQ cur x).length<=cur.length+1:=by
 unfold cQ
 split
 ·simp
 ·split
  ·simp
  ·split<;>simp
theorem Im: ∀(l cur:List (α×Int)),(l.foldl cQ cur).length<=cur.length+l.length
 |[],cur=>by simp
 |x::l,cur=>by have:=Im l (cQ cur x);have:=Ik cur x;simp only[List.foldl_cons,List.length_cons];omega
theorem Fg {β:Type} (f:α ->β) (cur:List (α×Int)) (x:α×Int):cQ (cur.map fun u=>(f u.1,u.2)) (f x.1,x.2)=(cQ cur x).map fun u=>(f u.1,u.2):=by
 cases cur with
 |nil=>rfl
 |cons y l=>
  simp only[cQ,List.map_cons]
  split
  ·rfl
  ·split
   ·rfl
   ·simp
theorem ym {β:Type} (f:α ->β): ∀(l cur:List (α×Int)),(l.map fun u=>(f u.1,u.2)).foldl cQ (cur.map fun u=>(f u.1,u.2))=(l.foldl cQ cur).map fun u=>(f u.1,u.2)
 |[],cur=>rfl
 |x::l,cur=>by simp only[List.map_cons,List.foldl_cons,Fg];exact ym f l _
end
theorem jF (b o:Nat) (sp:Option Nat) (len cap:Nat) (hi:0<len):aD CC 135 (.slice (some ⟨b,o,sp⟩) len cap) (.int .i64 0)=some (.pointer (some ⟨b,o,none⟩)):=by
 have:=Ez b o sp len cap 0 hi
 simpa using this
theorem wP (u:Value×Int):(fo u).length=2:=rfl
theorem Gk (h:Heap) (hk:HOK h) (p1:Option Addr) (n1 c1:Nat) (k1:Int) (p2:Option Addr) (n2 c2:Nat) (k2:Int):
  CW CC 130 [.agg ⟨[.slice p1 n1 c1, .int .i64 k1]⟩, .agg ⟨[.slice p2 n2 c2, .int .i64 k2]⟩] h fun r h'=>r= .bool (decide (k1<k2))/\ Fr h h':=by
 refine aw Tryz.f130 (by kernel_rfl) (by kernel_rfl) rfl rfl ?_
 simp only[Tryz.f130]
 simp(maxDischargeDepth:=30)only[AA,↓reduceIte,Q1,Q2,Q3,Q4,reduceCtorEq,Q5,Q6,Q7,XH,HO,cS,hk]
 exact⟨trivial,aI _ (Fr.refl hk)⟩
set_option maxRecDepth 10000 in
set_option maxHeartbeats 4000000 in
theorem Zm {h:Heap} (hk:HOK h) (hp:0<h.next) {out:Value} {us:List (Value×Int)} (q:LS h out us fo 2) (hu: ∀u,u∈us -> ∃p n c,u.1= .slice p n c) (hl:us.length<=5000):
  CW CC 129 [out, .func (.func 130) ⟨[]⟩ ⟨[]⟩] h fun r h'=>SL h.next h' r ((yY us).flatMap fo) 2 (yY us).length/\ Fr h h':=by
 obtain⟨po,co,rfl,hq⟩:=q.open
 refine aw Tryz.f129 (by kernel_rfl) (by kernel_rfl) rfl rfl ?_
 simp only[Tryz.f129]
 simp(maxDischargeDepth:=30)only[AA,↓reduceIte,Q1,Q2,Q3,Q4,reduceCtorEq,Q5,Q6,Q7,XH,fV,hk]
 refine dN [5,7,10,11,12,13,14,15,16,17,18,19,20,21,22,23,24,25,26,27,28,29,30,31,32,33,34,35,36,37,38,39,40,41] 10 us.length (fun i g h'=> ∃cur vo,cur=(us.take i).foldl cQ []/\ g 5=vo/\ SL h.next h' vo (cur.flatMap fo) 2 cur.length/\ Fr h h') (by simp only[aa,↓reduceIte]) ⟨[],_,rfl,by simp only[aa,Nat.reduceEqDiff,↓reduceIte],SL.nil _ _ _,Fr.refl hk⟩ ?_ ?_
 ·rintro i g h1 hi ag g10 ⟨cur,vo,ec,g5,so,f1⟩ ih
  obtain⟨x,hx⟩: ∃x,us[i]? =some x:=⟨_,List.getElem?_eq_getElem hi⟩
  have hxm:=List.mem_of_getElem? hx
  obtain⟨px,nx,cx,ex⟩:=hu x hxm
  obtain⟨xv,xk⟩:=x
  simp only at ex
  subst ex
  rcases hq with rfl|⟨b,o,sp,row,rfl,hr,hy⟩
  ·simp at hi
  have r1:=f1.row' hk hr
  have m1:=af f1.ok r1
  have ct:=(hy i _ hx).1
  simp only[fo]at ct
  have enext:(us.take (i+1)).foldl cQ []=cQ cur (.slice px nx cx,xk):=by rw[bI hx,List.foldl_append,ec];rfl
  have cl:cur.length<=i:=by rw[ec];have:=Im (us.take i) [];simp at this;omega
  have cm: ∀u,u∈cur -> ∃p n c,u.1= .slice p n c:=fun u hu'=>by
   rw[ec]at hu'
   rcases tq _ _ _ hu' with h|h
   ·simp at h
   ·exact hu u (List.mem_of_mem_take h)
  have rx:rowAt (h1.ex [.row [.slice px nx cx, .int .i64 xk] 0 true]) h1.next=some [.slice px nx cx, .int .i64 xk]:=aZ rfl
  have fx:=aI [.row [.slice px nx cx, .int .i64 xk] 0 true] (Fr.refl f1.ok)
  have nxx:(h1.ex [.row [.slice px nx cx, .int .i64 xk] 0 true]).next=h1.next+1:=by rw[bc];rfl
  simp(maxDischargeDepth:=30)only[AA,↓reduceIte,Q1,Q2,Q3,Q4,reduceCtorEq,Q5,Q6,Q7,XH,fV,ag.r,NE,g10,f1.ok,cX hi,hi,r1,m1,ct]
  generalize(h1.ex [.row [.slice px nx cx, .int .i64 xk] 0 true])=h2 at rx fx nxx⊢
  have so2:=so.fr f1.ok fx
  have mx:=af fx.ok rx
  have app: ∀{h3:Heap} {cur3:List (Value×Int)} {vo3:Value},Fr h h3 ->h2.next<=h3.next ->cur3.length<=i ->SL h.next h3 vo3 (cur3.flatMap fo) 2 cur3.length -> ∃h4,ck CC [135,135] vo3 (.slice (some ⟨h3.next,0,some 2⟩) 1 1) (h3.ex [.row [.slice px nx cx, .int .i64 xk] 2 true])=some (.slice (some ⟨h3.next+1,0,some 2⟩) (cur3.length+1) (cur3.length+1),h4)/\
    SL h.next h4 (.slice (some ⟨h3.next+1,0,some 2⟩) (cur3.length+1) (cur3.length+1)) ((cur3++[(Value.slice px nx cx,xk)]).flatMap fo) 2 (cur3++[(Value.slice px nx cx,xk)]).length/\ Fr h h4:=by
   intro h3 cur3 vo3 f3 hn hc3 so3
   have f6:=aI [.row [.slice px nx cx, .int .i64 xk] 2 true] (Fr.refl f3.ok)
   have n6:(h3.ex [.row [.slice px nx cx, .int .i64 xk] 2 true]).next=h3.next+1:=by rw[bc];rfl
   have nf:=f3.next
   obtain⟨hC,eC,qC,kC,nC,gC⟩:=dI (ts:=[]) DY (N:=h.next) f6.ok (by omega) (by omega) (so3.fr f3.ok f6) (x:= .slice (some ⟨h3.next,0,some 2⟩) 1 1) (m:=0) (new:=fo (.slice px nx cx,xk)) rfl (by
    show ae (rowAt _ h3.next) (fun cells=>aA cells 0 ((0+1)*2))=_
    rw[aZ rfl];rfl) rfl rfl (by omega)
   rw[n6]at eC qC nC gC
   simp only[aG,Nat.zero_add]at eC qC
   refine⟨hC,eC,?_,kC,by omega,fun j hj=> ?_⟩
   ·rw[List.length_append,List.flatMap_append];exact qC
   ·rw[gC j (by omega) (fun e=>by have:=(so3.blk_lt f3.ok e).1;omega),gz (by omega)];exact f3.get j hj
  have f02:=f1.trans fx
  have wN:IntKind.i64.wrap ((i:Int)+1)=((i+1:Nat):Int):=by rw[bG (by omega) (by omega)];omega
  cases cur with
  |nil=>
   obtain⟨pv,cv,rfl⟩:=so.value
   have z1:decide (((0:Nat):Int)>0)=false:=rfl
   have z2:(((0:Nat):Int)==0)=true:=rfl
   obtain⟨h4,e4,q4,f4⟩:=app f02 (Nat.le_refl _) (by simp) so2
   simp only[List.length_nil,Nat.zero_add]at e4 q4
   refine bR [(true,0),(true,1),(true,2),(true,3),(true,4),(true,5),(true,6),(true,7),(true,8),(true,9),(true,10)] (by kernel_rfl) ?_
   simp(maxDischargeDepth:=30)only[AA,↓reduceIte,Q1,Q2,Q3,Q4,reduceCtorEq,Q5,Q6,Q7,dk,XH,fV,ag.r,NE,g10,g5,fx.ok,rx,mx,aj,List.length_nil,z1]
   refine bR [(true,0),(true,1),(true,2),(true,3),(true,4),(true,5),(true,6),(true,7),(true,8),(true,9),(true,10),(true,11)] (by kernel_rfl) ?_
   simp(maxDischargeDepth:=30)only[AA,↓reduceIte,Q1,Q2,Q3,Q4,reduceCtorEq,Q5,Q6,Q7,dk,XH,fV,ag.r,NE,g10,g5,fx.ok,rx,mx,aj,List.length_nil,z1,z2,vV,aG,e4,f4.ok,wN]
   refine ih _ _ (by simp only[AG,Nat.reduceEqDiff,ag]) (by simp only[aa,↓reduceIte]) ⟨_, .slice (some ⟨h2.next+1,0,some 2⟩) 1 1,enext.symm,by simp only[aa,Nat.reduceEqDiff,↓reduceIte],?_,f4⟩
   exact q4
  |cons y l=>
   obtain⟨py,ny,cy,ey⟩:=cm y (by simp)
   obtain⟨yv,yk⟩:=y
   simp only at ey
   subst ey
   have lo:=SL.ls wP so2
   obtain⟨pv,cv,rfl,hv⟩:=lo.open
   rcases hv with hv|⟨bv,ov,spv,rv,rfl,hrv,hyv⟩
   ·simp at hv
   have cv0:=(hyv 0 _ rfl).1
   simp only[fo,Nat.zero_mul,Nat.add_zero]at cv0
   have mv:=af fx.ok hrv
   have z1:decide ((((Value.slice py ny cy,yk)::l).length:Int)>0)=true:=by simp only[List.length_cons];exact decide_eq_true (by omega)
   have z2:((((Value.slice py ny cy,yk)::l).length:Int)==0)=false:=by simp only[List.length_cons];simp;omega
   have z3:0<((Value.slice py ny cy,yk)::l).length:=by simp
   obtain⟨nn,hnn⟩: ∃nn,nn=((Value.slice py ny cy,yk)::l).length:=⟨_,rfl⟩
   rw[<-hnn]at z1 z2 z3 g5 so2 cl
   refine bR [(true,0),(true,1),(true,2),(true,3),(true,4),(true,5),(true,6),(true,7),(true,8),(true,9),(true,10)] (by kernel_rfl) ?_
   simp(maxDischargeDepth:=30)only[AA,↓reduceIte,Q1,Q2,Q3,Q4,reduceCtorEq,Q5,Q6,Q7,dk,XH,fV,ag.r,NE,g10,g5,aj,z1,z2,z3,<-hnn,fx.ok,rx,mx,hrv,mv,cv0,jF _ _ _ _ _ z3]
   refine bk (Gk h2 fx.ok px nx cx xk py ny cy yk) ?_
   rintro _ h3 ⟨rfl,f3⟩
   have n3:=f3.next
   have rx3:=f3.row' fx.ok rx
   have rv3:=f3.row' fx.ok hrv
   have mx3:=af f3.ok rx3
   have mv3:=af f3.ok rv3
   have f03:=f02.trans f3
   cases z:decide (xk<yk)with
   |true=>
    have zz:=of_decide_eq_true z
    have y1:decide (((0:Nat):Int)>0)=false:=rfl
    have y2:(((0:Nat):Int)==0)=true:=rfl
    obtain⟨h4,e4,q4,f4⟩:=app (cur3:=[]) f03 n3 (by simp) (SL.nil _ _ _)
    simp only[List.length_nil,Nat.zero_add]at e4 q4
    simp(maxDischargeDepth:=30)only[AA,↓reduceIte,Q1,Q2,Q3,Q4,reduceCtorEq,Q5,Q6,Q7,dk,XH,fV,ag.r,NE,g10,g5,aj,z1,z2,z3,<-hnn,f3.ok,rx3,mx3,rv3,mv3,cv0,jF _ _ _ _ _ z3]
    refine bR [(true,0),(true,1),(true,2),(true,3),(true,4),(true,5),(true,6),(true,7),(true,8),(true,9),(true,10),(true,11)] (by kernel_rfl) ?_
    simp(maxDischargeDepth:=30)only[AA,↓reduceIte,Q1,Q2,Q3,Q4,reduceCtorEq,Q5,Q6,Q7,dk,XH,fV,ag.r,NE,g10,g5,aj,z1,z2,z3,<-hnn,f3.ok,rx3,mx3,y1,y2,vV,aG,e4,f4.ok,wN]
    refine ih _ _ (by simp only[AG,Nat.reduceEqDiff,ag]) (by simp only[aa,↓reduceIte]) ⟨_, .slice (some ⟨h3.next+1,0,some 2⟩) 1 1,enext.symm,by simp only[aa,Nat.reduceEqDiff,↓reduceIte],?_,f4⟩
    simp only[cQ,zz,↓reduceIte]
    exact q4
   |false=>
    have zz:=of_decide_eq_false z
    simp(maxDischargeDepth:=30)only[AA,↓reduceIte,Q1,Q2,Q3,Q4,reduceCtorEq,Q5,Q6,Q7,dk,XH,fV,ag.r,NE,g10,g5,aj,z1,z2,z3,<-hnn,f3.ok,rx3,mx3,rv3,mv3,cv0,jF _ _ _ _ _ z3]
    refine bR [(true,0),(true,1),(true,2),(true,3),(true,4),(true,5),(true,6),(true,7),(true,8),(true,9),(true,10),(true,11)] (by kernel_rfl) ?_
    simp(maxDischargeDepth:=30)only[AA,↓reduceIte,Q1,Q2,Q3,Q4,reduceCtorEq,Q5,Q6,Q7,dk,XH,fV,ag.r,NE,g10,g5,aj,z1,z2,z3,<-hnn,f3.ok,rx3,mx3,rv3,mv3,cv0,jF _ _ _ _ _ z3]
    refine bk (Gk h3 f3.ok py ny cy yk px nx cx xk) ?_
    rintro _ h4 ⟨rfl,f4⟩
    have n4:=f4.next
    have rx4:=f4.row' f3.ok rx3
    have rv4:=f4.row' f3.ok rv3
    have mx4:=af f4.ok rx4
    have mv4:=af f4.ok rv4
    have f04:=f03.trans f4
    have so4:=so2.fr fx.ok (f3.trans f4)
    cases y:decide (yk<xk)with
    |true=>
     have yy:=of_decide_eq_true y
     simp(maxDischargeDepth:=30)only[AA,↓reduceIte,Q1,Q2,Q3,Q4,reduceCtorEq,Q5,Q6,Q7,dk,XH,fV,ag.r,NE,g10,g5,aj,z1,z2,z3,<-hnn,f4.ok,rx4,mx4,rv4,mv4,cv0,jF _ _ _ _ _ z3,wN]
     refine ih _ _ (by simp only[AG,Nat.reduceEqDiff,ag]) (by simp only[aa,↓reduceIte]) ⟨_, .slice (some ⟨bv,ov,spv⟩) nn cv,enext.symm,by simp only[aa,Nat.reduceEqDiff,↓reduceIte,g5],?_,f04⟩
     simp only[cQ,zz,yy,↓reduceIte]
     rw[hnn]at so4⊢
     exact so4
    |false=>
     have yy:=of_decide_eq_false y
     rw[hnn]at so4
     obtain⟨h5,e5,q5,f5⟩:=app f04 (by omega) (by rw[<-hnn];exact cl) so4
     rw[<-hnn]at e5 q5
     simp(maxDischargeDepth:=30)only[AA,↓reduceIte,Q1,Q2,Q3,Q4,reduceCtorEq,Q5,Q6,Q7,dk,XH,fV,ag.r,NE,g10,g5,aj,z1,z2,z3,<-hnn,f4.ok,rx4,mx4,rv4,mv4,cv0,jF _ _ _ _ _ z3,vV,aG,e5,f5.ok,wN]
     refine ih _ _ (by simp only[AG,Nat.reduceEqDiff,ag]) (by simp only[aa,↓reduceIte]) ⟨_, .slice (some ⟨h4.next+1,0,some 2⟩) (nn+1) (nn+1),enext.symm,by simp only[aa,Nat.reduceEqDiff,↓reduceIte],?_,f5⟩
     simp only[cQ,zz,yy,↓reduceIte]
     exact q5
 ·rintro g h1 ag g10 ⟨cur,vo,ec,g5,so,f1⟩
  obtain⟨pv,cv,rfl⟩:=so.value
  simp(maxDischargeDepth:=30)only[AA,↓reduceIte,Q1,Q2,Q3,Q4,reduceCtorEq,Q5,Q6,Q7,XH,fV,ag.r,NE,g10,g5,f1.ok,dL]
  rw[List.take_length]at ec
  subst ec
  exact⟨so,f1⟩
end Go.Am

namespace Go.Am
open Go Go.Proofs
def wG:=A2 @Sh<|A2 @HO<|A2 @Ez<|A2 @cM<|A2 @cS<|A2 @qZ<|A2 @A9<|A2 @AM<|A2 @mZ<|A2 @uU @Ak
def Bench.timed (B:Bench):List (List Int×Int):=yY ((gh B B.strokes.length []).map fun p=>(p,qh B p))
def Bench.bestP (B:Bench):List Int×Int×Int:=if B.ok=false then([],0,2)else match B.timed with
 |[]=>([],0,0)
 |x::_=>(x.1,x.2,0)
theorem K1 {B:Bench} {N:Nat} {h:Heap}: ∀{L:List (List Int)} {us:List (Value×Int)},LR (fun g u w=>D5 B N g u w) h us L ->
  ∃zs:List ((Value×List Int)×Int),us=zs.map (fun z=>(z.1.1,z.2))/\ (L.map fun p=>(p,qh B p))=zs.map (fun z=>(z.1.2,z.2))/\ ∀z,z∈zs ->gZ N h z.1.2 z.1.1
 |[],us,q=>by
  have:us=[]:=List.eq_nil_of_length_eq_zero q.1
  subst this
  exact⟨[],rfl,rfl,by simp⟩
 |w::L,us,q=>by
  cases us with
  |nil=>have:=q.1;simp at this
  |cons u us=>
   obtain⟨a,b⟩:=q.2 0 u w rfl rfl
   obtain⟨zs,e1,e2,e3⟩:=K1 (L:=L) (us:=us) ⟨by have:=q.1;simpa using this,fun i x y hx hy=>q.2 (i+1) x y (by simpa using hx) (by simpa using hy)⟩
   refine⟨((u.1,w),u.2)::zs,by rw[e1];rfl,by simp only[List.map_cons,e2,b],fun z hz=> ?_⟩
   rcases List.mem_cons.1 hz with rfl|hz
   ·exact a
   ·exact e3 z hz
theorem MY {B:Bench} (n:Nat):kq B n≠[]:=by
 unfold kq
 split
 ·simp
 ·rw[List.range_succ];simp
theorem Dn {B:Bench}: ∀(d:Nat) (now:List Int),gh B d now≠[]
 |0,_=>by simp[gh]
 |d+1,now=>by
  obtain⟨k,l,e⟩:=List.exists_cons_of_ne_nil (MY (B:=B) now.length)
  simp only[gh,e,List.flatMap_cons]
  intro hh
  exact Dn d _ (List.append_eq_nil_iff.1 hh).1
theorem WT {h:Heap} (hk:HOK h) (hp:0<h.next) {bo st:Value} {B:Bench} (q:IsBenchV h bo st B) (ok:B.ok=true):
  CW CC 47 [.agg ⟨[.int .i64 B.app,bo,st]⟩] h fun r h'=>(∃zs:List ((Value×List Int)×Int),SL h.next h' r ((zs.map fun z=>(z.1.1,z.2)).flatMap fo) 2 zs.length/\ B.timed=zs.map (fun z=>(z.1.2,z.2))/\ ∀z,z∈zs ->gZ h.next h' z.1.2 z.1.1)/\ Fr h h':=by
 refine TH hk hp q ok rfl ?_
 intro h' out us k' p' so lr f
 obtain⟨zs,e1,e2,e3⟩:=K1 lr
 have hl:us.length<=5000:=by
  have:=wY ok B.strokes.length []
  have h6:=(Bench.ok_at ok).2.1.2
  have:4 ^ B.strokes.length<=4 ^ 6:=Nat.pow_le_pow_right (by omega) h6
  have:(4:Nat) ^ 6=4096:=by decide
  rw[lr.1];omega
 have X:=Zm k' p' (SL.ls wP so) (fun u hu=>by
  obtain⟨i,hi⟩:=List.mem_iff_getElem?.1 hu
  obtain⟨w,_,hw,_⟩:=lr.get' hi
  obtain⟨p,c,e⟩:=SL.value hw
  exact⟨p,_,c,e⟩) hl
 obtain⟨r,h2,e,hs,f2⟩:=X
 refine⟨r,h2,e,f2,fun d hd hg=>⟨⟨yY zs,?_,?_,fun z hz=> ?_⟩,?_⟩⟩
 ·have em:yY us=(yY zs).map fun z=>(z.1.1,z.2):=by
   rw[e1];exact ym (fun z:Value×List Int=>z.1) zs []
  rw[em,List.length_map]at hs
  exact(hs.weak f.next).keep fun b hb=>Heap.get_set_ne _ _ (fun e=>by subst e;exact hs.not hg (by simp) hb)
 ·unfold Bench.timed
  rw[e2];exact ym (fun z:Value×List Int=>z.2) zs []
 ·have hm:z∈zs:=by
   rcases tq _ _ _ hz with h|h
   ·simp at h
   ·exact h
  have a:=e3 z hm
  have a2:gZ h.next h2 z.1.2 z.1.1:=SL.fr a k' f2
  exact SL.keep a2 fun b hb=>Heap.get_set_ne _ _ (fun e=>by subst e;exact SL.not a2 hg (by simp) hb)
 ·exact(f.trans f2).set hd (aF f2.ok hg) _
theorem Cp {h:Heap} (hk:HOK h) (hp:0<h.next) {bo st:Value} {B:Bench} (q:IsBenchV h bo st B) (sm:B.Small):
  CW CC 12 [.agg ⟨[.int .i64 B.app,bo,st]⟩] h fun r h'=>(∃v,r= .tuple ⟨[v, .int .i64 B.bestP.2.1, .int .i64 B.bestP.2.2]⟩/\ SL h.next h' v (B.bestP.1.flatMap aQ) 1 B.bestP.1.length)/\ Fr h h':=by
 obtain⟨pb,cb,ebo⟩:=q.bo.len
 obtain⟨ps,cs,est⟩:=q.len
 have q0:=q
 subst ebo est
 refine aw Tryz.f12 (by kernel_rfl) (by kernel_rfl) rfl rfl ?_
 simp only[Tryz.f12]
 have f1:=aI [.row [.int .i64 B.app, .slice pb B.boards.length cb, .slice ps B.strokes.length cs] 0 true] (Fr.refl hk)
 have r1:rowAt (h.ex [.row [.int .i64 B.app, .slice pb B.boards.length cb, .slice ps B.strokes.length cs] 0 true]) h.next=some [.int .i64 B.app, .slice pb B.boards.length cb, .slice ps B.strokes.length cs]:=aZ rfl
 simp(maxDischargeDepth:=30)only[AA,↓reduceIte,Q1,Q2,Q3,Q4,reduceCtorEq,Q5,Q6,Q7,XH,wG,hk]
 generalize(h.ex [.row [.int .i64 B.app, .slice pb B.boards.length cb, .slice ps B.strokes.length cs] 0 true])=h1 at f1 r1⊢
 refine aC (Dz f1.ok (q0.fr hk f1) sm) ?_
 rintro _ h2 ⟨rfl,f2⟩
 have f02:=f1.trans f2
 have n02:=f02.next
 have r2:=f2.row' f1.ok r1
 unfold Bench.bestP
 cases ok:B.ok with
 |false=>
  simp(maxDischargeDepth:=30)only[AA,↓reduceIte,Q1,Q2,Q3,Q4,reduceCtorEq,Q5,Q6,Q7,XH,wG,f2.ok]
  exact⟨⟨_,rfl,SL.nil _ _ _⟩,f02⟩
 |true=>
  simp(maxDischargeDepth:=30)only[AA,↓reduceIte,Q1,Q2,Q3,Q4,reduceCtorEq,Q5,Q6,Q7,XH,wG,f2.ok,r2]
  refine aC (WT f2.ok (by omega) (q0.fr hk f02) ok) ?_
  rintro r h3 ⟨⟨zs,so,e,hz⟩,f3⟩
  have hne:B.timed≠[]:=by
   unfold Bench.timed yY
   exact Il _ _ (.inr (by simpa using Dn _ _))
  cases zs with
  |nil=>rw[e]at hne;exact absurd rfl hne
  |cons z zs=>
  rw[e]
  have iz:=hz z (by simp)
  obtain⟨⟨zv,zp⟩,zk⟩:=z
  obtain⟨pz,cz,hzv⟩:=SL.value iz
  simp only at iz hzv
  subst hzv
  have so':SL h2.next h3 r (((((Value.slice pz zp.length cz,zp),zk)::zs).map fun z=>(z.1.1,z.2)).flatMap fo) 2 ((((Value.slice pz zp.length cz,zp),zk)::zs).map fun z=>(z.1.1,z.2)).length:=by rw[List.length_map];exact so
  obtain⟨pv,cv,rfl,hv⟩:=(SL.ls wP so').open
  rcases hv with hv|⟨bv,ov,spv,rv,rfl,hrv,hyv⟩
  ·simp at hv
  have cv0:=(hyv 0 _ rfl).2 0 (by omega)
  have cv1:=(hyv 0 _ rfl).2 1 (by omega)
  simp only[fo,Nat.zero_mul,Nat.add_zero,List.getElem?_cons_zero,List.getElem?_cons_succ]at cv0 cv1
  have mv:=af f3.ok hrv
  have z3:0<((((Value.slice pz zp.length cz,zp),zk)::zs).map fun z=>(z.1.1,z.2)).length:=by simp
  generalize((((Value.slice pz zp.length cz,zp),zk)::zs).map fun z=>(z.1.1,z.2)).length=nn at z3
  simp(maxDischargeDepth:=30)only[AA,↓reduceIte,Q1,Q2,Q3,Q4,reduceCtorEq,Q5,Q6,Q7,XH,wG,f3.ok]
  refine bR [(true,0),(true,1),(true,2),(true,3),(true,4),(true,5),(true,6),(true,7),(true,8),(true,9),(true,10)] (by kernel_rfl) ?_
  simp(maxDischargeDepth:=30)only[AA,↓reduceIte,Q1,Q2,Q3,Q4,reduceCtorEq,Q5,Q6,Q7,dk,XH,wG,f3.ok,hrv,mv,cv0,cv1,jF _ _ _ _ _ z3]
  exact⟨⟨_,rfl,iz.weak n02⟩,f02.trans f3⟩
theorem Ib {h:Heap} (hk:HOK h) {bo st:Value} {B:Bench} (q:IsBenchV h bo st B) (sm:B.Small):
  CW CC 84 [.agg ⟨[.int .i64 B.app,bo,st]⟩] h fun r h'=>r= .int .i64 (if B.ok=true then 0 else 2)/\ Fr h h':=by
 obtain⟨pb,cb,ebo⟩:=q.bo.len
 obtain⟨ps,cs,est⟩:=q.len
 have q0:=q
 subst ebo est
 refine aw Tryz.f84 (by kernel_rfl) (by kernel_rfl) rfl rfl ?_
 simp only[Tryz.f84]
 have f1:=aI [.row [.int .i64 B.app, .slice pb B.boards.length cb, .slice ps B.strokes.length cs] 0 true] (Fr.refl hk)
 have r1:rowAt (h.ex [.row [.int .i64 B.app, .slice pb B.boards.length cb, .slice ps B.strokes.length cs] 0 true]) h.next=some [.int .i64 B.app, .slice pb B.boards.length cb, .slice ps B.strokes.length cs]:=aZ rfl
 simp(maxDischargeDepth:=30)only[AA,↓reduceIte,Q1,Q2,Q3,Q4,reduceCtorEq,Q5,Q6,Q7,XH,qZ,hk]
 generalize(h.ex [.row [.int .i64 B.app, .slice pb B.boards.length cb, .slice ps B.strokes.length cs] 0 true])=h1 at f1 r1⊢
 refine aC (Dz f1.ok (q0.fr hk f1) sm) ?_
 rintro _ h2 ⟨rfl,f2⟩
 have f02:=f1.trans f2
 cases ok:B.ok with
 |false=>
  simp(maxDischargeDepth:=30)only[AA,↓reduceIte,Q1,Q2,Q3,Q4,reduceCtorEq,Q5,Q6,Q7,XH,qZ,f2.ok]
  exact⟨trivial,f02⟩
 |true=>
  simp(maxDischargeDepth:=30)only[AA,↓reduceIte,Q1,Q2,Q3,Q4,reduceCtorEq,Q5,Q6,Q7,XH,qZ,f2.ok]
  exact⟨trivial,f02⟩
end Go.Am
