/- Parts V62, V63, V64 of the abstract machine over this program, joined: what each part says stands at its head. -/
import Derived.Test.YtlflfbnnjlkkcaaGreatJV60
set_option linter.unusedSimpArgs false
set_option linter.unusedVariables false
set_option linter.defProp false
open Nat renaming reduceLT→Q1,reduceEqDiff→Q2,reduceAdd→Q3,reduceMul→Q4,reduceLeDiff→Q5
open Int renaming reduceNe→Q6,reduceEq→Q7
namespace Go.Am
open Go Go.Proofs
def iL:=A2 @eF<|A2 @HQ<|A2 @vL<|A2 @BI<|A2 @BH<|A2 @BG<|A2 @BF<|A2 @BE<|A2 @BD<|A2 @cG<|A2 @YN<|A2 @Re<|A2 @cM<|A2 @By<|A2 @Jy<|A2 @cS<|A2 @cA<|A2 @bJ<|A2 @A7<|A2 @jY<|A2 @aV<|A2 @ba<|A2 @fp<|A2 @dQ<|A2 @bm<|A2 @Xu<|A2 @As<|A2 @Ar<|A2 @Aq<|A2 @Ap<|A2 @Ao<|A2 @An<|A2 @mR<|A2 @bh @D6
def mf:=A2 @HQ<|A2 @HP<|A2 @vL<|A2 @BI<|A2 @BH<|A2 @BG<|A2 @BF<|A2 @BE<|A2 @BD<|A2 @cS<|A2 @Ju<|A2 @G4<|A2 @A7<|A2 @jY<|A2 @GB<|A2 @fp<|A2 @dQ<|A2 @D9<|A2 @As<|A2 @Ar<|A2 @Aq<|A2 @Ap<|A2 @Ao<|A2 @An @mR
def dj (l:List Bool):List Value:=l.map .bool
theorem kZ (l:List Bool):(dj l).length=l.length:=by simp[dj]
theorem TE {l:List Bool} {i:Nat} (hi:i<l.length):(dj l)[i]? =some (.bool (l.getD i false)):=by
 unfold dj
 rw[List.getElem?_map,List.getD_eq_getElem?_getD,List.getElem?_eq_getElem hi];rfl
theorem NC (l:List Bool) (i:Nat):(dj l).set i (.bool true)=dj (l.set i true):=by simp[dj,List.map_set]
theorem tm (l:List Bool):bF (dj l)=true:=yj l
theorem uG {l:List Bool} (h:l.length=6):aA (dj l) 0 6=some (dj l):=by
 have:=kZ l
 rw[eP (by omega),List.drop_zero,List.take_of_length_le (by omega)]
def uA (M tk:List Bool) (n i:Nat):Bool:= !(LM M i n&& !(tk.getD i false))
def DF (N:Nat) (M tk:List Bool) (n:Nat):Bool:= !(tk.getD n false)&&(List.range N).all (uA M tk n)
set_option maxRecDepth 10000 in
theorem YW {h:Heap} (hk:HOK h) {N:Nat} {v:Value} {M tk:List Bool} (hv: ∃p a c,v= .slice p a c) (hN:N<=6) (hM:M.length=36) (ht:tk.length=6) {n:Nat} (hn:n<6):
  CW CC 123 [.agg ⟨dc (N:Int) v M⟩, .agg ⟨dj tk⟩, .int .i64 (n:Int)] h fun r h'=>r= .bool (DF N M tk n)/\ Fr h h':=by
 obtain⟨pv,av,cv,rfl⟩:=hv
 refine aw Tryz.f123 (by kernel_rfl) (by kernel_rfl) rfl rfl ?_
 simp only[Tryz.f123]
 have f1:=aI [.row (dc (N:Int) (.slice pv av cv) M) 0 true, .row (dj tk) 0 true] (Fr.refl hk)
 have x1:rowAt (h.ex [.row (dc (N:Int) (.slice pv av cv) M) 0 true, .row (dj tk) 0 true]) h.next=some (dc (N:Int) (.slice pv av cv) M):=aZ rfl
 have x2:rowAt (h.ex [.row (dc (N:Int) (.slice pv av cv) M) 0 true, .row (dj tk) 0 true]) (h.next+1)=some (dj tk):=by rw[jy rfl (by simp)];rfl
 have iT:=fun {i:Nat} (hi:i<6)=>yO (h.next+1) 0 none hi
 have tN: ∀{i:Nat},i<6 ->(dj tk)[i]? =some (.bool (tk.getD i false)):=fun {i} hi=>TE (by omega)
 have bl:=kZ tk
 have c0:(dc (N:Int) (.slice pv av cv) M)[0]? =some (.int .i64 (N:Int)):=rfl
 simp(maxDischargeDepth:=30)only[AA,↓reduceIte,Q1,Q2,Q3,Q4,reduceCtorEq,Q5,Q6,Q7,XH,mf,hk,zt (show jx (.slice pv av cv)=true from rfl),tm,oR hM,bl,ht]
 generalize(h.ex [.row (dc (N:Int) (.slice pv av cv) M) 0 true, .row (dj tk) 0 true])=H at f1 x1 x2⊢
 have n1:=af f1.ok x1
 have n2:=af f1.ok x2
 have tn:=tN hn
 have i0:=iT hn
 rw[Nat.mul_one,Nat.zero_add]at i0
 unfold DF
 cases q1:tk.getD n false with
 |true=>
  rw[q1]at tn
  simp(maxDischargeDepth:=30)only[AA,↓reduceIte,Q1,Q2,Q3,Q4,reduceCtorEq,Q5,Q6,Q7,XH,mf,f1.ok,x2,n2,i0,tn]
  exact⟨by simp,f1⟩
 |false=>
 rw[q1]at tn
 simp(maxDischargeDepth:=30)only[AA,↓reduceIte,Q1,Q2,Q3,Q4,reduceCtorEq,Q5,Q6,Q7,XH,mf,f1.ok,x1,x2,n1,n2,i0,tn,c0]
 refine dN [6,7,14,15,16,17,18,19,20,21,22,23,24,25,26,27,28,29] 14 N (fun i g h'=>h'=H/\ ∀j,j<i ->uA M tk n j=true) (by simp only[aa,↓reduceIte]) ⟨rfl,fun j hj=>by omega⟩ ?_ ?_
 ·rintro i g _ hi ag g14 ⟨rfl,ha⟩ ih
  have iA:=Hy h.next 2 none (show i<6 by omega)
  have iC:=yO h.next (2+i*6) none hn
  rw[Nat.mul_one]at iC
  have tA:=Ed (n:=(N:Int)) (v:= .slice pv av cv) hM (show i<6 by omega) hn
  have iB:=iT (show i<6 by omega)
  rw[Nat.mul_one,Nat.zero_add]at iB
  have tB:=tN (show i<6 by omega)
  cases q2:LM M i n with
  |false=>
   rw[q2]at tA
   simp(maxDischargeDepth:=30)only[AA,↓reduceIte,Q1,Q2,Q3,Q4,reduceCtorEq,Q5,Q6,Q7,XH,mf,ag.r,NE,g14,f1.ok,cX hi,x1,n1,iA,iC,tA,bp hi (by omega)]
   refine ih _ _ (by simp only[AG,Nat.reduceEqDiff,ag]) (by simp only[aa,↓reduceIte]) ⟨rfl,fun j hj=> ?_⟩
   by_cases hji:j<i
   ·exact ha j hji
   ·obtain rfl:j=i:=by omega
    unfold uA;rw[q2];rfl
  |true=>
   rw[q2]at tA
   cases q3:tk.getD i false with
   |true=>
    rw[q3]at tB
    simp(maxDischargeDepth:=30)only[AA,↓reduceIte,Q1,Q2,Q3,Q4,reduceCtorEq,Q5,Q6,Q7,XH,mf,ag.r,NE,g14,f1.ok,cX hi,x1,x2,n1,n2,iA,iB,iC,tA,tB,bp hi (by omega)]
    refine ih _ _ (by simp only[AG,Nat.reduceEqDiff,ag]) (by simp only[aa,↓reduceIte]) ⟨rfl,fun j hj=> ?_⟩
    by_cases hji:j<i
    ·exact ha j hji
    ·obtain rfl:j=i:=by omega
     unfold uA;rw[q3];simp
   |false=>
    rw[q3]at tB
    simp(maxDischargeDepth:=30)only[AA,↓reduceIte,Q1,Q2,Q3,Q4,reduceCtorEq,Q5,Q6,Q7,XH,mf,ag.r,NE,g14,f1.ok,cX hi,x1,x2,n1,n2,iA,iB,iC,tA,tB]
    refine⟨?_,f1⟩
    have:(List.range N).all (uA M tk n)=false:=by
     rw[List.all_eq_false]
     exact⟨i,List.mem_range.2 hi,by unfold uA;rw[q2,q3];simp⟩
    rw[this];rfl
 ·rintro g _ ag g14 ⟨rfl,ha⟩
  simp(maxDischargeDepth:=30)only[AA,↓reduceIte,Q1,Q2,Q3,Q4,reduceCtorEq,Q5,Q6,Q7,XH,mf,ag.r,NE,g14,f1.ok,dL]
  refine⟨?_,f1⟩
  have:(List.range N).all (uA M tk n)=true:=by
   rw[List.all_eq_true]
   exact fun j hj=>ha j (List.mem_range.1 hj)
  rw[this];rfl
def qX (N:Nat) (M:List Bool):Nat ->List Bool ->List Int ->List (List Int)
 |0,_,now=>[now]
 |d+1,tk,now=>(List.range N).flatMap fun n=>if DF N M tk n=true then qX N M d (tk.set n true) (now++[(n:Int)])else[]
set_option maxRecDepth 10000 in
set_option maxHeartbeats 4000000 in
theorem Mz {N:Nat} {sv:Value} {M:List Bool} (hsv: ∃p a c,sv= .slice p a c) (hN:N<=6) (hM:M.length=36) {h0:Heap} {pT:Nat} {S:List (List Int) ->Heap ->Prop} {l MX:Nat} {g:GH (List Int)} (E:Eats gZ IE g.J S l h0 MX)
  (hk1:HOK g.h1) (rT:rowAt g.h1 pT=some (dc (N:Int) sv M)) (nF: ¬g.F1 pT) (f0:Fr h0 g.h1) (hF: ∀i,g.F1 i ->h0.next<=i) (hd:g.pN≠g.pY/\ g.pN≠g.pF) (hY:g.vY= .func (.yield l) ⟨[]⟩ ⟨[]⟩)
  (hVF:g.vF= .func (.func 122) ⟨[]⟩ ⟨[.pointer (some ⟨g.pN,0,none⟩), .pointer (some ⟨pT,0,none⟩), .pointer (some ⟨g.pY,0,none⟩), .pointer (some ⟨g.pF,0,none⟩)]⟩):
  ∀(d:Nat) {F:Nat ->Prop} {D:List (List Int)} {now:List Int} {tk:List Bool} {h:Heap},GQ aQ 1 g F D now h ->now.length+d=N ->tk.length=6 ->D.length+(qX N M d tk now).length<=MX ->
   CW CC 122 [.agg ⟨dj tk⟩, .pointer (some ⟨g.pN,0,none⟩), .pointer (some ⟨pT,0,none⟩), .pointer (some ⟨g.pY,0,none⟩), .pointer (some ⟨g.pF,0,none⟩)] h fun r h'=>Gr g.F1 g.h1 h'/\ h.next<=h'.next/\ Kq 1 g F h h'/\
    ((r= .bool true/\ ∃F',GQ aQ 1 g F' (D++qX N M d tk now) now h'/\ ∀i,F' i ->F i \/h.next<=i) \/(r= .bool false/\ ∃l1 l2,qX N M d tk now=l1++l2/\ S (D++l1) h')):=by
 have stay:=E.stay
 have low: ∀F D h,g.J F D h -> ∀i,F i ->i<h.next:=fun F D h j i hi=>(E.low F D h j i hi).2
 obtain⟨pv,av,cv,rfl⟩:=hsv
 have cN:(dc (N:Int) (.slice pv av cv) M)[0]? =some (.int .i64 (N:Int)):=rfl
 intro d
 induction d with
 |zero=>
  intro F D now tk h q hnd ht hMX
  have hk:=q.base.ok
  have rT':=q.base.row' hk1 nF rT
  obtain⟨v,e1,e2,e3⟩:=q.ex
  obtain⟨p,c,rfl,hL⟩:=e2.ls aP
  have rN:rowAt h g.pN=some [.slice p now.length c]:=by unfold rowAt;rw[e1];rfl
  have rY:rowAt h g.pY=some [.func (.yield l) ⟨[]⟩ ⟨[]⟩]:=by unfold rowAt;rw[q.rY,hY];rfl
  have nN:=af hk rN
  have nY:=af hk rY
  have nT:=af hk rT'
  have eb:((now.length:Int)==(N:Int))=true:=by simp;omega
  refine aw Tryz.f122 (by kernel_rfl) (by kernel_rfl) rfl rfl ?_
  simp only[Tryz.f122]
  have f1:=aI [.row (dj tk) 0 true] (Fr.refl hk)
  simp(maxDischargeDepth:=30)only[AA,↓reduceIte,Q1,Q2,Q3,Q4,reduceCtorEq,Q5,Q6,Q7,XH,iL,hk,tm,kZ,ht,rN,rT',nN,nT,cN,eb]
  generalize(h.ex [.row (dj tk) 0 true])=h1 at f1⊢
  have rN1:=f1.row' hk rN
  have rY1:=f1.row' hk rY
  refine bR [(true,0),(true,1),(true,2),(false,0),(true,3),(true,4)] (by kernel_rfl) ?_
  simp(maxDischargeDepth:=30)only[AA,↓reduceIte,Q1,Q2,Q3,Q4,reduceCtorEq,Q5,Q6,Q7,dk,XH,iL,f1.ok,rN1,rY1]
  refine bk (clone_ints.clone aP f1.ok (Nat.lt_of_lt_of_le q.pos f1.next) (hL.fr hk f1) (fun x _=>dW x) (by omega)) ?_
  rintro cv' h2 ⟨hcv,_,fr2⟩
  have f2:=f1.trans fr2
  have rY2:=fr2.row' f1.ok rY1
  have sy:=mi l
  obtain⟨b,h3,eY,base3,gr3,hb⟩:=q.yield E f2 f0 hF (hcv.low (by have:=f0.next;have:=q.base.next;have:=f1.next;omega)) (fun i hi=>by have:=hcv.blk_lt f2.ok hi;have:=f1.next;omega) (by simp[qX]at hMX;omega)
  simp(maxDischargeDepth:=30)only[AA,↓reduceIte,Q1,Q2,Q3,Q4,reduceCtorEq,Q5,Q6,Q7,dk,XH,iL,f2.ok,rY2,sy,zQ,eY]
  refine⟨base3,Nat.le_trans f2.next gr3.next,(Kq.fr f2).trans f2.next (Kq.gr gr3) (fun i hi=> .inl hi),?_⟩
  rcases hb with⟨rfl,F',q',hs⟩|⟨rfl,hs⟩
  ·exact .inl ⟨rfl,F',q',hs⟩
  ·exact .inr ⟨rfl,[now],[],rfl,hs⟩
 |succ d ihd=>
  intro F D now tk h q hnd ht hMX
  have hk:=q.base.ok
  have rT':=q.base.row' hk1 nF rT
  obtain⟨v,e1,e2,e3⟩:=q.ex
  obtain⟨p,c,rfl,hL⟩:=e2.ls aP
  have rN:rowAt h g.pN=some [.slice p now.length c]:=by unfold rowAt;rw[e1];rfl
  have nN:=af hk rN
  have nT:=af hk rT'
  have eb:((now.length:Int)==(N:Int))=false:=by simp;omega
  refine aw Tryz.f122 (by kernel_rfl) (by kernel_rfl) rfl rfl ?_
  simp only[Tryz.f122]
  have f1:=aI [.row (dj tk) 0 true] (Fr.refl hk)
  have g1:(h.ex [.row (dj tk) 0 true]).get h.next=some (.row (dj tk) 0 true):=dG rfl
  have n1:(h.ex [.row (dj tk) 0 true]).next=h.next+1:=by rw[bc];rfl
  simp(maxDischargeDepth:=30)only[AA,↓reduceIte,Q1,Q2,Q3,Q4,reduceCtorEq,Q5,Q6,Q7,XH,iL,hk,tm,kZ,ht,rN,rT',nN,nT,cN,eb]
  generalize(h.ex [.row (dj tk) 0 true])=h1 at f1 g1 n1⊢
  have rT1:=f1.row' hk rT'
  have nT1:=af f1.ok rT1
  obtain⟨B,hB,hBe⟩: ∃B:Nat ->List (List Int),(∀n,B n=if DF N M tk n=true then qX N M d (tk.set n true) (now++[(n:Int)])else[])/\ qX N M (d+1) tk now=(List.range N).flatMap B:=⟨_,fun _=>rfl,rfl⟩
  rw[hBe]at hMX⊢
  have fl: ∀i,F i ->i<h.next:=low _ _ _ q.j
  refine dN [6,7,8,22,23,24,25,26,27,28,29,30,31,32,33,34,35,36,37,38,39,40,41,42,43,44,45,46] 22 N (fun i gg h'=> ∃F':Nat ->Prop,GQ aQ 1 g F' (D++(List.range i).flatMap B) now h'/\ (∀i,F' i ->F i \/h1.next<=i)/\ h'.get h.next=some (.row (dj tk) 0 true)/\ h1.next<=h'.next/\ Kq 1 g F h1 h')
   (by simp only[aa,↓reduceIte]) ⟨F,by simpa using q.fr stay low f1,fun i hi=> .inl hi,g1,Nat.le_refl _,Kq.refl⟩ ?_ ?_
  ·rintro i gg h' hi ag g22 ⟨F',q',hs',gn,hle,kp⟩ ih
   have k':=q'.base.ok
   have rT2:=q'.base.row' hk1 nF rT
   have nT2:=af k' rT2
   have rn:rowAt h' h.next=some (dj tk):=by unfold rowAt;rw[gn];rfl
   have nn:=af k' rn
   simp(maxDischargeDepth:=30)only[AA,↓reduceIte,Q1,Q2,Q3,Q4,reduceCtorEq,Q5,Q6,Q7,XH,iL,ag.r,NE,g22,k',cX hi,rT2,nT2,rn,nn,Ga hM,uG ht]
   refine aC (YW k' ⟨_,_,_,rfl⟩ hN hM ht (show i<6 by omega)) ?_
   rintro _ h2 ⟨rfl,f2⟩
   have q2:=q'.fr stay low f2
   have k2:=f2.ok
   have gn2:=f2.get' k' gn
   have rn2:rowAt h2 h.next=some (dj tk):=by unfold rowAt;rw[gn2];rfl
   have nn2:=af k2 rn2
   have hr:(List.range (i+1)).flatMap B=(List.range i).flatMap B++B i:=by rw[List.range_succ,List.flatMap_append];simp
   cases hg:DF N M tk i with
   |false=>
    have hBy:B i=[]:=by rw[hB,hg];rfl
    simp(maxDischargeDepth:=30)only[AA,↓reduceIte,Q1,Q2,Q3,Q4,reduceCtorEq,Q5,Q6,Q7,XH,iL,ag.r,NE,g22,k2,bp hi (by omega)]
    refine ih _ _ (by simp only[AG,Nat.reduceEqDiff,ag]) (by simp only[aa,↓reduceIte]) ⟨F',by rw[hr,hBy,List.append_nil];exact q2,hs',gn2,Nat.le_trans hle f2.next,kp.trans hle (Kq.fr f2) hs'⟩
   |true=>
    have hBy:B i=qX N M d (tk.set i true) (now++[(i:Int)]):=by rw[hB,hg];rfl
    have iI:=yO h2.next 0 none (show i<6 by omega)
    rw[Nat.mul_one,Nat.zero_add]at iI
    have wI:fm (dj tk) i [.bool true]=some (dj (tk.set i true)):=by rw[mS _ _ _ (by rw[kZ];omega),NC]
    have f4:=aI [.row (dj (tk.set i true)) 0 true] (Fr.refl k2)
    have g4:(h2.ex [.row (dj (tk.set i true)) 0 true]).get h2.next=some (.row (dj (tk.set i true)) 0 true):=dG rfl
    have n4:(h2.ex [.row (dj (tk.set i true)) 0 true]).next=h2.next+1:=by rw[bc];rfl
    have q4:=q2.fr stay low f4
    obtain⟨v2,e2',p2,_⟩:=q2.ex
    obtain⟨p5,c5,rfl,_⟩:=p2.ls aP
    have e4':=f4.get' k2 e2'
    have rN2:rowAt h2 g.pN=some [.slice p5 now.length c5]:=by unfold rowAt;rw[e2'];rfl
    have nN2:=af k2 rN2
    have t6:(tk.set i true).length=6:=by simp[ht]
    obtain⟨h3,ea,e3n,k3,n3,kp3,q3⟩:=q4.push stay low aP dW (by omega) kr hd e4' (i:Int) (by omega)
    rw[Tn,n4]at ea
    rw[n4]at n3 kp3 q3
    have ea2:ck CC [22,22] (.slice p5 now.length c5) (.slice (some ⟨h2.next+1,0,some 1⟩) 1 1) (h2.ex [.row (dj (tk.set i true)) 0 true, .row [.int .i64 (i:Int)] 1 true])=some (.slice (some ⟨h2.next+1+1,0,some 1⟩) (now.length+1) (now.length+1),h3):=ea
    have rF3:rowAt (h3.set g.pN (.row [.slice (some ⟨h2.next+1+1,0,some 1⟩) (now.length+1) (now.length+1)] 0 true)) g.pF=some [g.vF]:=by unfold rowAt;rw[q3.rF];rfl
    have ne4:h2.next≠g.pN:=by omega
    have gt3:(h3.set g.pN (.row [.slice (some ⟨h2.next+1+1,0,some 1⟩) (now.length+1) (now.length+1)] 0 true)).get h2.next=some (.row (dj (tk.set i true)) 0 true):=by
     rw[kp3 h2.next (by rw[n4];omega) (fun hf=>by have:=low _ _ _ q2.j _ hf;omega) ne4 (fun r=>by rw[g4];simp)];exact g4
    have rt3:rowAt (h3.set g.pN (.row [.slice (some ⟨h2.next+1+1,0,some 1⟩) (now.length+1) (now.length+1)] 0 true)) h2.next=some (dj (tk.set i true)):=by unfold rowAt;rw[gt3];rfl
    have nt3:=aF q3.base.ok gt3
    have nF3:=aF q3.base.ok q3.rF
    have nN3:=aF k3 e3n
    simp(maxDischargeDepth:=30)only[AA,↓reduceIte,Q1,Q2,Q3,Q4,reduceCtorEq,Q5,Q6,Q7,XH,iL,ag.r,NE,g22,k2,k3,rn2,nn2,uG ht,uG t6,tm,kZ,ht,iI,wI,rN2,nN2,eF (dE _ _),aG,ea2,e3n,rF3,rt3,nt3,nF3,nN3,hVF,ff]
    have hlen:((List.range i).flatMap B).length+(B i).length<=((List.range N).flatMap B).length:=by
     conv=>rhs;rw[<-List.take_append_drop (i+1) (List.range N)]
     rw[show(List.range N).take (i+1)=List.range (i+1)by rw[List.take_range];congr 1;omega,List.flatMap_append,List.length_append,hr,List.length_append]
     omega
    have kpA:Kq 1 g F' h' (h3.set g.pN (.row [.slice (some ⟨h2.next+1+1,0,some 1⟩) (now.length+1) (now.length+1)] 0 true)):=(Kq.fr (f2.trans f4)).trans (f2.trans f4).next kp3 (fun i hi=> .inl hi)
    have leA:h'.next<=(h3.set g.pN (.row [.slice (some ⟨h2.next+1+1,0,some 1⟩) (now.length+1) (now.length+1)] 0 true)).next:=by rw[Heap.next_set];have:=f2.next;omega
    refine aC (ihd q3 (by simp;omega) t6 (by rw[<-hBy];simp only[List.length_append];omega)) ?_
    rintro R h5 ⟨base5,n5,kp5,hR⟩
    have kp5':Kq 1 g F' h' h5:=kpA.trans leA kp5 (fun i hi=> .inl hi)
    have le5:h'.next<=h5.next:=Nat.le_trans leA n5
    rcases hR with⟨rfl,F5,q5,hs5⟩|⟨rfl,l1,l2,el,hS⟩
    ·obtain⟨v5,e15,p15,nf5⟩:=q5.ex
     obtain⟨v6,esl,p16,bk6⟩:=De bm ba p15
     obtain⟨p6,c6,rfl,_⟩:=p15.ls aP
     obtain⟨p7,c7,rfl,_⟩:=p16.ls aP
     have rN5:rowAt h5 g.pN=some [.slice p6 (now++[(i:Int)]).length c6]:=by unfold rowAt;rw[e15];rfl
     have nN5:=af base5.ok rN5
     have w1:IntKind.i64.wrap (((now++[(i:Int)]).length:Int) -1)=(now.length:Int):=by
      have hl2:(now++[(i:Int)]).length=now.length+1:=by simp
      rw[hl2,bG (by omega) (by omega)];omega
     have hFn: ¬F' h.next:=fun hf=>(hs' _ hf).elim (fun a=>by have:=fl _ a;omega) (fun a=>by omega)
     have npN:h.next≠g.pN:=by have:=aF hk e1;omega
     have ln:h.next<h'.next:=aF k' gn
     have gn5:h5.get h.next=some (.row (dj tk) 0 true):=by rw[kp5' _ ln hFn npN (fun r=>by rw[gn];simp)];exact gn
     have q6:=q5.put stay hd p16 (by omega) (fun b hb=>nf5 b (by rw[<-bk6];exact hb))
     simp(maxDischargeDepth:=30)only[AA,↓reduceIte,Q1,Q2,Q3,Q4,reduceCtorEq,Q5,Q6,Q7,XH,iL,ag.r,NE,g22,base5.ok,rN5,nN5,e15,w1,Option.map_some,Option.map_none,esl,bp hi (by omega)]
     refine ih _ _ (by simp only[AG,Nat.reduceEqDiff,ag]) (by simp only[aa,↓reduceIte]) ⟨F5,?_,fun j hj=> ?_,?_,?_,?_⟩
     ·rw[hr,hBy,<-List.append_assoc];exact q6
     ·rcases hs5 j hj with a|a
      ·exact hs' j a
      ·right;omega
     ·rw[Heap.get_set_ne _ _ npN];exact gn5
     ·rw[Heap.next_set];omega
     ·exact kp.trans hle (kp5'.trans le5 (Kq.set _) (fun i hi=> .inl hi)) hs'
    ·simp(maxDischargeDepth:=30)only[AA,↓reduceIte,Q1,Q2,Q3,Q4,reduceCtorEq,Q5,Q6,Q7,XH,iL,ag.r,NE,g22,base5.ok]
     refine⟨base5,by have:=f1.next;omega,(Kq.fr f1).trans f1.next (kp.trans hle kp5' hs') (fun i hi=> .inl hi), .inr ⟨trivial,(List.range i).flatMap B++l1,l2++((List.range N).drop (i+1)).flatMap B,?_,by rw[<-List.append_assoc];exact hS⟩⟩
     conv=>lhs;rw[<-List.take_append_drop (i+1) (List.range N)]
     rw[show(List.range N).take (i+1)=List.range (i+1)by rw[List.take_range];congr 1;omega,List.flatMap_append,hr,hBy,el]
     simp[List.append_assoc]
  ·rintro gg h' ag g22 ⟨F',q',hs',gn,hle,kp⟩
   have k':=q'.base.ok
   simp(maxDischargeDepth:=30)only[AA,↓reduceIte,Q1,Q2,Q3,Q4,reduceCtorEq,Q5,Q6,Q7,XH,iL,ag.r,NE,g22,k',dL]
   exact⟨q'.base,by have:=f1.next;omega,(Kq.fr f1).trans f1.next kp (fun i hi=> .inl hi), .inl ⟨trivial,F',q',fun i hi=>(hs' i hi).elim .inl fun h=> .inr (by omega)⟩⟩
end Go.Am

namespace Go.Am
open Go Go.Proofs
def pX:=A2 @cG<|A2 @kv<|A2 @bJ<|A2 @aV<|A2 @ba<|A2 @bm @bh
theorem Cx (C:Ctx) (rs:List ResultVar) (Q:Value ->Heap ->Prop) (n:Nat) (f:Nat ->Value) (h:Heap) (b:Nat):y5 C rs Q (.ended none) ⟨T n f,[{target:= .collected b,args:=⟨[]⟩}],none⟩ h↔h.get b=some (.deferred true)/\ PR Q (h.set b (.deferred false)) (aR C (T n f) (h.set b (.deferred false)) rs):=by
 simp[y5]
def Cy (C:Ctx) (rs:List ResultVar) (Q R:Value ->Heap ->Prop) (r:FEnd) (s:FrS) (h':Heap):Prop:=y5 C rs Q r s h' \/ ∃v,r= .panic v/\ s.defers=[]/\ R v h'
theorem Ix {C:Ctx} {rs:List ResultVar} {Q R:Value ->Heap ->Prop} {r:Option Code} {s:FrS} {h':Heap}:Cy C rs Q R (.ended r) s h'↔y5 C rs Q (.ended r) s h':=by
 simp[Cy]
theorem Fq {C:Ctx} {rs:List ResultVar} {Q R:Value ->Heap ->Prop} {v:Value} {n:Nat} {f:Nat ->Value} {p:Option Value} {h':Heap}:Cy C rs Q R (.panic v) ⟨T n f,[],p⟩ h'↔R v h':=by
 simp[Cy,y5]
theorem aac {C:Ctx} {f:FuncId} (fn:Func) {c:Code} {args:List Value} {h:Heap} {Q R:Value ->Heap ->Prop} (hA:C.A f=none) (hF:C.F.get f=some fn) (hb:fn.body=some c) (hn:Nat.ble args.length fn.ntmps=true)
  (hw:W (bH C none [.code c] ⟨T fn.ntmps (jt args),[],none⟩ h) (Cy C fn.results.toList Q R)):CX C f args h Q R:=by
 obtain⟨r,s,h',e,hp⟩:=hw
 rcases hp with hp|⟨v,rfl,hd,hr⟩
 ·exact .inl (CH fn hA hF hb hn ⟨r,s,h',e,hp⟩)
 ·exact CG fn hA hF hb hn ⟨_,s,h',e, .inr ⟨v,rfl,hd,hr⟩⟩
def Ky {α:Type} (Item:Nat ->Heap ->α ->Value ->Prop) (Bk:Value ->Nat ->Prop) (g:FuncId) (caps:List Value) (L:List α) (K:(Nat ->Prop) ->Heap ->Prop):Prop:=
 ∀(h0:Heap) (J:(Nat ->Prop) ->List α ->Heap ->Prop) (S:List α ->Heap ->Prop) (l:Nat) (F:Nat ->Prop) (h1:Heap) (M:Nat),Fr h0 h1 ->0<h1.next ->Eats Item Bk J S l h0 M ->L.length<=M ->J F [] h1 ->K F h1 ->
  CW CC g (.func (.yield l) ⟨[]⟩ ⟨[]⟩::caps) h1 fun _ h'=>Gr F h1 h'/\ ((∃F',J F' L h'/\ ∀i,F' i ->F i \/h1.next<=i) \/ ∃l1 l2,L=l1++l2/\ S l1 h')
set_option maxRecDepth 10000 in
set_option maxHeartbeats 2000000 in
theorem MA {N:Nat} {sv:Value} {M:List Bool} (hsv: ∃p a c,sv= .slice p a c) (hN:N<=6) (hM:M.length=36) {pT:Nat}:
  Ky gZ IE 121 [.pointer (some ⟨pT,0,none⟩)] (qX N M N (List.replicate 6 false) []) fun F h1=>rowAt h1 pT=some (dc (N:Int) sv M)/\ ¬F pT:=by
 rintro h0 J S l F h1 MX f01 hp E hMX hJ ⟨rT,nF⟩
 have hk:=f01.ok
 refine aw Tryz.f121 (by kernel_rfl) (by kernel_rfl) rfl rfl ?_
 simp only[Tryz.f121]
 have bz:cJ CC 128 []=some (.agg ⟨dj (List.replicate 6 false)⟩):=by kernel_rfl
 have fH:=aI [.row [.func (.yield l) ⟨[]⟩ ⟨[]⟩] 0 true, .row [.slice none 0 0] 0 true, .row [.func (.func 122) ⟨[]⟩ ⟨[.pointer (some ⟨h1.next+1,0,none⟩), .pointer (some ⟨pT,0,none⟩), .pointer (some ⟨h1.next,0,none⟩), .pointer (some ⟨h1.next+2,0,none⟩)]⟩] 0 true] (Fr.refl hk)
 have gY:(h1.ex [.row [.func (.yield l) ⟨[]⟩ ⟨[]⟩] 0 true, .row [.slice none 0 0] 0 true, .row [.func (.func 122) ⟨[]⟩ ⟨[.pointer (some ⟨h1.next+1,0,none⟩), .pointer (some ⟨pT,0,none⟩), .pointer (some ⟨h1.next,0,none⟩), .pointer (some ⟨h1.next+2,0,none⟩)]⟩] 0 true]).get h1.next=some (.row [.func (.yield l) ⟨[]⟩ ⟨[]⟩] 0 true):=dG rfl
 have gN:(h1.ex [.row [.func (.yield l) ⟨[]⟩ ⟨[]⟩] 0 true, .row [.slice none 0 0] 0 true, .row [.func (.func 122) ⟨[]⟩ ⟨[.pointer (some ⟨h1.next+1,0,none⟩), .pointer (some ⟨pT,0,none⟩), .pointer (some ⟨h1.next,0,none⟩), .pointer (some ⟨h1.next+2,0,none⟩)]⟩] 0 true]).get (h1.next+1)=some (.row [.slice none 0 0] 0 true):=by rw[jd rfl (by simp)];rfl
 have gF:(h1.ex [.row [.func (.yield l) ⟨[]⟩ ⟨[]⟩] 0 true, .row [.slice none 0 0] 0 true, .row [.func (.func 122) ⟨[]⟩ ⟨[.pointer (some ⟨h1.next+1,0,none⟩), .pointer (some ⟨pT,0,none⟩), .pointer (some ⟨h1.next,0,none⟩), .pointer (some ⟨h1.next+2,0,none⟩)]⟩] 0 true]).get (h1.next+2)=some (.row [.func (.func 122) ⟨[]⟩ ⟨[.pointer (some ⟨h1.next+1,0,none⟩), .pointer (some ⟨pT,0,none⟩), .pointer (some ⟨h1.next,0,none⟩), .pointer (some ⟨h1.next+2,0,none⟩)]⟩] 0 true):=by rw[jd rfl (by simp)];rfl
 simp(maxDischargeDepth:=30)only[AA,↓reduceIte,Q1,Q2,Q3,Q4,reduceCtorEq,Q5,Q6,Q7,XH,LL,cG,Jy,bJ,A7,jY,aV,Gt,ba,fp,dQ,bm,mR,bh,FK,hk,bz,ff]
 generalize(h1.ex [.row [.func (.yield l) ⟨[]⟩ ⟨[]⟩] 0 true, .row [.slice none 0 0] 0 true, .row [.func (.func 122) ⟨[]⟩ ⟨[.pointer (some ⟨h1.next+1,0,none⟩), .pointer (some ⟨pT,0,none⟩), .pointer (some ⟨h1.next,0,none⟩), .pointer (some ⟨h1.next+2,0,none⟩)]⟩] 0 true])=H at fH gY gN gF⊢
 have lF:=fun i hi=>(E.low F [] h1 hJ i hi)
 have q:GQ aQ 1 ⟨J,F,h1,h1.next+1,h1.next,h1.next+2, .func (.yield l) ⟨[]⟩ ⟨[]⟩, .func (.func 122) ⟨[]⟩ ⟨[.pointer (some ⟨h1.next+1,0,none⟩), .pointer (some ⟨pT,0,none⟩), .pointer (some ⟨h1.next,0,none⟩), .pointer (some ⟨h1.next+2,0,none⟩)]⟩⟩ F [] ([]:List Int) H:=
  ⟨fH.gr,Nat.lt_of_lt_of_le hp fH.next,E.stay _ _ _ _ hJ fH.ok fH.next fun i hi=>fH.get i (lF i hi).2,fun i hi=> .inl hi,gY,gF,⟨_,gN,PVf.nil _ _,fun b hb=>by simp[ay]at hb⟩,
   fun i hi=>⟨fun hf=>by have:=(lF i hf).2;simp at hi;omega,fun _=>by simp at hi;show h1.next<=i;omega⟩⟩
 refine aC (Mz hsv hN hM E hk rT nF f01 (fun i hi=>(lF i hi).1) ⟨by simp,by simp⟩ rfl rfl N q (by simp) (by simp) (by simpa using hMX)) ?_
 rintro R h2 ⟨base,le,_,hR⟩
 simp(maxDischargeDepth:=30)only[AA,↓reduceIte,Q1,Q2,Q3,Q4,reduceCtorEq,Q5,Q6,Q7,XH,LL,cG,Jy,bJ,A7,jY,aV,Gt,ba,fp,dQ,bm,mR,bh,FK,base.ok,v7]
 refine⟨base,?_⟩
 rcases hR with⟨_,F',q',hs⟩|⟨_,l1,l2,el,hS⟩
 ·exact .inl ⟨F',by simpa using q'.j,fun i hi=>(hs i hi).elim .inl fun h=> .inr (Nat.le_trans fH.next h)⟩
 ·exact .inr ⟨l1,l2,el,by simpa using hS⟩
theorem QD {h:Heap} (hk:HOK h) {N:Nat} {sv:Value} {M:List Bool} (hsv: ∃p a c,sv= .slice p a c) (hM:M.length=36):
  CW CC 45 [.agg ⟨dc (N:Int) sv M⟩] h fun r h'=>r= .func (.func 121) ⟨[]⟩ ⟨[.pointer (some ⟨h.next,0,none⟩)]⟩/\ Fr h h'/\ rowAt h' h.next=some (dc (N:Int) sv M):=by
 obtain⟨pv,av,cv,rfl⟩:=hsv
 refine aw Tryz.f45 (by kernel_rfl) (by kernel_rfl) rfl rfl ?_
 simp only[Tryz.f45]
 simp(maxDischargeDepth:=30)only[AA,↓reduceIte,Q1,Q2,Q3,Q4,reduceCtorEq,Q5,Q6,Q7,XH,fT,hk,zt (show jx (.slice pv av cv)=true from rfl),oR hM]
 exact⟨trivial,aI _ (Fr.refl hk),trivial⟩
theorem K2 {N:Nat} {M:List Bool}: ∀(d:Nat) (tk:List Bool) (now:List Int),(qX N M d tk now).length<=N ^ d
 |0,_,_=>Nat.le_refl _
 |d+1,tk,now=>by
  have h:=sY (fun n:Nat=>if DF N M tk n=true then qX N M d (tk.set n true) (now++[(n:Int)])else[]) (N ^ d) (List.range N) (fun n _=>by
   show List.length (if _ then _ else _)<=_
   split
   ·exact K2 d _ _
   ·simp)
  rw[List.length_range]at h
  rw[Nat.pow_succ,Nat.mul_comm (N ^ d) N]
  exact h
def StripB.orders (s:StripB):List (List Int):=qX s.names.toNat s.after s.names.toNat (List.replicate 6 false) []
structure OneJ (o d l:Nat) (R:ALoop) (F:Nat ->Prop) (D:List (List Int)) (h:Heap):Prop where
 ok:HOK h
 nil:D=[]
 F: ∀i,F i↔i=o \/i=d \/i=l
 out:h.get o=some (.row [.slice none 0 0] 0 true)
 df:h.get d=some (.deferred true)
 lp:h.get l=some (.loop R)
def ZM (N o d l:Nat) (c:Code) (D:List (List Int)) (h:Heap):Prop:= ∃q v,D=[q]/\ HOK h/\ h.get o=some (.row [v] 0 true)/\ gZ N h q v/\ h.get d=some (.deferred true)/\ ∃R,h.get l=some (.loop R)/\ BA R.state=false/\ R.pending=some c
set_option maxRecDepth 10000 in
set_option maxHeartbeats 2000000 in
theorem Td {h hh : Heap} (hk : HOK h) (f00 : Fr hh h) {v : Value} {s : StripB} (hs : IsSpots h v s.spots) (ok : s.ok = true) {b o : Nat} (rb : rowAt h b = some [.int .i64 s.names, v]) (go : h.get o = some (.row [.slice none 0 0] 0 true)) (ho : hh.next ≤ o) :
    CX CC 43 [.pointer (some ⟨b, 0, none⟩), .pointer (some ⟨o, 0, none⟩)] h (fun _ h' => s.clash = false ∧ (∃ v, h'.get o = some (.row [v] 0 true) ∧ SL hh.next h' v ((s.orders.getD 0 []).flatMap aQ) 1 (s.orders.getD 0 []).length) ∧ Gr (fun i => i = o) h h')
      fun e h' => (s.clash = true ∧ ∃ i : Int, e = .iface 234 (.agg ⟨[.int .i64 i]⟩)) ∧ Fr h h' := by
  obtain ⟨hn, hl, hw⟩ := StripB.ok_at ok
  obtain ⟨nm, ls⟩ := s
  obtain ⟨N, rfl⟩ : ∃ N : Nat, nm = N := ⟨nm.toNat, by have := hn.1; simp at this; omega⟩
  have hN6 : N ≤ 6 := by have := hn.2; simp at this; omega
  obtain ⟨pv, cv, hvv⟩ : ∃ p c, v = .slice p ls.length c := by obtain ⟨us, hu, lr⟩ := hs; rw [show ls.length = us.length from lr.1.symm]; exact hu.len
  have hsv : ∃ p a c, v = .slice p a c := ⟨_, _, _, hvv⟩
  have go0 := aF hk go
  have hOS : StripB.orders ⟨(N : Int), ls⟩ = qX N (StripB.after ⟨(N : Int), ls⟩) N (List.replicate 6 false) [] := rfl
  generalize StripB.orders ⟨(N : Int), ls⟩ = OS at hOS ⊢
  have aM : (StripB.after ⟨(N : Int), ls⟩).length = 36 := by unfold StripB.after; rw [Wx, Qo]; rfl
  refine aac Tryz.f43 (by kernel_rfl) (by kernel_rfl) rfl rfl ?_
  simp only [Tryz.f43]
  have rb' : rowAt h b = some [.int .i64 (N : Int), v] := rb
  simp (maxDischargeDepth := 30) only [AA, ↓reduceIte, Q1, Q2, Q3, Q4, reduceCtorEq, Q5, Q6, Q7, XH, pX, hk, rb']
  refine tu (Yf hk hs ok) ?_ ?_
  rotate_left
  · rintro e h2 ⟨hc, f2⟩
    simp only [Fq]
    exact ⟨hc, f2⟩
  rintro _ h2 ⟨⟨hcl, rfl⟩, f2⟩
  simp (maxDischargeDepth := 30) only [AA, ↓reduceIte, Q1, Q2, Q3, Q4, reduceCtorEq, Q5, Q6, Q7, XH, pX, f2.ok]
  refine aC (QD f2.ok hsv aM) ?_
  rintro _ h3 ⟨rfl, f3, r3⟩
  have f03 := f2.trans f3
  have go3 := f03.get' hk go
  simp (maxDischargeDepth := 30) only [AA, ↓reduceIte, Q1, Q2, Q3, Q4, reduceCtorEq, Q5, Q6, Q7, XH, pX, f3.ok, pW]
  refine rR (P := fun R _ h' => ((∃ F', OneJ o h3.next (h3.next + 1) R F' OS h') ∨ ∃ l1 l2, OS = l1 ++ l2 ∧ ZM hh.next o h3.next (h3.next + 1) (.exit 0) l1 h') ∧ Gr (fun i => i = o) h h') ?_ ?_
  · intro R hR
    have f4 : Fr h3 ((h3.alloc (.deferred true)).alloc (.loop R)) := ((Fr.refl f3.ok).alloc _).alloc _
    have d4 : ((h3.alloc (.deferred true)).alloc (.loop R)).get h3.next = some (.deferred true) := by rw [cP _ (by simp)]; exact dr _ rfl
    have l4 : ((h3.alloc (.deferred true)).alloc (.loop R)).get (h3.next + 1) = some (.loop R) := dr _ (by simp)
    have c4 := f4.get' f3.ok go3
    have n4 : ((h3.alloc (.deferred true)).alloc (.loop R)).next = h3.next + 2 := by simp
    have n3 := f03.next
    have rT := f4.row' f3.ok r3
    have nT := af f3.ok r3
    have ll : o < h3.next := aF f3.ok go3
    have n2 := f2.next
    have n23 := f3.next
    generalize ((h3.alloc (.deferred true)).alloc (.loop R)) = h4 at f4 d4 l4 c4 n4 rT ⊢
    have f00h : hh.next ≤ h.next := f00.next
    have E : Eats gZ IE (OneJ o h3.next (h3.next + 1) R) (ZM hh.next o h3.next (h3.next + 1) (.exit 0)) (h3.next + 1) hh 1000000 := by
      refine ⟨?_, ?_, ?_⟩
      · rintro F D g hJ i hi
        have a1 := aF hJ.ok hJ.out
        have a2 := aF hJ.ok hJ.df
        have a3 := aF hJ.ok hJ.lp
        rcases (hJ.F i).1 hi with rfl | rfl | rfl <;> omega
      · rintro F D g g' hJ kg' hn hs
        exact ⟨kg', hJ.nil, hJ.F, by rw [hs _ ((hJ.F _).2 (by simp))]; exact hJ.out, by rw [hs _ ((hJ.F _).2 (by simp))]; exact hJ.df, by rw [hs _ ((hJ.F _).2 (by simp))]; exact hJ.lp⟩
      · rintro F D g v' q kg hg0 fg hJ hI hdis dl
        have gl := hJ.lp
        have rok : pt R.state = true := by rw [hR]; rfl
        have hA1 : R.assign = _ := congrArg ALoop.assign hR
        have hA2 : R.body = _ := congrArg ALoop.body hR
        have hA3 : R.params = _ := congrArg ALoop.params hR
        have hA4 : R.tmps = _ := congrArg ALoop.tmps hR
        simp only [iN] at hA1 hA2 hA3 hA4
        clear hR
        refine uQ gl (by rw [hA3]; rfl) ?_
        rw [hA1, hA2, hA3, hA4, oW]
        have lg := aF kg gl
        have cg := aF kg hJ.out
        simp (maxDischargeDepth := 30) only [AA, ↓reduceIte, Q1, Q2, Q3, Q4, reduceCtorEq, Q5, Q6, Q7, XH, pX, kg, zS gl rok]
        have cB : (g.set (h3.next + 1) (.loop (R.turn .busy R.pending))).get o = some (.row [.slice none 0 0] 0 true) := by rw [Heap.get_set_ne _ _ (by omega)]; exact hJ.out
        have rB : rowAt (g.set (h3.next + 1) (.loop (R.turn .busy R.pending))) o = some [.slice none 0 0] := by unfold rowAt; rw [cB]; rfl
        have lB : (g.set (h3.next + 1) (.loop (R.turn .busy R.pending))).get (h3.next + 1) = some (.loop (R.turn .busy R.pending)) := am _ _ _
        have kB : HOK (g.set (h3.next + 1) (.loop (R.turn .busy R.pending))) := kg.set lg _
        have oB : ∀ i, i ≠ h3.next + 1 → (g.set (h3.next + 1) (.loop (R.turn .busy R.pending))).get i = g.get i := fun i hi => Heap.get_set_ne _ _ hi
        have nB : (g.set (h3.next + 1) (.loop (R.turn .busy R.pending))).next = g.next := Heap.next_set _ _ _
        generalize (g.set (h3.next + 1) (.loop (R.turn .busy R.pending))) = hB at cB rB lB kB oB nB ⊢
        obtain ⟨p', c', rfl⟩ := SL.value hI
        simp (maxDischargeDepth := 30) only [AA, ↓reduceIte, Q1, Q2, Q3, Q4, reduceCtorEq, Q5, Q6, Q7, XH, pX, kB, rB, cB, List.set_cons_zero]
        have ng : ∀ i, IE (.slice p' q.length c') i → i ≠ o ∧ i ≠ h3.next + 1 := fun i hb => ⟨fun e => hdis i hb ((hJ.F i).2 (.inl e)), fun e => hdis i hb ((hJ.F i).2 (.inr (.inr e)))⟩
        have lB' : (hB.set o (.row [.slice p' q.length c'] 0 true)).get (h3.next + 1) = some (.loop (R.turn .busy R.pending)) := by rw [Heap.get_set_ne _ _ (by omega)]; exact lB
        refine ⟨some (.exit 0), _, rfl, trivial, lB', ?_, .inr ⟨rfl, q, .slice p' q.length c', by rw [hJ.nil]; rfl, ?_, ?_, ?_, ?_, _, am _ _ _, rfl, rfl⟩⟩
        · refine ⟨(kB.set (by omega) _).set (by simp; omega) _, by simp; omega, fun i hi hn => ?_⟩
          rw [Heap.get_set_ne _ _ (fun e => hn ((hJ.F i).2 (.inr (.inr e)))), Heap.get_set_ne _ _ (fun e => hn ((hJ.F i).2 (.inl e))), oB i (fun e => hn ((hJ.F i).2 (.inr (.inr e))))]
        · exact (kB.set (by omega) _).set (by simp; omega) _
        · rw [Heap.get_set_ne _ _ (by omega), am]
        · exact SL.keep hI fun b hb => by rw [Heap.get_set_ne _ _ (ng b hb).2, Heap.get_set_ne _ _ (ng b hb).1, oB b (ng b hb).2]
        · rw [Heap.get_set_ne _ _ (by omega), Heap.get_set_ne _ _ (by omega), oB _ (by omega)]; exact hJ.df
    have X := MA hsv hN6 aM (pT := h2.next) hh (OneJ o h3.next (h3.next + 1) R) (ZM hh.next o h3.next (h3.next + 1) (.exit 0)) (h3.next + 1) (fun i => i = o ∨ i = h3.next ∨ i = h3.next + 1) h4 1000000 ((f00.trans f03).trans f4) (by omega) E
      (by have := K2 (M := StripB.after ⟨(N : Int), ls⟩) (N := N) N (List.replicate 6 false) []
          have : N ^ N ≤ 6 ^ 6 := Nat.le_trans (Nat.pow_le_pow_left hN6 N) (Nat.pow_le_pow_right (by omega) hN6)
          have : (6 : Nat) ^ 6 = 46656 := by decide
          omega)
      ⟨f4.ok, rfl, fun i => Iff.rfl, c4, d4, l4⟩ ⟨rT, fun e => by omega⟩
    rw [← hOS] at X
    obtain ⟨rv, h5, e5, gr5, hq⟩ := X
    refine ⟨rv, h5, e5, ?_, gr5.ok, by have := gr5.next; omega, fun i hi hn => ?_⟩
    · rcases hq with ⟨F', hJ, _⟩ | hS
      · exact .inl ⟨F', hJ⟩
      · exact .inr hS
    · rw [gr5.get i (by omega) (fun e => by omega), f4.get i (by omega)]; exact f03.get i hi
  · rintro R hR rv h5 ⟨hq, gr5⟩
    have k5 := gr5.ok
    have n03 := f03.next
    have lo3 : o < h3.next := aF f3.ok go3
    have ends : ∀ x, h5.get (h3.next + 1) = some x → h5.get h3.next = some (.deferred true) → ∀ y, Gr (fun i => i = o) h ((h5.set (h3.next + 1) y).set h3.next (.deferred false)) := fun x hx hd y =>
      ⟨(k5.set (aF k5 hx) _).set (by simp; exact aF k5 hd) _, by have := gr5.next; simp; omega, fun i hi hn => by rw [Heap.get_set_ne _ _ (by omega), Heap.get_set_ne _ _ (by omega)]; exact gr5.get i hi hn⟩
    rcases hq with ⟨F', hJ⟩ | ⟨l1, l2, el, q, v', rfl, _, ho', hi', hd', R', hl', hb', hp'⟩
    · refine ⟨R, hJ.lp, by rw [hR]; rfl, ?_⟩
      have hp' : R.pending = none := by rw [hR]; rfl
      have df := hJ.df
      have out := hJ.out
      have dg : (h5.set (h3.next + 1) (.loop (R.turn .exhausted none))).get h3.next = some (.deferred true) := by rw [Heap.get_set_ne _ _ (by omega)]; exact df
      rw [hp', lQ, nR]
      simp (maxDischargeDepth := 30) only [AA, ↓reduceIte, Q1, Q2, Q3, Q4, reduceCtorEq, Q5, Q6, Q7, XH, pX, Ix, Cx]
      refine ⟨df, hcl, ⟨_, by rw [Heap.get_set_ne _ _ (by omega), Heap.get_set_ne _ _ (by omega)]; exact out, ?_⟩, ends _ hJ.lp df _⟩
      rw [hJ.nil]
      exact SL.nil _ _ _
    · refine ⟨R', hl', hb', ?_⟩
      rw [hp', JD, nR]
      simp (maxDischargeDepth := 30) only [AA, ↓reduceIte, Q1, Q2, Q3, Q4, reduceCtorEq, Q5, Q6, Q7, XH, pX, Ix, Cx]
      refine ⟨hd', hcl, ⟨v', by rw [Heap.get_set_ne _ _ (by omega), Heap.get_set_ne _ _ (by omega)]; exact ho', ?_⟩, ends _ hl' hd' _⟩
      rw [el]
      refine SL.keep hi' fun b hb => ?_
      rcases hi' with ⟨rfl, _⟩ | ⟨b', rfl, _, _, g', _⟩
      · simp [ay] at hb
      · simp [ay] at hb; subst hb
        rw [Heap.get_set_ne _ _ (by rintro rfl; rw [hd'] at g'; simp at g'), Heap.get_set_ne _ _ (by rintro rfl; rw [hl'] at g'; simp at g')]
end Go.Am

namespace Go.Am
open Go Go.Proofs
def wJ:=A2 @cG<|A2 @cM<|A2 @kv<|A2 @bJ<|A2 @aV<|A2 @ba<|A2 @bm @bh
def zV:=A2 @QY<|A2 @sJ<|A2 @wO @sr
def CF:=A2 @Gu<|A2 @PP<|A2 @sJ<|A2 @wO<|A2 @Af<|A2 @N7 @sr
theorem TP (v:Value):gW CC (.iface 234 v) 234 true=some (.tuple ⟨[v, .bool true]⟩):=by kernel_rfl
set_option maxRecDepth 10000 in
theorem wQ (p:Nat) (h:Heap) (hk:HOK h): ∃v h',eo CC (bH CC) 120 [.pointer (some ⟨p,0,none⟩)] h none=some (.ret v h' none)/\ h'=h:=by
 refine nI Tryz.f120 (Q:=fun _ h'=>h'=h) (by kernel_rfl) rfl rfl ?_
 simp only[Tryz.f120]
 simp(maxDischargeDepth:=30)only[AA,↓reduceIte,Q1,Q2,Q3,Q4,reduceCtorEq,Q5,Q6,Q7,XH,CF,hk,uJ,EQ,kc]
set_option maxRecDepth 10000 in
theorem tY (p:Nat) (i:Int) (y:Value) (h:Heap) (hk:HOK h) (hp:h.get p=some (.row [y] 0 true)):
  ∃v h',eo CC (bH CC) 120 [.pointer (some ⟨p,0,none⟩)] h (some (.iface 234 (.agg ⟨[.int .i64 i]⟩)))=some (.ret v h' none)/\
   rowAt h' p=some [.int .i64 7]/\ HOK h'/\ h.next<=h'.next/\ ∀j,j<h.next ->j≠p ->h'.get j=h.get j:=by
 have ml:=aF hk hp
 refine nI Tryz.f120 (Q:=fun _ h'=>rowAt h' p=some [.int .i64 7]/\ HOK h'/\ h.next<=h'.next/\ ∀j,j<h.next ->j≠p ->h'.get j=h.get j) (by kernel_rfl) rfl rfl ?_
 simp only[Tryz.f120]
 have f1:=aI [.row [.int .i64 i] 0 true] (Fr.refl hk)
 have p1:=f1.get' hk hp
 simp(maxDischargeDepth:=30)only[AA,↓reduceIte,Q1,Q2,Q3,Q4,reduceCtorEq,Q5,Q6,Q7,XH,CF,hk,yu,JV,TP]
 generalize(h.ex [.row [.int .i64 i] 0 true])=h1 at f1 p1⊢
 have n1:=f1.next
 simp(maxDischargeDepth:=30)only[AA,↓reduceIte,Q1,Q2,Q3,Q4,reduceCtorEq,Q5,Q6,Q7,XH,CF,f1.ok,p1,List.set_cons_zero,kc]
 refine⟨trivial,f1.ok.set (by omega) _,by omega,fun j hj a=> ?_⟩
 rw[Heap.get_set_ne _ _ a];exact f1.get j hj
set_option maxRecDepth 10000 in
theorem NG {g:FuncId} {caps:List Value} {P R:Heap ->Prop} {X:Nat ->Prop} {h:Heap} (hk:HOK h) (hX: ∀i,X i ->i<h.next)
  (hP: ∀h1 h',P h1 ->HOK h' ->h1.next<=h'.next ->(∀j,(∀x,h1.get j=some (.row x 0 true) ->j≠h.next) ->h'.get j=h1.get j) ->P h')
  (hg: ∀h1,Fr h h1 ->CX CC g caps h1 (fun _ h'=>P h'/\ Gr X h1 h') fun e h'=>(R h1/\ ∃i:Int,e= .iface 234 (.agg ⟨[.int .i64 i]⟩))/\ Gr X h1 h'):
  CW CC 42 [.func (.func g) ⟨[]⟩ ⟨caps⟩] h fun r h'=>((P h'/\ r= .int .i64 0) \/((∃h1,R h1)/\ r= .int .i64 7))/\ Gr X h h':=by
 have key:W (bH CC none [.code Tryz.f42.body.get!] ⟨T 6 (jt [.func (.func g) ⟨[]⟩ ⟨caps⟩]),[],none⟩ h) fun r s h'=>
   s.defers=[{target:= .fn (.func 120) ⟨[.pointer (some ⟨h.next,0,none⟩)]⟩,args:=⟨[]⟩}]/\ s.pan=none/\ (∃f,s.tmps=T 6 f/\ f 2= .pointer (some ⟨h.next,0,none⟩))/\
   h'.get h.next=some (.row [.int .i64 0] 0 true)/\ Gr X h h'/\
   ((r= .ended (some .ret)/\ P h') \/ ∃i:Int,r= .panic (.iface 234 (.agg ⟨[.int .i64 i]⟩))/\ ∃h1,R h1):=by
  simp only[Tryz.f42,Option.get!]
  have f0:=aI [.row [.int .i64 0] 0 true] (Fr.refl hk)
  have z1:(h.ex [.row [.int .i64 0] 0 true]).get h.next=some (.row [.int .i64 0] 0 true):=dG rfl
  have n0:(h.ex [.row [.int .i64 0] 0 true]).next=h.next+1:=by rw[bc];rfl
  simp(maxDischargeDepth:=30)only[AA,↓reduceIte,Q1,Q2,Q3,Q4,reduceCtorEq,Q5,Q6,Q7,XH,zV,hk,Fu,yq,ff]
  generalize(h.ex [.row [.int .i64 0] 0 true])=h1 at f0 z1 n0⊢
  refine tu (hg h1 f0) ?_ ?_
  ·rintro v h2 ⟨p0,gr⟩
   have y1:=gr.get' f0.ok (fun hx=>by have:=hX _ hx;omega) z1
   have l2:=aF gr.ok y1
   simp(maxDischargeDepth:=30)only[AA,↓reduceIte,Q1,Q2,Q3,Q4,reduceCtorEq,Q5,Q6,Q7,XH,zV,gr.ok,y1,List.set_cons_zero]
   refine⟨trivial,trivial,⟨_,rfl,by simp[aa]⟩,trivial,?_, .inl ⟨trivial,?_⟩⟩
   ·refine⟨gr.ok.set l2 _,by have:=gr.next;simp;omega,fun i hi hn=> ?_⟩
    rw[Heap.get_set_ne _ _ (by omega),gr.get i (by omega) hn];exact f0.get i hi
   ·refine hP h2 _ p0 (gr.ok.set l2 _) (by simp) fun j hj=>Heap.get_set_ne _ _ ?_
    rintro rfl
    exact hj _ y1 rfl
  ·rintro e h2 ⟨⟨hr,i,rfl⟩,gr⟩
   have y1:=gr.get' f0.ok (fun hx=>by have:=hX _ hx;omega) z1
   exact⟨rfl,rfl,⟨_,rfl,by simp[aa]⟩,y1,⟨gr.ok,by have:=gr.next;omega,fun i hi hn=>by rw[gr.get i (by omega) hn];exact f0.get i hi⟩, .inr ⟨i,rfl,_,hr⟩⟩
 obtain⟨r,s,h1,e,hd,hp,⟨f,ht,f2⟩,z1,gr,hc⟩:=key
 have l1:=aF gr.ok z1
 rcases hc with⟨rfl,p0⟩|⟨i,rfl,hr0⟩
 ·obtain⟨v,h2,e2,rfl⟩:=wQ h.next h1 gr.ok
  have w1:rowAt h2 h.next=some [.int .i64 0]:=by unfold rowAt;rw[z1];rfl
  have hr:aR CC s.tmps h2 Tryz.f42.results.toList=some [.int .i64 0]:=by
   rw[ht];simp only[Tryz.f42];simp(maxDischargeDepth:=30)only[AA,↓reduceIte,Q1,Q2,Q3,Q4,reduceCtorEq,Q5,Q6,Q7,zV,f2,w1]
  exact⟨_,h2,jf (fn:=Tryz.f42) (c:=Tryz.f42.body.get!) (by kernel_rfl) (by kernel_rfl) rfl rfl e rfl hd hp (by kernel_rfl) e2 hr, .inl ⟨p0,rfl⟩,gr⟩
 ·obtain⟨v,h2,e2,w1,k2,n2,g2⟩:=tY h.next i (.int .i64 0) h1 gr.ok z1
  have hr:aR CC s.tmps h2 Tryz.f42.results.toList=some [.int .i64 7]:=by
   rw[ht];simp only[Tryz.f42];simp(maxDischargeDepth:=30)only[AA,↓reduceIte,Q1,Q2,Q3,Q4,reduceCtorEq,Q5,Q6,Q7,zV,f2,w1]
  refine⟨_,h2,jf (fn:=Tryz.f42) (c:=Tryz.f42.body.get!) (by kernel_rfl) (by kernel_rfl) rfl rfl e rfl hd hp (by kernel_rfl) e2 hr, .inr ⟨hr0,rfl⟩,k2,by have:=gr.next;omega,fun j hj hn=> ?_⟩
  rw[g2 j (by have:=gr.next;omega) (by omega)]
  exact gr.get j hj hn
def StripB.firstP (s:StripB):List Int×Int:=if s.ok=false then([],2)else if s.clash=true then([],5)else(s.orders.getD 0 [],0)
set_option maxRecDepth 10000 in
theorem EN {h:Heap} (hk:HOK h) {v:Value} {s:StripB} (hs:IsSpots h v s.spots) (sm:s.Small):
  CW CC 11 [.agg ⟨[.int .i64 s.names,v]⟩] h fun r h'=>(∃v,r= .tuple ⟨[v, .int .i64 s.firstP.2]⟩/\ SL h.next h' v (s.firstP.1.flatMap aQ) 1 s.firstP.1.length)/\ Fr h h':=by
 obtain⟨pv,cv,hvv⟩: ∃p c,v= .slice p s.spots.length c:=by obtain⟨us,hu,lr⟩:=hs;rw[show s.spots.length=us.length from lr.1.symm];exact hu.len
 refine aw Tryz.f11 (by kernel_rfl) (by kernel_rfl) rfl rfl ?_
 simp only[Tryz.f11]
 have f1:=aI [.row [.int .i64 s.names,v] 0 true] (Fr.refl hk)
 have r1:rowAt (h.ex [.row [.int .i64 s.names,v] 0 true]) h.next=some [.int .i64 s.names,v]:=aZ rfl
 have ov:bF [.int .i64 s.names,v]=true:=by rw[hvv];rfl
 simp(maxDischargeDepth:=30)only[AA,↓reduceIte,Q1,Q2,Q3,Q4,reduceCtorEq,Q5,Q6,Q7,XH,wJ,hk,ov]
 refine aC (MT f1.ok (hs.fr hk f1) sm) ?_
 rintro _ h2 ⟨rfl,f2⟩
 have f02:=f1.trans f2
 have r2:=f2.row' f1.ok r1
 unfold StripB.firstP
 cases ok:s.ok with
 |false=>
  simp(maxDischargeDepth:=30)only[AA,↓reduceIte,Q1,Q2,Q3,Q4,reduceCtorEq,Q5,Q6,Q7,XH,wJ,f2.ok]
  exact⟨⟨_,rfl,SL.nil _ _ _⟩,f02⟩
 |true=>
 have f3:=aI [.row [.slice none 0 0] 0 true] f2
 have f23:=aI [.row [.slice none 0 0] 0 true] (Fr.refl f2.ok)
 have g3:(h2.ex [.row [.slice none 0 0] 0 true]).get h2.next=some (.row [.slice none 0 0] 0 true):=dG rfl
 have n3:(h2.ex [.row [.slice none 0 0] 0 true]).next=h2.next+1:=by rw[bc];rfl
 have n2:=f02.next
 simp(maxDischargeDepth:=30)only[AA,↓reduceIte,Q1,Q2,Q3,Q4,reduceCtorEq,Q5,Q6,Q7,XH,wJ,f2.ok]
 generalize(h2.ex [.row [.slice none 0 0] 0 true])=h3 at f3 f23 g3 n3⊢
 have f03:=f1.trans f3
 refine aC (NG (P:=fun h'=>s.clash=false/\ ∃v,h'.get h2.next=some (.row [v] 0 true)/\ SL h.next h' v ((s.orders.getD 0 []).flatMap aQ) 1 (s.orders.getD 0 []).length) (R:=fun _=>s.clash=true) (X:=fun i=>i=h2.next) f3.ok (fun i hi=>by omega) ?_ ?_) ?_
 ·rintro a b ⟨hc,v',ho,hv⟩ kb nb gb
  refine⟨hc,v',?_,hv.keep fun j hj=> ?_⟩
  ·rw[gb _ (fun x hx=>by omega)];exact ho
  ·refine gb j fun x hx=> ?_
   rcases hv with⟨rfl,_⟩|⟨b',rfl,_,_,g',_⟩
   ·simp[ay]at hj
   ·simp[ay]at hj;subst hj;rw[hx]at g';simp at g'
 ·intro h4 f4
  have:=Td f4.ok (f03.trans f4) ((hs.fr hk f03).fr f3.ok f4) ok (b:=h.next) (o:=h2.next) ((f3.trans f4).row' f1.ok r1) (f4.get' f3.ok g3) n2
  rcases this with⟨v',h5,e5,hc,hv,gr⟩|⟨e,h5,e5,hc,fr5⟩
  ·exact .inl ⟨v',h5,e5,⟨hc,hv⟩,gr⟩
  ·exact .inr ⟨e,h5,e5,hc,fr5.gr⟩
 ·rintro r h4 ⟨hc,gr⟩
  have fr4:Fr h h4:=⟨gr.ok,by have:=gr.next;omega,fun i hi=>by rw[gr.get i (by omega) (by omega)];exact f03.get i hi⟩
  rcases hc with⟨⟨hc,v',ho,hv⟩,rfl⟩|⟨⟨_,hc⟩,rfl⟩
  ·have ro:rowAt h4 h2.next=some [v']:=by unfold rowAt;rw[ho];rfl
   rw[hc]
   simp(maxDischargeDepth:=30)only[AA,↓reduceIte,Q1,Q2,Q3,Q4,reduceCtorEq,Q5,Q6,Q7,XH,wJ,gr.ok,ro,show((0:Int) !=0)=false from rfl]
   exact⟨⟨v',rfl,hv⟩,fr4⟩
  ·rw[hc]
   simp(maxDischargeDepth:=30)only[AA,↓reduceIte,Q1,Q2,Q3,Q4,reduceCtorEq,Q5,Q6,Q7,XH,wJ,gr.ok,show((7:Int) !=0)=true from rfl]
   exact⟨⟨_,rfl,SL.nil _ _ _⟩,fr4⟩
end Go.Am
