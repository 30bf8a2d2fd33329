/- Parts V113, V114 of the abstract machine over this program, joined: what each part says stands at its head. -/
import Derived.Test.YtlflfbnnjlkkcaaGreatJV111
set_option linter.unusedSimpArgs false
set_option linter.unusedVariables false
set_option linter.defProp false
open Nat renaming reduceLT→Q1,reduceEqDiff→Q2,reduceAdd→Q3,reduceMul→Q4,reduceLeDiff→Q5
open Int renaming reduceNe→Q6,reduceEq→Q7
namespace Go.Am
open Go Go.Proofs
def cq:=A2 @sW<|A2 @zJ<|A2 @pI<|A2 @pH<|A2 @vM<|A2 @sV<|A2 @zI<|A2 @pG<|A2 @kR<|A2 @vK<|A2 @vJ<|A2 @vI<|A2 @EI<|A2 @sU<|A2 @vH<|A2 @sT<|A2 @pD<|A2 @zH<|A2 @zG<|A2 @vG<|A2 @pC<|A2 @zF<|A2 @vE<|A2 @tO<|A2 @tM<|A2 @vB<|A2 @cM<|A2 @Le<|A2 @Bx<|A2 @Bw<|A2 @Dx<|A2 @Hl<|A2 @vA<|A2 @Hj<|A2 @Hh<|A2 @Q0<|A2 @cA<|A2 @Jr<|A2 @Bu<|A2 @uj<|A2 @Bt<|A2 @ko<|A2 @xj<|A2 @Bs<|A2 @Br<|A2 @Jq<|A2 @kN<|A2 @jS<|A2 @kM<|A2 @aV<|A2 @jR<|A2 @kJ<|A2 @kI<|A2 @gv<|A2 @gq<|A2 @ji<|A2 @jh<|A2 @jC<|A2 @jN<|A2 @kD @ky
theorem Fl {C:Ctx} {rd:Option Nat} {body:Code} {k k':List Item} {n:Nat} {f:Nat ->Value} {D:List Deferred} {p:Option Value} {h:Heap} {Q:FEnd ->FrS ->Heap ->Prop} (m:Nat) (I:Nat ->(Nat ->Value) ->Heap ->Prop) (E:(Nat ->Value) ->Heap ->Prop)
  (h0:I m f h) (hs: ∀m f h,I m f h ->(∀m' f' h',m'<m ->I m' f' h' ->W (bH C rd (.inLoop body::k) ⟨T n f',D,p⟩ h') Q) ->(∀f' h',E f' h' ->W (bH C rd k' ⟨T n f',D,p⟩ h') Q) ->W (bH C rd (.code body:: .inLoop body::k) ⟨T n f,D,p⟩ h) Q)
  (he: ∀f' h',E f' h' ->W (bH C rd k' ⟨T n f',D,p⟩ h') Q):
  W (bH C rd (.inLoop body::k) ⟨T n f,D,p⟩ h) Q:=eT m I h0 fun m f h hi ih=>hs m f h hi ih he
theorem hB (b:Bool):b=false \/b=true:=by cases b<;>simp
theorem IsSpots.at {h:Heap} {v:Value} {l:List (List Int)} (q:IsSpots h v l) {i:Nat} {w:List Int} (hw:l[i]? =some w): ∃b o sp c row p cc,v= .slice (some ⟨b,o,sp⟩) l.length c/\ rowAt h b=some row/\ row[o+i]? =some (.slice p w.length cc):=by
 obtain⟨us,q1,q2⟩:=q
 have hi:=(List.getElem?_eq_some_iff.1 hw).1
 obtain⟨x,hx⟩: ∃x,us[i]? =some x:=⟨_,List.getElem?_eq_getElem (by rw[q2.1];exact hi)⟩
 obtain⟨p,cc,e⟩:=(q2.2 i x w hx hw).1.len
 rcases q1 with⟨e',_⟩|⟨b,o,sp,c,row,e',hr',hy⟩
 ·rw[e']at hx;simp at hx
 ·rw[q2.1]at e'
  exact⟨b,o,sp,c,row,p,cc,e',hr',by simpa[jB,e]using(hy i x hx).2 0 (by omega)⟩
set_option maxRecDepth 10000 in
set_option maxHeartbeats 8000000 in
theorem UM {h:Heap} (hk:HOK h) {P Q:Nat ->Prop} {u:SuiteV} {S:SuiteD} (q:IsSuite P h u S) (hs:LP Q h u.sk S.stock aQ 1):
  CW CC 6 [.agg ⟨S.cells u⟩] h fun r h'=>(∃b,r= .bool b/\ (b=true ->S.Low))/\ Fr h h':=by
 obtain⟨pw,cw,ew⟩:=q.w.1.len
 obtain⟨ppr,cpr,epr⟩:=q.pr.1.len
 obtain⟨pwd,cwd,ewd⟩:=q.wd.len
 obtain⟨pdry,cdry,edry⟩:=q.dry.1.len
 obtain⟨pwk,cwk,ewk⟩:=q.wk.1.len
 obtain⟨pct,cct,ect⟩:=q.ct.1.len
 obtain⟨psp,csp,esp⟩:=q.sp.len
 obtain⟨pbo,cbo,ebo⟩:=q.bo.1.len
 obtain⟨pst,cst,est⟩:=q.st.len
 obtain⟨pti,cti,eti⟩:=q.ti.1.len
 obtain⟨psk,csk,esk⟩:=hs.1.len
 obtain⟨pof,cof,eof⟩:=q.of.1.len
 obtain⟨pbd,cbd,ebd⟩:=q.bd.1.len
 obtain⟨ptr,ctr,etr⟩:=q.tr.1.len
 obtain⟨R,hR⟩: ∃R,R=S.cells u:=⟨_,rfl⟩
 have gw:R[0]? =some (.slice pw S.front.widths.length cw):=by rw[hR];exact congrArg some ew
 have gpr:R[1]? =some (.slice ppr S.front.pairs.length cpr):=by rw[hR];exact congrArg some epr
 have gwd:R[7]? =some (.slice pwd S.front.words.length cwd):=by rw[hR];exact congrArg some ewd
 have gdry:R[10]? =some (.slice pdry S.coats.dry.length cdry):=by rw[hR];exact congrArg some edry
 have gwk:R[11]? =some (.slice pwk S.coats.work.length cwk):=by rw[hR];exact congrArg some ewk
 have gct:R[12]? =some (.slice pct S.coats.coats.length cct):=by rw[hR];exact congrArg some ect
 have gsp:R[14]? =some (.slice psp S.board.spots.length csp):=by rw[hR];exact congrArg some esp
 have gbo:R[16]? =some (.slice pbo S.bench.boards.length cbo):=by rw[hR];exact congrArg some ebo
 have gst:R[17]? =some (.slice pst S.bench.strokes.length cst):=by rw[hR];exact congrArg some est
 have gti:R[30]? =some (.slice pti S.tints.tins.length cti):=by rw[hR];exact congrArg some eti
 have gsk:R[31]? =some (.slice psk S.stock.length csk):=by rw[hR];exact congrArg some esk
 have gof:R[32]? =some (.slice pof S.prices.offs.length cof):=by rw[hR];exact congrArg some eof
 have gbd:R[33]? =some (.slice pbd S.prices.boards.length cbd):=by rw[hR];exact congrArg some ebd
 have gtr:R[34]? =some (.slice ptr S.prices.tars.length ctr):=by rw[hR];exact congrArg some etr
 have aT:aA R 0 35=some R:=by rw[hR];rfl
 have aL:R.length=35:=by rw[hR];rfl
 have aO:bF R=true:=by
  rw[hR]
  unfold SuiteD.cells
  rw[ew,epr,ewd,edry,ewk,ect,esp,ebo,est,eti,esk,eof,ebd,etr];rfl
 rw[<-hR]
 clear hR
 refine aw Tryz.f6 (by kernel_rfl) (by kernel_rfl) rfl rfl ?_
 simp only[Tryz.f6,List.append_eq,List.cons_append,List.nil_append]
 generalize hc:Code.region 16 _ false=c16
 have f1:=aI [.row R 0 true] (Fr.refl hk)
 have r1:rowAt (h.ex [.row R 0 true]) h.next=some R:=aZ rfl
 simp(maxDischargeDepth:=30)only[AA,↓reduceIte,Q1,Q2,Q3,Q4,reduceCtorEq,Q5,Q6,Q7,XH,cq,hk,aT,aL,aO]
 generalize(h.ex [.row R 0 true])=h1 at f1 r1⊢
 have k1:=f1.ok
 have n1:=af k1 r1
 have qL:=q.letV.fr hk f1
 have qS:=q.spotV.fr hk f1
 have qB:=q.benchV.fr hk f1
 have no: ∀h',Fr h h' ->(∃b,Value.bool false= .bool b/\ (b=true ->S.Low))/\ Fr h h':=fun h' f=>⟨⟨false,rfl,fun e=>by cases e⟩,f⟩
 apply Fl 6 (fun m f h'=> ∃i:Nat,i<=6/\ i<=S.front.words.length/\ m=6 -i/\ f 1= .pointer (some ⟨h.next,0,none⟩)/\ f 3= .int .i64 (i:Int)/\ (∀(j:Nat) w,j<i ->S.front.words[j]? =some w ->w.signs.length<=8/\ w.cuts.length<=8)/\ h'=h1) (fun f h'=>(S.front.words.length<=6 -> ∀w∈S.front.words,w.signs.length<=8/\ w.cuts.length<=8)/\ f 1= .pointer (some ⟨h.next,0,none⟩)/\ f 4= .int .i64 ((0:Nat):Int)/\ h1=h')
  ⟨0,by omega,by omega,rfl,by simp[aa,aW],by simp[aa],fun j w hj=>by omega,rfl⟩
 ·rintro m f _ ⟨i,hi,hl,rfl,t1,t3,a3,rfl⟩ ih hx
  by_cases hin:i<S.front.words.length/\ i<6
  ·obtain⟨hil,hi6⟩:=hin
   have d1:decide ((i:Int)<(S.front.words.length:Int))=true:=by simpa using hil
   have d2:decide ((i:Int)<6)=true:=by simp;omega
   have w1:IntKind.i64.wrap ((i:Int)+1)=((i+1:Nat):Int):=by rw[bG (by omega) (by omega)];omega
   obtain⟨w,gw⟩: ∃w,S.front.words[i]? =some w:=⟨_,List.getElem?_eq_getElem hil⟩
   obtain⟨b,o,sp,c,row,sv,cv,ev,hr,_,ls,lc,v0,v1,_⟩:=qL.at gw
   obtain⟨ps,cs,rfl⟩:=ls.len
   obtain⟨pc,cc,rfl⟩:=lc.len
   have ev:=ewd.symm.trans ev
   simp only[Value.slice.injEq,true_and]at ev
   obtain⟨rfl,rfl⟩:=ev
   cases x1:decide ((w.signs.length:Int)>8)with
   |true=>
    simp(maxDischargeDepth:=30)only[AA,↓reduceIte,Q1,Q2,Q3,Q4,reduceCtorEq,Q5,Q6,Q7,XH,cq,k1,r1,n1,t1,t3,gwd,aj,d1,d2,hil,hr,v0,x1,Nat.add_zero]
    exact no _ f1
   |false=>
   cases x2:decide ((w.cuts.length:Int)>8)with
   |true=>
    simp(maxDischargeDepth:=30)only[AA,↓reduceIte,Q1,Q2,Q3,Q4,reduceCtorEq,Q5,Q6,Q7,XH,cq,k1,r1,n1,t1,t3,gwd,aj,d1,d2,hil,hr,v0,v1,x1,x2,Nat.add_zero]
    exact no _ f1
   |false=>
   simp(maxDischargeDepth:=30)only[AA,↓reduceIte,Q1,Q2,Q3,Q4,reduceCtorEq,Q5,Q6,Q7,XH,cq,k1,r1,n1,t1,t3,gwd,aj,d1,d2,hil,hr,v0,v1,x1,x2,Nat.add_zero,w1]
   refine ih (6 -(i+1)) _ _ (by omega) ⟨i+1,by omega,by omega,rfl,by simp[aa,t1],by simp[aa],fun j w' hj gj=> ?_,rfl⟩
   by_cases e:j=i
   ·subst e
    rw[gw]at gj
    simp only[Option.some.injEq]at gj
    subst gj
    simp at x1 x2;omega
   ·exact a3 j w' (by omega) gj
  ·have hA:S.front.words.length<=6 -> ∀w∈S.front.words,w.signs.length<=8/\ w.cuts.length<=8:=fun hle w hw=>by
    obtain⟨j,hj⟩:=List.mem_iff_getElem?.1 hw
    have:=(List.getElem?_eq_some_iff.1 hj).1
    exact a3 j w (by omega) hj
   have ends:(decide ((i:Int)<(S.front.words.length:Int))=true/\ decide ((i:Int)<6)=false) \/decide ((i:Int)<(S.front.words.length:Int))=false:=by simp;omega
   rcases ends with⟨d1,d2⟩|d1
   ·simp(maxDischargeDepth:=30)only[AA,↓reduceIte,Q1,Q2,Q3,Q4,reduceCtorEq,Q5,Q6,Q7,XH,cq,k1,r1,n1,t1,t3,gwd,aj,d1,d2]
    exact hx _ _ ⟨hA,by simp[aa,t1],by simp[aa],rfl⟩
   ·simp(maxDischargeDepth:=30)only[AA,↓reduceIte,Q1,Q2,Q3,Q4,reduceCtorEq,Q5,Q6,Q7,XH,cq,k1,r1,n1,t1,t3,gwd,aj,d1]
    exact hx _ _ ⟨hA,by simp[aa,t1],by simp[aa],rfl⟩
 rintro f _ ⟨A3,t1,t4,rfl⟩
 apply Fl 8 (fun m f h'=> ∃i:Nat,i<=8/\ i<=S.board.spots.length/\ m=8 -i/\ f 1= .pointer (some ⟨h.next,0,none⟩)/\ f 4= .int .i64 (i:Int)/\ (∀(j:Nat) w,j<i ->S.board.spots[j]? =some w ->w.length<=7)/\ h'=h1) (fun f h'=>(S.board.spots.length<=8 -> ∀w∈S.board.spots,w.length<=7)/\ f 1= .pointer (some ⟨h.next,0,none⟩)/\ f 5= .int .i64 ((0:Nat):Int)/\ h1=h')
  ⟨0,by omega,by omega,rfl,t1,t4,fun j w hj=>by omega,rfl⟩
 ·rintro m f _ ⟨i,hi,hl,rfl,t1,t4,a4,rfl⟩ ih hx
  by_cases hin:i<S.board.spots.length/\ i<8
  ·obtain⟨hil,hi6⟩:=hin
   have d1:decide ((i:Int)<(S.board.spots.length:Int))=true:=by simpa using hil
   have d2:decide ((i:Int)<8)=true:=by simp;omega
   have w1:IntKind.i64.wrap ((i:Int)+1)=((i+1:Nat):Int):=by rw[bG (by omega) (by omega)];omega
   obtain⟨w,gw⟩: ∃w,S.board.spots[i]? =some w:=⟨_,List.getElem?_eq_getElem hil⟩
   obtain⟨b,o,sp,c,row,ps,cs,ev,hr,v0⟩:=qS.at gw
   have ev:=esp.symm.trans ev
   simp only[Value.slice.injEq,true_and]at ev
   obtain⟨rfl,rfl⟩:=ev
   cases x1:decide ((w.length:Int)>7)with
   |true=>
    simp(maxDischargeDepth:=30)only[AA,↓reduceIte,Q1,Q2,Q3,Q4,reduceCtorEq,Q5,Q6,Q7,XH,cq,k1,r1,n1,t1,t4,gsp,aj,d1,d2,hil,hr,v0,x1,Nat.mul_one,Nat.add_zero]
    exact no _ f1
   |false=>
   simp(maxDischargeDepth:=30)only[AA,↓reduceIte,Q1,Q2,Q3,Q4,reduceCtorEq,Q5,Q6,Q7,XH,cq,k1,r1,n1,t1,t4,gsp,aj,d1,d2,hil,hr,v0,x1,Nat.mul_one,Nat.add_zero,w1]
   refine ih (8 -(i+1)) _ _ (by omega) ⟨i+1,by omega,by omega,rfl,by simp[aa,t1],by simp[aa],fun j w' hj gj=> ?_,rfl⟩
   by_cases e:j=i
   ·subst e
    rw[gw]at gj
    simp only[Option.some.injEq]at gj
    subst gj
    simp at x1;omega
   ·exact a4 j w' (by omega) gj
  ·have hA:S.board.spots.length<=8 -> ∀w∈S.board.spots,w.length<=7:=fun hle w hw=>by
    obtain⟨j,hj⟩:=List.mem_iff_getElem?.1 hw
    have:=(List.getElem?_eq_some_iff.1 hj).1
    exact a4 j w (by omega) hj
   have ends:(decide ((i:Int)<(S.board.spots.length:Int))=true/\ decide ((i:Int)<8)=false) \/decide ((i:Int)<(S.board.spots.length:Int))=false:=by simp;omega
   rcases ends with⟨d1,d2⟩|d1
   ·simp(maxDischargeDepth:=30)only[AA,↓reduceIte,Q1,Q2,Q3,Q4,reduceCtorEq,Q5,Q6,Q7,XH,cq,k1,r1,n1,t1,t4,gsp,aj,d1,d2]
    exact hx _ _ ⟨hA,by simp[aa,t1],by simp[aa],rfl⟩
   ·simp(maxDischargeDepth:=30)only[AA,↓reduceIte,Q1,Q2,Q3,Q4,reduceCtorEq,Q5,Q6,Q7,XH,cq,k1,r1,n1,t1,t4,gsp,aj,d1]
    exact hx _ _ ⟨hA,by simp[aa,t1],by simp[aa],rfl⟩
 rintro f _ ⟨A4,t1,t5,rfl⟩
 apply Fl 8 (fun m f h'=> ∃i:Nat,i<=8/\ i<=S.bench.strokes.length/\ m=8 -i/\ f 1= .pointer (some ⟨h.next,0,none⟩)/\ f 5= .int .i64 (i:Int)/\ (∀(j:Nat) w,j<i ->S.bench.strokes[j]? =some w ->w.needs.length<=8)/\ h'=h1) (fun f h'=>(S.bench.strokes.length<=8 -> ∀w∈S.bench.strokes,w.needs.length<=8)/\ f 1= .pointer (some ⟨h.next,0,none⟩)/\ h1=h')
  ⟨0,by omega,by omega,rfl,t1,t5,fun j w hj=>by omega,rfl⟩
 ·rintro m f _ ⟨i,hi,hl,rfl,t1,t5,a5,rfl⟩ ih hx
  by_cases hin:i<S.bench.strokes.length/\ i<8
  ·obtain⟨hil,hi6⟩:=hin
   have d1:decide ((i:Int)<(S.bench.strokes.length:Int))=true:=by simpa using hil
   have d2:decide ((i:Int)<8)=true:=by simp;omega
   have w1:IntKind.i64.wrap ((i:Int)+1)=((i+1:Nat):Int):=by rw[bG (by omega) (by omega)];omega
   obtain⟨w,gw⟩: ∃w,S.bench.strokes[i]? =some w:=⟨_,List.getElem?_eq_getElem hil⟩
   obtain⟨b,o,sp,c,row,nv,ev,hr,_,_,⟨ps,cs,rfl⟩,_,_,_,_,_,v0⟩:=qB.at gw
   have ev:=est.symm.trans ev
   simp only[Value.slice.injEq,true_and]at ev
   obtain⟨rfl,rfl⟩:=ev
   cases x1:decide ((w.needs.length:Int)>8)with
   |true=>
    simp(maxDischargeDepth:=30)only[AA,↓reduceIte,Q1,Q2,Q3,Q4,reduceCtorEq,Q5,Q6,Q7,XH,cq,k1,r1,n1,t1,t5,gst,aj,d1,d2,hil,hr,v0,x1,Nat.add_zero]
    exact no _ f1
   |false=>
   simp(maxDischargeDepth:=30)only[AA,↓reduceIte,Q1,Q2,Q3,Q4,reduceCtorEq,Q5,Q6,Q7,XH,cq,k1,r1,n1,t1,t5,gst,aj,d1,d2,hil,hr,v0,x1,Nat.add_zero,w1]
   refine ih (8 -(i+1)) _ _ (by omega) ⟨i+1,by omega,by omega,rfl,by simp[aa,t1],by simp[aa],fun j w' hj gj=> ?_,rfl⟩
   by_cases e:j=i
   ·subst e
    rw[gw]at gj
    simp only[Option.some.injEq]at gj
    subst gj
    simp at x1;omega
   ·exact a5 j w' (by omega) gj
  ·have hA:S.bench.strokes.length<=8 -> ∀w∈S.bench.strokes,w.needs.length<=8:=fun hle w hw=>by
    obtain⟨j,hj⟩:=List.mem_iff_getElem?.1 hw
    have:=(List.getElem?_eq_some_iff.1 hj).1
    exact a5 j w (by omega) hj
   have ends:(decide ((i:Int)<(S.bench.strokes.length:Int))=true/\ decide ((i:Int)<8)=false) \/decide ((i:Int)<(S.bench.strokes.length:Int))=false:=by simp;omega
   rcases ends with⟨d1,d2⟩|d1
   ·simp(maxDischargeDepth:=30)only[AA,↓reduceIte,Q1,Q2,Q3,Q4,reduceCtorEq,Q5,Q6,Q7,XH,cq,k1,r1,n1,t1,t5,gst,aj,d1,d2]
    exact hx _ _ ⟨hA,by simp[aa,t1],rfl⟩
   ·simp(maxDischargeDepth:=30)only[AA,↓reduceIte,Q1,Q2,Q3,Q4,reduceCtorEq,Q5,Q6,Q7,XH,cq,k1,r1,n1,t1,t5,gst,aj,d1]
    exact hx _ _ ⟨hA,by simp[aa,t1],rfl⟩
 rintro f _ ⟨A5,t1,rfl⟩
 subst hc
 rcases hB (decide ((S.front.widths.length:Int)<=8))with xw|xw
 ·simp(maxDischargeDepth:=30)only[AA,↓reduceIte,Q1,Q2,Q3,Q4,reduceCtorEq,Q5,Q6,Q7,XH,cq,k1,r1,n1,t1,aj,gw,xw]
  exact no _ f1
 rcases hB (decide ((S.front.pairs.length:Int)<=8))with xpr|xpr
 ·simp(maxDischargeDepth:=30)only[AA,↓reduceIte,Q1,Q2,Q3,Q4,reduceCtorEq,Q5,Q6,Q7,XH,cq,k1,r1,n1,t1,aj,gw,gpr,xw,xpr]
  exact no _ f1
 rcases hB (decide ((S.front.words.length:Int)<=5))with xwd|xwd
 ·simp(maxDischargeDepth:=30)only[AA,↓reduceIte,Q1,Q2,Q3,Q4,reduceCtorEq,Q5,Q6,Q7,XH,cq,k1,r1,n1,t1,aj,gw,gpr,gwd,xw,xpr,xwd]
  exact no _ f1
 rcases hB (decide ((S.coats.dry.length:Int)<=14))with xdry|xdry
 ·simp(maxDischargeDepth:=30)only[AA,↓reduceIte,Q1,Q2,Q3,Q4,reduceCtorEq,Q5,Q6,Q7,XH,cq,k1,r1,n1,t1,aj,gw,gpr,gwd,gdry,xw,xpr,xwd,xdry]
  exact no _ f1
 rcases hB (decide ((S.coats.work.length:Int)<=14))with xwk|xwk
 ·simp(maxDischargeDepth:=30)only[AA,↓reduceIte,Q1,Q2,Q3,Q4,reduceCtorEq,Q5,Q6,Q7,XH,cq,k1,r1,n1,t1,aj,gw,gpr,gwd,gdry,gwk,xw,xpr,xwd,xdry,xwk]
  exact no _ f1
 rcases hB (decide ((S.coats.coats.length:Int)<=7))with xct|xct
 ·simp(maxDischargeDepth:=30)only[AA,↓reduceIte,Q1,Q2,Q3,Q4,reduceCtorEq,Q5,Q6,Q7,XH,cq,k1,r1,n1,t1,aj,gw,gpr,gwd,gdry,gwk,gct,xw,xpr,xwd,xdry,xwk,xct]
  exact no _ f1
 rcases hB (decide ((S.board.spots.length:Int)<=8))with xsp|xsp
 ·simp(maxDischargeDepth:=30)only[AA,↓reduceIte,Q1,Q2,Q3,Q4,reduceCtorEq,Q5,Q6,Q7,XH,cq,k1,r1,n1,t1,aj,gw,gpr,gwd,gdry,gwk,gct,gsp,xw,xpr,xwd,xdry,xwk,xct,xsp]
  exact no _ f1
 rcases hB (decide ((S.bench.boards.length:Int)<=5))with xbo|xbo
 ·simp(maxDischargeDepth:=30)only[AA,↓reduceIte,Q1,Q2,Q3,Q4,reduceCtorEq,Q5,Q6,Q7,XH,cq,k1,r1,n1,t1,aj,gw,gpr,gwd,gdry,gwk,gct,gsp,gbo,xw,xpr,xwd,xdry,xwk,xct,xsp,xbo]
  exact no _ f1
 rcases hB (decide ((S.bench.strokes.length:Int)<=8))with xst|xst
 ·simp(maxDischargeDepth:=30)only[AA,↓reduceIte,Q1,Q2,Q3,Q4,reduceCtorEq,Q5,Q6,Q7,XH,cq,k1,r1,n1,t1,aj,gw,gpr,gwd,gdry,gwk,gct,gsp,gbo,gst,xw,xpr,xwd,xdry,xwk,xct,xsp,xbo,xst]
  exact no _ f1
 rcases hB (decide ((S.tints.tins.length:Int)<=6))with xti|xti
 ·simp(maxDischargeDepth:=30)only[AA,↓reduceIte,Q1,Q2,Q3,Q4,reduceCtorEq,Q5,Q6,Q7,XH,cq,k1,r1,n1,t1,aj,gw,gpr,gwd,gdry,gwk,gct,gsp,gbo,gst,gti,xw,xpr,xwd,xdry,xwk,xct,xsp,xbo,xst,xti]
  exact no _ f1
 rcases hB (decide ((S.stock.length:Int)<=6))with xsk|xsk
 ·simp(maxDischargeDepth:=30)only[AA,↓reduceIte,Q1,Q2,Q3,Q4,reduceCtorEq,Q5,Q6,Q7,XH,cq,k1,r1,n1,t1,aj,gw,gpr,gwd,gdry,gwk,gct,gsp,gbo,gst,gti,gsk,xw,xpr,xwd,xdry,xwk,xct,xsp,xbo,xst,xti,xsk]
  exact no _ f1
 rcases hB (decide ((S.prices.offs.length:Int)<=5))with xof|xof
 ·simp(maxDischargeDepth:=30)only[AA,↓reduceIte,Q1,Q2,Q3,Q4,reduceCtorEq,Q5,Q6,Q7,XH,cq,k1,r1,n1,t1,aj,gw,gpr,gwd,gdry,gwk,gct,gsp,gbo,gst,gti,gsk,gof,xw,xpr,xwd,xdry,xwk,xct,xsp,xbo,xst,xti,xsk,xof]
  exact no _ f1
 rcases hB (decide ((S.prices.boards.length:Int)<=6))with xbd|xbd
 ·simp(maxDischargeDepth:=30)only[AA,↓reduceIte,Q1,Q2,Q3,Q4,reduceCtorEq,Q5,Q6,Q7,XH,cq,k1,r1,n1,t1,aj,gw,gpr,gwd,gdry,gwk,gct,gsp,gbo,gst,gti,gsk,gof,gbd,xw,xpr,xwd,xdry,xwk,xct,xsp,xbo,xst,xti,xsk,xof,xbd]
  exact no _ f1
 rcases hB (decide ((S.prices.tars.length:Int)<=5))with xtr|xtr
 ·simp(maxDischargeDepth:=30)only[AA,↓reduceIte,Q1,Q2,Q3,Q4,reduceCtorEq,Q5,Q6,Q7,XH,cq,k1,r1,n1,t1,aj,gw,gpr,gwd,gdry,gwk,gct,gsp,gbo,gst,gti,gsk,gof,gbd,gtr,xw,xpr,xwd,xdry,xwk,xct,xsp,xbo,xst,xti,xsk,xof,xbd,xtr]
  exact no _ f1
 simp(maxDischargeDepth:=30)only[AA,↓reduceIte,Q1,Q2,Q3,Q4,reduceCtorEq,Q5,Q6,Q7,XH,cq,k1,r1,n1,t1,aj,gw,gpr,gwd,gdry,gwk,gct,gsp,gbo,gst,gti,gsk,gof,gbd,gtr,xw,xpr,xwd,xdry,xwk,xct,xsp,xbo,xst,xti,xsk,xof,xbd,xtr]
 have xw:=of_decide_eq_true xw
 have xpr:=of_decide_eq_true xpr
 have xwd:=of_decide_eq_true xwd
 have xdry:=of_decide_eq_true xdry
 have xwk:=of_decide_eq_true xwk
 have xct:=of_decide_eq_true xct
 have xsp:=of_decide_eq_true xsp
 have xbo:=of_decide_eq_true xbo
 have xst:=of_decide_eq_true xst
 have xti:=of_decide_eq_true xti
 have xsk:=of_decide_eq_true xsk
 have xof:=of_decide_eq_true xof
 have xbd:=of_decide_eq_true xbd
 have xtr:=of_decide_eq_true xtr
 refine⟨⟨true,rfl,fun _=>⟨⟨by omega,by omega,by omega,by omega,by omega,by omega,by omega,by omega,by omega,by omega,by omega,by omega,by omega,by omega,fun w hw=> ?_,fun w hw=> ?_,fun w hw=> ?_⟩,⟨by omega,by omega,by omega,fun w hw=> ?_,fun w hw=> ?_⟩,by omega,⟨by omega,fun w hw=> ?_⟩,⟨by omega,by omega,fun w hw=> ?_⟩⟩⟩,f1⟩
 all_goals first|(have:=A3 (by omega) w hw;omega)|(have:=A4 (by omega) w hw;omega)|(have:=A5 (by omega) w hw;omega)
end Go.Am

namespace Go.Am
open Go Go.Proofs
def bY:=A2 @eF<|A2 @pG<|A2 @vK<|A2 @vI<|A2 @sU<|A2 @vH<|A2 @sT<|A2 @pD<|A2 @zH<|A2 @zG<|A2 @vG<|A2 @mC<|A2 @cG<|A2 @cM<|A2 @mw<|A2 @cS<|A2 @lO<|A2 @kv<|A2 @qZ<|A2 @Hj<|A2 @Hi<|A2 @Hh<|A2 @Dw<|A2 @Ld<|A2 @vz<|A2 @cA<|A2 @Bs<|A2 @Br<|A2 @pk<|A2 @bJ<|A2 @aV<|A2 @ba<|A2 @ia<|A2 @bm<|A2 @bh @jM
theorem W_cut {C:Ctx} {rd:Option Nat} {k':List Item} {n:Nat} {D:List Deferred} {p:Option Value} {X:Option (FEnd×FrS×Heap)} {Q:FEnd ->FrS ->Heap ->Prop} (E:(Nat ->Value) ->Heap ->Prop)
  (hs:(∀f' h',E f' h' ->W (bH C rd k' ⟨T n f',D,p⟩ h') Q) ->W X Q) (he: ∀f' h',E f' h' ->W (bH C rd k' ⟨T n f',D,p⟩ h') Q):W X Q:=hs he
theorem Mh {f:Nat} {sp:yp} {args:List Value} {h h':Heap} {v:Value} (hA:CC.A f=some sp) (hs:sp args h=some (.ret v h' none)):cI CC (bH CC) f args h=some (.ret v h' none):=by
 unfold cI;rw[hA];exact hs
theorem pm (h:Heap):cI CC (bH CC) 7 [] h=some (.ret (.bool true) h none):=Mh (show CC.A 7=some sQ by kernel_rfl) rfl
theorem Bg (c:Bool):eI CC .eql 52 c (.pointer none) (.pointer none)=some (.bool true):=by cases c<;>kernel_rfl
theorem Yk (c:Bool) (a:Addr):eI CC .neq 52 c (.pointer (some a)) (.pointer none)=some (.bool true):=by cases c<;>kernel_rfl
def jP (l:List Int):Bool:=l.all fun n=>decide (n>=0)&&decide (n<=40)
theorem Eg {l:List Int} {i:Nat} {x:Int} (h:l[i]? =some x):jP (l.take (i+1))=(jP (l.take i)&&(decide (x>=0)&&decide (x<=40))):=by
 rw[bI h];simp[jP]
theorem Mc (l:List Int):(!(l.any fun n=> !cL n 0 40))=jP l:=by
 unfold jP
 rw[<-List.all_eq_not_any_not]
 congr 1
 funext n
 simp[cL]
set_option maxRecDepth 10000 in
set_option maxHeartbeats 8000000 in
theorem Ji {h:Heap} (hk:HOK h) (hp:0<h.next) {P Q:Nat ->Prop} {u:SuiteV} {S:SuiteD} (q:IsSuite P h u S) (hs:LP Q h u.sk S.stock aQ 1):
  CW CC 3 [.agg ⟨S.cells u⟩] h fun r h'=>r= .bool true/\ Fr h h':=by
 obtain⟨pw,cw,ew⟩:=q.w.1.len
 obtain⟨ppr,cpr,epr⟩:=q.pr.1.len
 obtain⟨pwd,cwd,ewd⟩:=q.wd.len
 obtain⟨pdry,cdry,edry⟩:=q.dry.1.len
 obtain⟨pwk,cwk,ewk⟩:=q.wk.1.len
 obtain⟨pct,cct,ect⟩:=q.ct.1.len
 obtain⟨psp,csp,esp⟩:=q.sp.len
 obtain⟨pbo,cbo,ebo⟩:=q.bo.1.len
 obtain⟨pst,cst,est⟩:=q.st.len
 obtain⟨pti,cti,eti⟩:=q.ti.1.len
 obtain⟨psk,csk,esk⟩:=hs.1.len
 obtain⟨pof,cof,eof⟩:=q.of.1.len
 obtain⟨pbd,cbd,ebd⟩:=q.bd.1.len
 obtain⟨ptr,ctr,etr⟩:=q.tr.1.len
 have WX:=fun {h':Heap} (g:Fr h h')=>UM g.ok (q.fr hk g) (hs.fr hk g)
 have OX:=fun {h':Heap} (g:Fr h h') (sm:S.Low)=>Yi g.ok (Nat.lt_of_lt_of_le hp g.next) (q.fr hk g) (hs.fr hk g) sm
 obtain⟨R,hR⟩: ∃R,R=S.cells u:=⟨_,rfl⟩
 rw[<-hR]at WX OX⊢
 have aT:aA R 0 35=some R:=by rw[hR];rfl
 have aL:R.length=35:=by rw[hR];rfl
 have aO:bF R=true:=by
  rw[hR]
  unfold SuiteD.cells
  rw[ew,epr,ewd,edry,ewk,ect,esp,ebo,est,eti,esk,eof,ebd,etr];rfl
 have a0:aA R 0 10=some (S.front.cells ⟨u.w,u.pr,u.wd⟩):=by rw[hR];rfl
 have a10:aA R 10 3=some [u.dry,u.wk,u.ct]:=by rw[hR];rfl
 have a13:aA R 13 2=some [.int .i64 S.board.names,u.sp]:=by rw[hR];rfl
 have a15:aA R 15 3=some [.int .i64 S.bench.app,u.bo,u.st]:=by rw[hR];rfl
 have a18:aA R 18 13=some (S.tints.cells u.ti):=by rw[hR];rfl
 have a32:aA R 32 3=some [u.of,u.bd,u.tr]:=by rw[hR];rfl
 have a31:R[31]? =some (.slice psk S.stock.length csk):=by rw[hR];exact congrArg some esk
 have a30:R[30]? =some (.slice pti S.tints.tins.length cti):=by rw[hR];exact congrArg some eti
 have a33:R[33]? =some (.slice pbd S.prices.boards.length cbd):=by rw[hR];exact congrArg some ebd
 have a16:R[16]? =some (.slice pbo S.bench.boards.length cbo):=by rw[hR];exact congrArg some ebo
 clear hR
 refine aw Tryz.f3 (by kernel_rfl) (by kernel_rfl) rfl rfl ?_
 simp only[Tryz.f3]
 generalize hc13:Code.region 13 _ false=c13
 have f1:=aI [.row R 0 true] (Fr.refl hk)
 have r1:rowAt (h.ex [.row R 0 true]) h.next=some R:=aZ rfl
 simp(maxDischargeDepth:=30)only[AA,↓reduceIte,Q1,Q2,Q3,Q4,reduceCtorEq,Q5,Q6,Q7,XH,bY,hk,aT,aL,aO]
 generalize(h.ex [.row R 0 true])=h1 at f1 r1⊢
 refine aC (WX f1) ?_
 rintro _ h2 ⟨⟨b,rfl,hb⟩,f2⟩
 have f02:=f1.trans f2
 have r2:=f2.row' f1.ok r1
 have n2:=f02.next
 cases b with
 |false=>
  simp(maxDischargeDepth:=30)only[AA,↓reduceIte,Q1,Q2,Q3,Q4,reduceCtorEq,Q5,Q6,Q7,XH,bY,f2.ok,pm]
  exact⟨trivial,f02⟩
 |true=>
 have sm:=hb rfl
 simp(maxDischargeDepth:=30)only[AA,↓reduceIte,Q1,Q2,Q3,Q4,reduceCtorEq,Q5,Q6,Q7,XH,bY,f2.ok,r2,aT]
 refine aC (OX f02 sm) ?_
 rintro ro h3 ⟨ho,f3⟩
 have f03:=f02.trans f3
 have r3:=f3.row' f2.ok r2
 have n3:=f03.next
 obtain⟨vd,ve,rfl,hde⟩: ∃vd ve,ro= .tuple ⟨[vd, .int .i64 ve]⟩/\ (if S.okD=true then ve=0/\ ∃d u',vd= .pointer (some ⟨d,0,none⟩)/\ IsDesk0 h3 d S u' else ve=2/\ vd= .pointer none):=by
  by_cases ok:S.okD=true
  ·rw[if_pos ok]at ho
   obtain⟨d,u',e,D⟩:=ho
   exact⟨_,_,e,by rw[if_pos ok];exact⟨rfl,d,u',rfl,D⟩⟩
  ·rw[if_neg ok]at ho
   exact⟨_,_,ho,by rw[if_neg ok];exact⟨rfl,rfl⟩⟩
 clear ho
 have vd1: ∃a,vd= .pointer a:=by
  by_cases ok:S.okD=true
  ·rw[if_pos ok]at hde;obtain⟨_,d,_,e,_⟩:=hde;exact⟨_,e⟩
  ·rw[if_neg ok]at hde;exact⟨_,hde.2⟩
 obtain⟨ad,rfl⟩:=vd1
 simp(maxDischargeDepth:=30)only[AA,↓reduceIte,Q1,Q2,Q3,Q4,reduceCtorEq,Q5,Q6,Q7,XH,bY,f3.ok,r3,a0]
 refine aC (P4 f3.ok (by omega) (q.letV.fr hk f03) sm.front) ?_
 rintro _ h4 ⟨⟨uv,rfl,so1⟩,f4⟩
 have f04:=f03.trans f4
 have r4:=f4.row' f3.ok r3
 have n4:=f04.next
 obtain⟨pu,cu,rfl⟩:=so1.value
 simp only[kK]
 have f5:=aI [.row [.slice none 0 0, .slice pu S.front.setP.1.length cu] 0 true] (Fr.refl f4.ok)
 have x5:rowAt (h4.ex [.row [.slice none 0 0, .slice pu S.front.setP.1.length cu] 0 true]) h4.next=some [.slice none 0 0, .slice pu S.front.setP.1.length cu]:=aZ rfl
 have r5:=f5.row' f4.ok r4
 simp(maxDischargeDepth:=30)only[AA,↓reduceIte,Q1,Q2,Q3,Q4,reduceCtorEq,Q5,Q6,Q7,XH,bY,f4.ok,r4,a10]
 generalize(h4.ex [.row [.slice none 0 0, .slice pu S.front.setP.1.length cu] 0 true])=h5 at f5 x5 r5⊢
 have f05:=f04.trans f5
 have n5:=f05.next
 simp(maxDischargeDepth:=30)only[AA,↓reduceIte,Q1,Q2,Q3,Q4,reduceCtorEq,Q5,Q6,Q7,XH,bY,f5.ok,r5,a10]
 refine aC (uC f5.ok (by omega) (q.coatV.fr hk f05) sm.work) ?_
 rintro _ h6 ⟨⟨v8,rfl,so2⟩,f6⟩
 have f06:=f05.trans f6
 have r6:=f6.row' f5.ok r5
 have n6:=f06.next
 obtain⟨p8,c8,rfl⟩:=so2.value
 simp(maxDischargeDepth:=30)only[AA,↓reduceIte,Q1,Q2,Q3,Q4,reduceCtorEq,Q5,Q6,Q7,XH,bY,f6.ok,r6,a13]
 refine aC (EN f6.ok (q.spotV.fr hk f06) sm.spots) ?_
 rintro _ h7 ⟨⟨v10,rfl,so3⟩,f7⟩
 have f07:=f06.trans f7
 have r7:=f7.row' f6.ok r6
 have n7:=f07.next
 obtain⟨p10,c10,rfl⟩:=so3.value
 simp(maxDischargeDepth:=30)only[AA,↓reduceIte,Q1,Q2,Q3,Q4,reduceCtorEq,Q5,Q6,Q7,XH,bY,f7.ok,r7,a15]
 refine aC (Cp f7.ok (by omega) (q.benchV.fr hk f07) sm.bench) ?_
 rintro _ h8 ⟨⟨v12,rfl,so4⟩,f8⟩
 have f08:=f07.trans f8
 have r8:=f8.row' f7.ok r7
 have n8:=f08.next
 obtain⟨p12,c12,rfl⟩:=so4.value
 simp(maxDischargeDepth:=30)only[AA,↓reduceIte,Q1,Q2,Q3,Q4,reduceCtorEq,Q5,Q6,Q7,XH,bY,f8.ok,r8,a18]
 refine aC (LC f8.ok (q.ti.1.fr hk f08) sm.sm.ti) ?_
 rintro _ h9 ⟨rfl,f9⟩
 have f09:=f08.trans f9
 have r9:=f9.row' f8.ok r8
 have n9:=f09.next
 have z0:((0:Int)==0)=true:=rfl
 have z2:((2:Int)==0)=false:=rfl
 obtain⟨O,hO⟩: ∃O,O=(S.tints.okB&&(S.prices.ok&&(((S.stock.length:Int)==S.tints.tins.length)&&((S.prices.boards.length:Int)==S.bench.boards.length)))):=⟨_,rfl⟩
 obtain⟨K,hK⟩: ∃K:(Nat ->Value) ->Prop,K=fun f=>f 1= .pointer (some ⟨h.next,0,none⟩)/\ f 3= .pointer ad/\ f 4= .int .i64 ve/\ f 5= .pointer (some ⟨h4.next,0,none⟩)/\ f 6= .int .i64 S.front.setP.2.1/\ f 7= .int .i64 S.front.setP.2.2/\ f 8= .slice p8 S.coats.firstP.1.length c8/\ f 9= .int .i64 S.coats.firstP.2/\ f 10= .slice p10 S.board.firstP.1.length c10/\ f 11= .int .i64 S.board.firstP.2/\ f 12= .slice p12 S.bench.bestP.1.length c12/\ f 14= .int .i64 S.bench.bestP.2.2:=⟨_,rfl⟩
 apply W_cut (fun f h'=>K f/\ f 15= .bool O/\ f 16= .int .i64 ((0:Nat):Int)/\ Fr h9 h')
 ·intro hx
  have kz: ∀f:Nat ->Value,f 1= .pointer (some ⟨h.next,0,none⟩) ->f 3= .pointer ad ->f 4= .int .i64 ve ->f 5= .pointer (some ⟨h4.next,0,none⟩) ->f 6= .int .i64 S.front.setP.2.1 ->f 7= .int .i64 S.front.setP.2.2 ->f 8= .slice p8 S.coats.firstP.1.length c8 ->f 9= .int .i64 S.coats.firstP.2 ->f 10= .slice p10 S.board.firstP.1.length c10 ->f 11= .int .i64 S.board.firstP.2 ->f 12= .slice p12 S.bench.bestP.1.length c12 ->f 14= .int .i64 S.bench.bestP.2.2 ->K f:=fun f x1 x3 x4 x5 x6 x7 x8 x9 x10 x11 x12 x14=>by rw[hK];exact⟨x1,x3,x4,x5,x6,x7,x8,x9,x10,x11,x12,x14⟩
  cases o2:S.tints.okB with
  |false=>
   simp(maxDischargeDepth:=30)only[AA,↓reduceIte,Q1,Q2,Q3,Q4,reduceCtorEq,Q5,Q6,Q7,XH,bY,f9.ok,z2,aj]
   exact hx _ _ ⟨kz _ (by simp[aa]) (by simp[aa]) (by simp[aa]) (by simp[aa]) (by simp[aa]) (by simp[aa]) (by simp[aa]) (by simp[aa]) (by simp[aa]) (by simp[aa]) (by simp[aa]) (by simp[aa]),by simp[aa,hO,o2],by simp[aa],(Fr.refl f9.ok)⟩
  |true=>
  simp(maxDischargeDepth:=30)only[AA,↓reduceIte,Q1,Q2,Q3,Q4,reduceCtorEq,Q5,Q6,Q7,XH,bY,f9.ok,z0,r9,a32]
  refine aC (LD f9.ok (q.sheetV.fr hk f09)) ?_
  rintro _ h10 ⟨rfl,f10⟩
  have f010:=f09.trans f10
  have r10:=f10.row' f9.ok r9
  cases o4:S.prices.ok with
  |false=>
   simp(maxDischargeDepth:=30)only[AA,↓reduceIte,Q1,Q2,Q3,Q4,reduceCtorEq,Q5,Q6,Q7,XH,bY,f10.ok,z0,z2,aj]
   exact hx _ _ ⟨kz _ (by simp[aa]) (by simp[aa]) (by simp[aa]) (by simp[aa]) (by simp[aa]) (by simp[aa]) (by simp[aa]) (by simp[aa]) (by simp[aa]) (by simp[aa]) (by simp[aa]) (by simp[aa]),by simp[aa,hO,o2,o4],by simp[aa],f10⟩
  |true=>
  cases o3:((S.stock.length:Int)==(S.tints.tins.length:Int))with
  |false=>
   simp(maxDischargeDepth:=30)only[AA,↓reduceIte,Q1,Q2,Q3,Q4,reduceCtorEq,Q5,Q6,Q7,XH,bY,f10.ok,z0,z2,r10,a31,a30,o3,aj]
   exact hx _ _ ⟨kz _ (by simp[aa]) (by simp[aa]) (by simp[aa]) (by simp[aa]) (by simp[aa]) (by simp[aa]) (by simp[aa]) (by simp[aa]) (by simp[aa]) (by simp[aa]) (by simp[aa]) (by simp[aa]),by simp[aa,hO,o2,o4,o3],by simp[aa],f10⟩
  |true=>
  cases o5:((S.prices.boards.length:Int)==(S.bench.boards.length:Int))with
  |false=>
   simp(maxDischargeDepth:=30)only[AA,↓reduceIte,Q1,Q2,Q3,Q4,reduceCtorEq,Q5,Q6,Q7,XH,bY,f10.ok,z0,z2,r10,a31,a30,a33,a16,o3,o5,aj]
   exact hx _ _ ⟨kz _ (by simp[aa]) (by simp[aa]) (by simp[aa]) (by simp[aa]) (by simp[aa]) (by simp[aa]) (by simp[aa]) (by simp[aa]) (by simp[aa]) (by simp[aa]) (by simp[aa]) (by simp[aa]),by simp[aa,hO,o2,o4,o3,o5],by simp[aa],f10⟩
  |true=>
   simp(maxDischargeDepth:=30)only[AA,↓reduceIte,Q1,Q2,Q3,Q4,reduceCtorEq,Q5,Q6,Q7,XH,bY,f10.ok,z0,z2,r10,a31,a30,a33,a16,o3,o5,aj]
   exact hx _ _ ⟨kz _ (by simp[aa]) (by simp[aa]) (by simp[aa]) (by simp[aa]) (by simp[aa]) (by simp[aa]) (by simp[aa]) (by simp[aa]) (by simp[aa]) (by simp[aa]) (by simp[aa]) (by simp[aa]),by simp[aa,hO,o2,o4,o3,o5],by simp[aa],f10⟩
 rintro f hA ⟨k0,t15,t16,fA⟩
 have kA:=fA.ok
 have rA:=fA.row' f9.ok r9
 have f0A:=f09.trans fA
 have nA:=af kA rA
 have skl:=sm.sm.sk
 have lsk:=hs.1.fr hk f0A
 rw[esk]at lsk
 refine eT S.stock.length (fun m f h'=> ∃i:Nat,i<=S.stock.length/\ m=S.stock.length -i/\ K f/\ f 15= .bool (O&&jP (S.stock.take i))/\ f 16= .int .i64 (i:Int)/\ hA=h')
  ⟨0,by omega,rfl,k0,by simp[t15,jP],t16,rfl⟩ ?_
 clear k0 t15 t16
 rintro m f _ ⟨i,hi,rfl,k0,t15,t16,rfl⟩ ih
 rw[hK]at k0
 obtain⟨t1,t3,t4,t5,t6,t7,t8,t9,t10,t11,t12,t14⟩:=k0
 have kk: ∀f',f' 1=f 1 ->f' 3=f 3 ->f' 4=f 4 ->f' 5=f 5 ->f' 6=f 6 ->f' 7=f 7 ->f' 8=f 8 ->f' 9=f 9 ->f' 10=f 10 ->f' 11=f 11 ->f' 12=f 12 ->f' 14=f 14 ->K f':=fun f' x1 x3 x4 x5 x6 x7 x8 x9 x10 x11 x12 x14=>by
  rw[hK];exact⟨x1.trans t1,x3.trans t3,x4.trans t4,x5.trans t5,x6.trans t6,x7.trans t7,x8.trans t8,x9.trans t9,x10.trans t10,x11.trans t11,x12.trans t12,x14.trans t14⟩
 by_cases hil:i<S.stock.length
 ·obtain⟨x,gx⟩: ∃x,S.stock[i]? =some x:=⟨_,List.getElem?_eq_getElem hil⟩
  rcases lsk with e|⟨b,o,sp,c,row,e,hr,hy⟩
  ·rw[e.1]at hil;simp at hil
  simp only[Value.slice.injEq,true_and]at e
  obtain⟨rfl,rfl⟩:=e
  have c1:row[o+i]? =some (.int .i64 x):=by simpa[aQ]using(hy _ _ gx).2 0 (by omega)
  have nb:=af kA hr
  have sn:=Eg gx
  cases b0:(O&&jP (S.stock.take i))with
  |false=>
   rw[b0]at t15
   simp(maxDischargeDepth:=30)only[AA,↓reduceIte,Q1,Q2,Q3,Q4,reduceCtorEq,Q5,Q6,Q7,XH,bY,kA,t1,t15,t16,cX hil,hil,rA,a31,aj,bp hil (by omega)]
   refine ih (S.stock.length -(i+1)) _ _ (by omega) ⟨i+1,by omega,rfl,(kk _ (by simp[aa]) (by simp[aa]) (by simp[aa]) (by simp[aa]) (by simp[aa]) (by simp[aa]) (by simp[aa]) (by simp[aa]) (by simp[aa]) (by simp[aa]) (by simp[aa]) (by simp[aa])),?_,by simp[aa],rfl⟩
   rw[sn,<-Bool.and_assoc,b0];simp[aa]
  |true=>
  rw[b0]at t15
  cases b1:decide (x>=0)with
  |false=>
   simp(maxDischargeDepth:=30)only[AA,↓reduceIte,Q1,Q2,Q3,Q4,reduceCtorEq,Q5,Q6,Q7,XH,bY,kA,t1,t15,t16,cX hil,hil,rA,a31,aj,hr,nb,c1,Nat.mul_one,b1,bp hil (by omega)]
   refine ih (S.stock.length -(i+1)) _ _ (by omega) ⟨i+1,by omega,rfl,(kk _ (by simp[aa]) (by simp[aa]) (by simp[aa]) (by simp[aa]) (by simp[aa]) (by simp[aa]) (by simp[aa]) (by simp[aa]) (by simp[aa]) (by simp[aa]) (by simp[aa]) (by simp[aa])),?_,by simp[aa],rfl⟩
   rw[sn,<-Bool.and_assoc,b0,b1];simp[aa]
  |true=>
   simp(maxDischargeDepth:=30)only[AA,↓reduceIte,Q1,Q2,Q3,Q4,reduceCtorEq,Q5,Q6,Q7,XH,bY,kA,t1,t15,t16,cX hil,hil,rA,a31,aj,hr,nb,c1,Nat.mul_one,b1,bp hil (by omega)]
   refine ih (S.stock.length -(i+1)) _ _ (by omega) ⟨i+1,by omega,rfl,(kk _ (by simp[aa]) (by simp[aa]) (by simp[aa]) (by simp[aa]) (by simp[aa]) (by simp[aa]) (by simp[aa]) (by simp[aa]) (by simp[aa]) (by simp[aa]) (by simp[aa]) (by simp[aa])),?_,by simp[aa],rfl⟩
   rw[sn,<-Bool.and_assoc,b0,b1];simp[aa]
 ·have hin:i=S.stock.length:=by omega
  subst hin
  rw[List.take_of_length_le (Nat.le_refl _)]at t15
  have nh:=n2
  simp(maxDischargeDepth:=30)only[AA,↓reduceIte,Q1,Q2,Q3,Q4,reduceCtorEq,Q5,Q6,Q7,XH,bY,kA,t1,t15,t16,dL,rA,a31]
  subst hc13
  have be:S.bench.bestP.2.2=if S.bench.ok=true then 0 else 2:=by
   unfold Bench.bestP
   by_cases e:S.bench.ok=true
   ·rw[if_pos e,if_neg (by simp[e])];cases S.bench.timed<;>rfl
   ·rw[if_neg e,if_pos (by simpa using e)]
  have okE:S.okD=((S.front.setP.2.2==0)&&((S.coats.firstP.2==0)&&((S.board.firstP.2==0)&&((S.bench.bestP.2.2==0)&&(O&&jP S.stock))))):=by
   rw[hO,be]
   unfold SuiteD.okD SuiteD.stockB
   rw[Mc]
   cases S.bench.ok<;>simp
   ·intros
    grind
  have f9A:=f9.trans fA
  by_cases ok:S.okD=true
  ·rw[if_pos ok]at hde
   obtain⟨rfl,d,u',e,D⟩:=hde
   simp only[Value.pointer.injEq]at e
   subst e
   have D:=((((((D.fr f3.ok f4).fr f4.ok f5).fr f5.ok f6).fr f6.ok f7).fr f7.ok f8).fr f8.ok f9A)
   have okE2:=okE.symm.trans ok
   simp only[Bool.and_eq_true,beq_iff_eq]at okE2
   obtain⟨e7,e9,e11,e14,eO,eS⟩:=okE2
   rw[eO,eS]at t15
   rw[e7]at t7
   rw[e9]at t9
   rw[e11]at t11
   rw[e14]at t14
   have xA:=fA.row' f9.ok (f9.row' f8.ok (f8.row' f7.ok (f7.row' f6.ok (f6.row' f5.ok x5))))
   have s2:=((so2.fr f6.ok f7).fr f7.ok f8).fr f8.ok f9A
   have s3:=(so3.fr f7.ok f8).fr f8.ok f9A
   have s4:=so4.fr f8.ok f9A
   have nA':=fA.next
   have nn:0<hA.next:=by omega
   have fB:=aI [.row [.int .i64 (S.front.setP.1.length:Int), .int .i64 S.front.setP.2.1] 1 true] (Fr.refl kA)
   have lw:=(show SL 0 (hA.ex [.row [.int .i64 (S.front.setP.1.length:Int), .int .i64 S.front.setP.2.1] 1 true]) (aG 1 2 2 hA.next) ([(S.front.setP.1.length:Int),S.front.setP.2.1].flatMap aQ) 1 2 from .inr ⟨_,rfl,by omega,Nat.zero_le _,dG rfl,rfl⟩).ls (xs:=[(S.front.setP.1.length:Int),S.front.setP.2.1]) aP
   simp(maxDischargeDepth:=30)only[AA,↓reduceIte,Q1,Q2,Q3,Q4,reduceCtorEq,Q5,Q6,Q7,XH,bY,kA,t1,t3,t4,t5,t6,t7,t8,t9,t10,t11,t12,t14,t15,Bool.and_self,z0,Yk,xA,bs_2]
   refine aC (Av (.inl ⟨rfl,rfl,rfl⟩) sm ok fB.ok (by have:=fB.next;omega) (D.fr kA fB) lw) ?_
   rintro _ hB ⟨rfl,fC⟩
   have fD:=fB.trans fC
   have nD:=fD.next
   simp(maxDischargeDepth:=30)only[AA,↓reduceIte,Q1,Q2,Q3,Q4,reduceCtorEq,Q5,Q6,Q7,XH,bY,fC.ok,t1,t3,t4,t5,t6,t7,t8,t9,t10,t11,t12,t14,t15]
   refine aC (Av (.inr (.inl ⟨rfl,rfl,rfl⟩)) sm ok fC.ok (by omega) (D.fr kA fD) ((s2.fr kA fD).ls aP)) ?_
   rintro _ hC ⟨rfl,fE⟩
   have fF:=fD.trans fE
   have nF:=fF.next
   simp(maxDischargeDepth:=30)only[AA,↓reduceIte,Q1,Q2,Q3,Q4,reduceCtorEq,Q5,Q6,Q7,XH,bY,fE.ok,t1,t3,t4,t5,t6,t7,t8,t9,t10,t11,t12,t14,t15]
   refine aC (Av (.inr (.inr (.inl ⟨rfl,rfl,rfl⟩))) sm ok fE.ok (by omega) (D.fr kA fF) ((s3.fr kA fF).ls aP)) ?_
   rintro _ hD ⟨rfl,fG⟩
   have fH:=fF.trans fG
   have nH:=fH.next
   simp(maxDischargeDepth:=30)only[AA,↓reduceIte,Q1,Q2,Q3,Q4,reduceCtorEq,Q5,Q6,Q7,XH,bY,fG.ok,t1,t3,t4,t5,t6,t7,t8,t9,t10,t11,t12,t14,t15]
   refine aC (Av (.inr (.inr (.inr (.inl ⟨rfl,rfl,rfl⟩)))) sm ok fG.ok (by omega) (D.fr kA fH) ((s4.fr kA fH).ls aP)) ?_
   rintro _ hE ⟨rfl,fI⟩
   have fJ:=fH.trans fI
   have nJ:=fJ.next
   simp(maxDischargeDepth:=30)only[AA,↓reduceIte,Q1,Q2,Q3,Q4,reduceCtorEq,Q5,Q6,Q7,XH,bY,fI.ok,t1,t3,t4,t5,t6,t7,t8,t9,t10,t11,t12,t14,t15]
   refine aC (Av (.inr (.inr (.inr (.inr ⟨rfl,rfl,rfl⟩)))) sm ok fI.ok (by omega) (D.fr kA fJ) (show LS hE (.slice none 0 0) [] aQ 1 from .inl ⟨rfl,_,_,rfl⟩)) ?_
   rintro _ hG ⟨rfl,fK⟩
   simp(maxDischargeDepth:=30)only[AA,↓reduceIte,Q1,Q2,Q3,Q4,reduceCtorEq,Q5,Q6,Q7,XH,bY,fK.ok,t1,t3,t4,t5,t6,t7,t8,t9,t10,t11,t12,t14,t15,pm]
   exact⟨trivial,f0A.trans (fJ.trans fK)⟩
  ·rw[if_neg ok]at hde
   obtain⟨rfl,e⟩:=hde
   simp only[Value.pointer.injEq]at e
   subst e
   rw[okE]at ok
   have z22:((2:Int)==2)=true:=rfl
   cases y7:(S.front.setP.2.2==0)with
   |false=>
    simp(maxDischargeDepth:=30)only[AA,↓reduceIte,Q1,Q2,Q3,Q4,reduceCtorEq,Q5,Q6,Q7,XH,bY,kA,t1,t3,t4,t5,t6,t7,t8,t9,t10,t11,t12,t14,t15,y7,z22,Bg,aj,pm]
    exact⟨trivial,f0A⟩
   |true=>
   cases y9:(S.coats.firstP.2==0)with
   |false=>
    simp(maxDischargeDepth:=30)only[AA,↓reduceIte,Q1,Q2,Q3,Q4,reduceCtorEq,Q5,Q6,Q7,XH,bY,kA,t1,t3,t4,t5,t6,t7,t8,t9,t10,t11,t12,t14,t15,y7,y9,z22,Bg,aj,pm]
    exact⟨trivial,f0A⟩
   |true=>
   cases y11:(S.board.firstP.2==0)with
   |false=>
    simp(maxDischargeDepth:=30)only[AA,↓reduceIte,Q1,Q2,Q3,Q4,reduceCtorEq,Q5,Q6,Q7,XH,bY,kA,t1,t3,t4,t5,t6,t7,t8,t9,t10,t11,t12,t14,t15,y7,y9,y11,z22,Bg,aj,pm]
    exact⟨trivial,f0A⟩
   |true=>
   cases y14:(S.bench.bestP.2.2==0)with
   |false=>
    simp(maxDischargeDepth:=30)only[AA,↓reduceIte,Q1,Q2,Q3,Q4,reduceCtorEq,Q5,Q6,Q7,XH,bY,kA,t1,t3,t4,t5,t6,t7,t8,t9,t10,t11,t12,t14,t15,y7,y9,y11,y14,z22,Bg,aj,pm]
    exact⟨trivial,f0A⟩
   |true=>
   cases y15:(O&&jP S.stock)with
   |false=>
    rw[y15]at t15
    simp(maxDischargeDepth:=30)only[AA,↓reduceIte,Q1,Q2,Q3,Q4,reduceCtorEq,Q5,Q6,Q7,XH,bY,kA,t1,t3,t4,t5,t6,t7,t8,t9,t10,t11,t12,t14,t15,y7,y9,y11,y14,y15,z22,Bg,aj,pm]
    exact⟨trivial,f0A⟩
   |true=>
   rw[y7,y9,y11,y14,y15]at ok
   exact absurd rfl ok
end Go.Am
