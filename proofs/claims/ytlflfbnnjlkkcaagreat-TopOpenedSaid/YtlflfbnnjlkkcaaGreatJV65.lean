/- Parts V65, V66, V67 of the abstract machine over this program, joined: what each part says stands at its head. -/
import Derived.Test.YtlflfbnnjlkkcaaGreatJV62
set_option linter.unusedSimpArgs false
set_option linter.unusedVariables false
set_option linter.defProp false
open Nat renaming reduceLT→Q1,reduceEqDiff→Q2,reduceAdd→Q3,reduceMul→Q4,reduceLeDiff→Q5
open Int renaming reduceNe→Q6,reduceEq→Q7
namespace Go.Am
open Go Go.Proofs
def kV:=A2 @Lr<|A2 @pG<|A2 @kR<|A2 @cM<|A2 @cS<|A2 @vA<|A2 @qZ<|A2 @cA @xj
def kh:=A2 @iR<|A2 @iQ<|A2 @pG<|A2 @kR<|A2 @V6<|A2 @EH<|A2 @vE<|A2 @cG<|A2 @vB<|A2 @cM<|A2 @cS<|A2 @vA<|A2 @Hf<|A2 @cA<|A2 @bJ<|A2 @kM<|A2 @aV<|A2 @ba<|A2 @kI<|A2 @gq<|A2 @bm<|A2 @jC<|A2 @bh<|A2 @ky @uK
theorem aj (b:Bool):uH b undef=false:=by cases b<;>rfl
structure IsStrokeL (h:Heap) (u:StrokeV) (w:BStroke):Prop where
 board:u.board=w.board
 round:u.round=w.round
 lo:u.lo=w.lo
 hi:u.hi=w.hi
 needs:LS h u.needs w.needs aQ 1
theorem IsStrokeL.fr {h h':Heap} {u:StrokeV} {w:BStroke} (q:IsStrokeL h u w) (hk:HOK h) (f:Fr h h'):IsStrokeL h' u w:=⟨q.board,q.round,q.lo,q.hi,q.needs.fr hk f⟩
structure IsBenchV (h:Heap) (bo st:Value) (B:Bench):Prop where
 bo:LS h bo B.boards aQ 1
 st: ∃us,LS h st us StrokeV.cells 5/\ LR IsStrokeL h us B.strokes
theorem IsBenchV.fr {h h':Heap} {bo st:Value} {B:Bench} (q:IsBenchV h bo st B) (hk:HOK h) (f:Fr h h'):IsBenchV h' bo st B:=by
 obtain⟨us,q1,q2⟩:=q.st
 exact⟨q.bo.fr hk f,us,q1.fr hk f,q2.map fun _ _ e=>e.fr hk f⟩
theorem IsBenchV.len {h:Heap} {bo st:Value} {B:Bench} (q:IsBenchV h bo st B): ∃p c,st= .slice p B.strokes.length c:=by
 obtain⟨us,q1,q2⟩:=q.st
 rw[<-q2.1];exact q1.len
theorem IsBenchV.at {h:Heap} {bo st:Value} {B:Bench} (q:IsBenchV h bo st B) {i:Nat} {w:BStroke} (hw:B.strokes[i]? =some w): ∃b o sp c row n,st= .slice (some ⟨b,o,sp⟩) B.strokes.length c/\ rowAt h b=some row/\ i<B.strokes.length/\ LS h n w.needs aQ 1/\ (∃p c,n= .slice p w.needs.length c)/\
  aA row (o+i*5) 5=some [.int .i64 w.board, .bool w.round, .int .i64 w.lo, .int .i64 w.hi,n]/\ row[o+i*5]? =some (.int .i64 w.board)/\ row[o+i*5+1]? =some (.bool w.round)/\ row[o+i*5+2]? =some (.int .i64 w.lo)/\ row[o+i*5+3]? =some (.int .i64 w.hi)/\ row[o+i*5+4]? =some n:=by
 obtain⟨us,q1,q2⟩:=q.st
 have hi:=(List.getElem?_eq_some_iff.1 hw).1
 obtain⟨x,hx⟩: ∃x,us[i]? =some x:=⟨_,List.getElem?_eq_getElem (by rw[q2.1];exact hi)⟩
 have hr:=q2.2 i x w hx hw
 rcases q1 with⟨e,_⟩|⟨b,o,sp,c,row,e,hr',hy⟩
 ·rw[e]at hx;simp at hx
 ·have t:=(hy i x hx).1
  have a:=(hy i x hx).2
  refine⟨b,o,sp,c,row,x.needs,by rw[e,q2.1],hr',hi,hr.needs,hr.needs.len,?_,?_,?_,?_,?_,?_⟩
  ·simpa[StrokeV.cells,hr.board,hr.round,hr.lo,hr.hi]using t
  ·simpa[StrokeV.cells,hr.board]using a 0 (by omega)
  ·simpa[StrokeV.cells,hr.round]using a 1 (by omega)
  ·simpa[StrokeV.cells,hr.lo]using a 2 (by omega)
  ·simpa[StrokeV.cells,hr.hi]using a 3 (by omega)
  ·simpa[StrokeV.cells]using a 4 (by omega)
def lN (n:Nat) (l:List Int) (i:Nat):Bool:=cL (l.getD i 0) 0 ((n:Int) -1)&&(i==0||decide (l.getD (i -1) 0<l.getD i 0))
def ui (n:Nat) (l:List Int):Bool:=(List.range l.length).all (lN n l)
def Bench.strokeB (B:Bench) (n:Nat):Bool:=match B.strokes[n]? with
 |some w=>ui n w.needs&&(cL w.board 0 ((B.boards.length:Int) -1)&&(cL w.lo 1 6&&cL w.hi w.lo 6))
 |none=>false
def Bench.ok (B:Bench):Bool:=cL B.app 0 3&&(cL B.boards.length 1 3&&(cL B.strokes.length 1 6&&((List.range B.strokes.length).all B.strokeB&& !(B.boards.any fun n=> !(cL n 0 60)))))
structure Bench.Small (B:Bench):Prop where
 bo:B.boards.length<=1000
 st:B.strokes.length<=1000
 needs: ∀w∈B.strokes,w.needs.length<=1000
set_option maxRecDepth 10000 in
set_option maxHeartbeats 1000000 in
theorem JG {h:Heap} (hk:HOK h) {bo st:Value} {B:Bench} (q:IsBenchV h bo st B) (sm:B.Small) {n:Nat} (hn:n<B.strokes.length):
  CW CC 125 [.agg ⟨[.int .i64 B.app,bo,st]⟩, .int .i64 (n:Int)] h fun r h'=>r= .bool (B.strokeB n)/\ Fr h h':=by
 obtain⟨w,hw⟩: ∃w,B.strokes[n]? =some w:=⟨_,List.getElem?_eq_getElem hn⟩
 obtain⟨b,o,sp,c,row,nv,rfl,hr,_,ln,⟨pn,cn,rfl⟩,ct,_⟩:=q.at hw
 obtain⟨pb,cb,rfl⟩:=q.bo.len
 have nl:=sm.needs w (List.mem_of_getElem? hw)
 have nb:=af hk hr
 have n1000:=sm.st
 have b1000:=sm.bo
 refine aw Tryz.f125 (by kernel_rfl) (by kernel_rfl) rfl rfl ?_
 simp only[Tryz.f125]
 have f1:=aI [.row [.int .i64 B.app, .slice pb B.boards.length cb, .slice (some ⟨b,o,sp⟩) B.strokes.length c] 0 true, .row [.int .i64 w.board, .bool w.round, .int .i64 w.lo, .int .i64 w.hi, .slice pn w.needs.length cn] 0 true] (Fr.refl hk)
 have r1:rowAt (h.ex [.row [.int .i64 B.app, .slice pb B.boards.length cb, .slice (some ⟨b,o,sp⟩) B.strokes.length c] 0 true, .row [.int .i64 w.board, .bool w.round, .int .i64 w.lo, .int .i64 w.hi, .slice pn w.needs.length cn] 0 true]) h.next=some [.int .i64 B.app, .slice pb B.boards.length cb, .slice (some ⟨b,o,sp⟩) B.strokes.length c]:=aZ rfl
 have r2:rowAt (h.ex [.row [.int .i64 B.app, .slice pb B.boards.length cb, .slice (some ⟨b,o,sp⟩) B.strokes.length c] 0 true, .row [.int .i64 w.board, .bool w.round, .int .i64 w.lo, .int .i64 w.hi, .slice pn w.needs.length cn] 0 true]) (h.next+1)=some [.int .i64 w.board, .bool w.round, .int .i64 w.lo, .int .i64 w.hi, .slice pn w.needs.length cn]:=by rw[jy rfl (by simp)];rfl
 simp(maxDischargeDepth:=30)only[AA,↓reduceIte,Q1,Q2,Q3,Q4,reduceCtorEq,Q5,Q6,Q7,XH,kh,hk,hn,hr,nb,ct]
 generalize(h.ex [.row [.int .i64 B.app, .slice pb B.boards.length cb, .slice (some ⟨b,o,sp⟩) B.strokes.length c] 0 true, .row [.int .i64 w.board, .bool w.round, .int .i64 w.lo, .int .i64 w.hi, .slice pn w.needs.length cn] 0 true])=H at f1 r1 r2⊢
 have m1:=af f1.ok r1
 have m2:=af f1.ok r2
 have w1:IntKind.i64.wrap ((n:Int) -1)=(n:Int) -1:=bG (by omega) (by omega)
 have lH:=ln.fr hk f1
 obtain⟨_,_,e0,hx⟩:=lH.open
 simp only[Value.slice.injEq]at e0
 obtain⟨rfl,_,rfl⟩:=e0
 have ns: ∀i,i<w.needs.length ->lN n w.needs i=false ->B.strokeB n=false:=fun i hi e=>by
  unfold Bench.strokeB;rw[hw]
  have:ui n w.needs=false:=by unfold ui;rw[List.all_eq_false];exact⟨i,List.mem_range.2 hi,by rw[e];simp⟩
  simp only[this,Bool.false_and]
 refine dN [4,6,7,16,17,18,19,20,21,22,23,24,25,26,27,28,29,30,31,32,33,34,35,36,37,38,39,40] 16 w.needs.length (fun i g h'=>h'=H/\ ∀j,j<i ->lN n w.needs j=true) (by simp only[aa,↓reduceIte]) ⟨rfl,fun j hj=>by omega⟩ ?_ ?_
 ·rintro i g _ hi ag g16 ⟨rfl,ha⟩ ih
  obtain⟨x,gx⟩: ∃x,w.needs[i]? =some x:=⟨_,List.getElem?_eq_getElem hi⟩
  have gd:w.needs.getD i 0=x:=by rw[List.getD_eq_getElem?_getD,gx];rfl
  rcases hx with hx|⟨b2,o2,sp2,row2,rfl,hr2,hx⟩
  ·rw[hx]at hi;simp at hi
  have c1:row2[o2+i]? =some (.int .i64 x):=by simpa[aQ]using(hx _ x gx).2 0 (by omega)
  have nb2:=af f1.ok hr2
  cases q1:cL x 0 ((n:Int) -1)with
  |false=>
   simp(maxDischargeDepth:=30)only[AA,↓reduceIte,Q1,Q2,Q3,Q4,reduceCtorEq,Q5,Q6,Q7,XH,kh,ag.r,NE,g16,f1.ok,cX hi,hi,hr2,c1,Nat.mul_one,w1,fP,q1,aj]
   exact⟨by rw[ns i hi (by unfold lN;rw[gd,q1];rfl)],f1⟩
  |true=>
  by_cases i0:i=0
  ·have z:decide ((i:Int)>0)=false:=decide_eq_false (by omega)
   simp(maxDischargeDepth:=30)only[AA,↓reduceIte,Q1,Q2,Q3,Q4,reduceCtorEq,Q5,Q6,Q7,XH,kh,ag.r,NE,g16,f1.ok,cX hi,hi,hr2,c1,Nat.mul_one,w1,fP,q1,aj,z,bp hi nl]
   refine ih _ _ (by simp only[AG,Nat.reduceEqDiff,ag]) (by simp only[aa,↓reduceIte]) ⟨rfl,fun j hj=> ?_⟩
   obtain rfl:j=i:=by omega
   unfold lN;rw[gd,q1,i0];rfl
  ·obtain⟨y,gy⟩: ∃y,w.needs[i -1]? =some y:=⟨_,List.getElem?_eq_getElem (by omega)⟩
   have gd':w.needs.getD (i -1) 0=y:=by rw[List.getD_eq_getElem?_getD,gy];rfl
   have c2:row2[o2+(i -1)]? =some (.int .i64 y):=by simpa[aQ]using(hx _ y gy).2 0 (by omega)
   have w2:IntKind.i64.wrap ((i:Int) -1)=((i -1:Nat):Int):=by rw[bG (by omega) (by omega)];omega
   have z:decide ((i:Int)>0)=true:=decide_eq_true (by omega)
   have hi':i -1<w.needs.length:=by omega
   cases q2:decide (x<=y)with
   |true=>
    simp(maxDischargeDepth:=30)only[AA,↓reduceIte,Q1,Q2,Q3,Q4,reduceCtorEq,Q5,Q6,Q7,XH,kh,ag.r,NE,g16,f1.ok,cX hi,hi,hi',hr2,r2,m2,c1,c2,Nat.mul_one,w1,w2,fP,q1,q2,z]
    have e0:lN n w.needs i=false:=by
     unfold lN;rw[gd,gd',q1]
     have:=of_decide_eq_true q2
     simp[i0];omega
    exact⟨by rw[ns i hi e0],f1⟩
   |false=>
    simp(maxDischargeDepth:=30)only[AA,↓reduceIte,Q1,Q2,Q3,Q4,reduceCtorEq,Q5,Q6,Q7,XH,kh,ag.r,NE,g16,f1.ok,cX hi,hi,hi',hr2,r2,m2,c1,c2,Nat.mul_one,w1,w2,fP,q1,q2,z,bp hi nl]
    refine ih _ _ (by simp only[AG,Nat.reduceEqDiff,ag]) (by simp only[aa,↓reduceIte]) ⟨rfl,fun j hj=> ?_⟩
    by_cases hji:j<i
    ·exact ha j hji
    ·obtain rfl:j=i:=by omega
     unfold lN;rw[gd,gd',q1]
     have:=of_decide_eq_false q2
     simp;omega
 ·rintro g _ ag g16 ⟨rfl,ha⟩
  have nB:ui n w.needs=true:=by unfold ui;rw[List.all_eq_true];exact fun j hj=>ha j (List.mem_range.1 hj)
  have w2:IntKind.i64.wrap ((B.boards.length:Int) -1)=(B.boards.length:Int) -1:=bG (by omega) (by omega)
  have e:B.strokeB n=(cL w.board 0 ((B.boards.length:Int) -1)&&(cL w.lo 1 6&&cL w.hi w.lo 6)):=by unfold Bench.strokeB;rw[hw];simp only[nB,Bool.true_and]
  rw[e]
  cases q1:cL w.board 0 ((B.boards.length:Int) -1)with
  |false=>
   simp(maxDischargeDepth:=30)only[AA,↓reduceIte,Q1,Q2,Q3,Q4,reduceCtorEq,Q5,Q6,Q7,XH,kh,ag.r,NE,g16,f1.ok,dL,r1,r2,m1,m2,w2,fP,q1]
   exact⟨by simp,f1⟩
  |true=>
  cases q2:cL w.lo 1 6 with
  |false=>
   simp(maxDischargeDepth:=30)only[AA,↓reduceIte,Q1,Q2,Q3,Q4,reduceCtorEq,Q5,Q6,Q7,XH,kh,ag.r,NE,g16,f1.ok,dL,r1,r2,m1,m2,w2,fP,q1,q2]
   exact⟨by simp,f1⟩
  |true=>
   simp(maxDischargeDepth:=30)only[AA,↓reduceIte,Q1,Q2,Q3,Q4,reduceCtorEq,Q5,Q6,Q7,XH,kh,ag.r,NE,g16,f1.ok,dL,r1,r2,m1,m2,w2,fP,q1,q2]
   exact⟨by simp,f1⟩
theorem JJ (x:Int) (h:Heap):cI CC (bH CC) 126 [.int .i64 x] h=some (.ret (.bool (!(cL x 0 60))) h none):=by
 refine CW.eq (aw Tryz.f126 (by kernel_rfl) (by kernel_rfl) rfl rfl ?_)
 simp only[Tryz.f126]
 simp(maxDischargeDepth:=30)only[AA,↓reduceIte,Q1,Q2,Q3,Q4,reduceCtorEq,Q5,Q6,Q7,fT,fP]
set_option maxRecDepth 10000 in
theorem Dz {h:Heap} (hk:HOK h) {bo st:Value} {B:Bench} (q:IsBenchV h bo st B) (sm:B.Small):
  CW CC 46 [.agg ⟨[.int .i64 B.app,bo,st]⟩] h fun r h'=>r= .bool B.ok/\ Fr h h':=by
 obtain⟨pb,cb,rfl⟩:=q.bo.len
 obtain⟨ps,cs,rfl⟩:=q.len
 have n1000:=sm.st
 refine aw Tryz.f46 (by kernel_rfl) (by kernel_rfl) rfl rfl ?_
 simp only[Tryz.f46]
 have f1:=aI [.row [.int .i64 B.app, .slice pb B.boards.length cb, .slice ps B.strokes.length cs] 0 true] (Fr.refl hk)
 have r1:rowAt (h.ex [.row [.int .i64 B.app, .slice pb B.boards.length cb, .slice ps B.strokes.length cs] 0 true]) h.next=some [.int .i64 B.app, .slice pb B.boards.length cb, .slice ps B.strokes.length cs]:=aZ rfl
 unfold Bench.ok
 cases q1:cL B.app 0 3 with
 |false=>
  simp(maxDischargeDepth:=30)only[AA,↓reduceIte,Q1,Q2,Q3,Q4,reduceCtorEq,Q5,Q6,Q7,XH,kV,hk,fP,q1]
  exact⟨by simp,f1⟩
 |true=>
 cases q2:cL B.boards.length 1 3 with
 |false=>
  simp(maxDischargeDepth:=30)only[AA,↓reduceIte,Q1,Q2,Q3,Q4,reduceCtorEq,Q5,Q6,Q7,XH,kV,hk,fP,q1,q2]
  exact⟨by simp,f1⟩
 |true=>
 cases q3:cL B.strokes.length 1 6 with
 |false=>
  simp(maxDischargeDepth:=30)only[AA,↓reduceIte,Q1,Q2,Q3,Q4,reduceCtorEq,Q5,Q6,Q7,XH,kV,hk,fP,q1,q2,q3]
  exact⟨by simp,f1⟩
 |true=>
 simp(maxDischargeDepth:=30)only[AA,↓reduceIte,Q1,Q2,Q3,Q4,reduceCtorEq,Q5,Q6,Q7,XH,kV,hk,fP,q1,q2,q3]
 generalize(h.ex [.row [.int .i64 B.app, .slice pb B.boards.length cb, .slice ps B.strokes.length cs] 0 true])=H at f1 r1⊢
 refine dN [2,3,25,26,27,28,29,30,31,32] 25 B.strokes.length (fun i g h'=>Fr H h'/\ ∀j,j<i ->B.strokeB j=true) (by simp only[aa,↓reduceIte]) ⟨Fr.refl f1.ok,fun j hj=>by omega⟩ ?_ ?_
 ·rintro i g h2 hi ag g25 ⟨f2,ha⟩ ih
  have r2:=f2.row' f1.ok r1
  simp(maxDischargeDepth:=30)only[AA,↓reduceIte,Q1,Q2,Q3,Q4,reduceCtorEq,Q5,Q6,Q7,XH,kV,ag.r,NE,g25,f2.ok,cX hi,r2]
  refine aC (JG f2.ok ((q.fr hk f1).fr f1.ok f2) sm hi) ?_
  rintro _ h3 ⟨rfl,f3⟩
  cases qs:B.strokeB i with
  |false=>
   simp(maxDischargeDepth:=30)only[AA,↓reduceIte,Q1,Q2,Q3,Q4,reduceCtorEq,Q5,Q6,Q7,XH,kV,ag.r,NE,g25,f3.ok]
   refine⟨?_,(f1.trans f2).trans f3⟩
   have:(List.range B.strokes.length).all B.strokeB=false:=by rw[List.all_eq_false];exact⟨i,List.mem_range.2 hi,by rw[qs];simp⟩
   rw[this];simp
  |true=>
   simp(maxDischargeDepth:=30)only[AA,↓reduceIte,Q1,Q2,Q3,Q4,reduceCtorEq,Q5,Q6,Q7,XH,kV,ag.r,NE,g25,f3.ok,bp hi n1000]
   refine ih _ _ (by simp only[AG,Nat.reduceEqDiff,ag]) (by simp only[aa,↓reduceIte]) ⟨f2.trans f3,fun j hj=> ?_⟩
   by_cases hji:j<i
   ·exact ha j hji
   ·obtain rfl:j=i:=by omega
    exact qs
 ·rintro g h2 ag g25 ⟨f2,ha⟩
  have r2:=f2.row' f1.ok r1
  have e:(List.range B.strokes.length).all B.strokeB=true:=by rw[List.all_eq_true];exact fun j hj=>ha j (List.mem_range.1 hj)
  rw[e]
  simp(maxDischargeDepth:=30)only[AA,↓reduceIte,Q1,Q2,Q3,Q4,reduceCtorEq,Q5,Q6,Q7,XH,kV,ag.r,NE,g25,f2.ok,dL,r2]
  refine aC (fX f2.ok (fun n=> !(cL n 0 60)) ((q.bo.fr hk f1).fr f1.ok f2) sm.bo fun h3 f3 x _=>⟨h3,?_,Fr.refl f3.ok⟩) ?_
  ·have:=JJ x h3
   simpa[iy,dY]using this
  ·rintro _ h3 ⟨rfl,f3⟩
   simp(maxDischargeDepth:=30)only[AA,↓reduceIte,Q1,Q2,Q3,Q4,reduceCtorEq,Q5,Q6,Q7,XH,kV,ag.r,NE,f3.ok]
   exact⟨by simp,(f1.trans f2).trans f3⟩
end Go.Am

namespace Go.Am
open Go Go.Proofs
section
variable {C:Ctx} {rd:Option Nat} {body:Code} {k:List Item} {N:Nat} {f:Nat ->Value} {D:List Deferred} {p:Option Value} {h:Heap} {Q:FEnd ->FrS ->Heap ->Prop}
theorem Zz (ws:List Nat) (ti n:Nat) (I:Nat ->(Nat ->Value) ->Heap ->Prop) (h0:f ti= .int .i64 ((n:Int) -1)) (hI:I n f h)
  (step: ∀i g h,i<n ->Ag ws g f ->g ti= .int .i64 (i:Int) ->I (i+1) g h ->(∀g' h',Ag ws g' f ->g' ti= .int .i64 ((i:Int) -1) ->I i g' h' ->W (bH C rd (.inLoop body::k) ⟨T N g',D,p⟩ h') Q) ->W (bH C rd (.code body:: .inLoop body::k) ⟨T N g,D,p⟩ h) Q)
  (fin: ∀g h,Ag ws g f ->g ti= .int .i64 (-1) ->I 0 g h ->W (bH C rd (.code body:: .inLoop body::k) ⟨T N g,D,p⟩ h) Q):
  W (bH C rd (.inLoop body::k) ⟨T N f,D,p⟩ h) Q:=by
 refine eT n (fun m g h=>m<=n/\ Ag ws g f/\ g ti= .int .i64 ((m:Int) -1)/\ I m g h) ⟨Nat.le_refl _,Ag.refl _ _,h0,hI⟩ ?_
 rintro m g h ⟨hm,ag,gi,hI⟩ ih
 cases m with
 |zero=>exact fin g h ag (by rw[gi];rfl) hI
 |succ m=>
  refine step m g h (by omega) ag (by rw[gi];congr 1;omega) hI fun g' h' ag' gi' hI'=>ih m g' h' (by omega) ⟨by omega,ag',gi',hI'⟩
end
def In (plan:List Int) (n:Nat):Nat ->Option Nat
 |0=>none
 |i+1=>if plan.getD i 0=plan.getD n 0 then some i else In plan n i
def dS (plan:List Int) (n:Nat):Option Nat:=In plan n n
theorem vX {plan:List Int} {n:Nat}: ∀{i j:Nat},In plan n i=some j ->j<i
 |0,j,h=>by simp[In]at h
 |i+1,j,h=>by
  unfold In at h
  split at h
  ·simp at h;omega
  ·have:=vX h;omega
def j7 (l:List Int):Int:=l.foldl max 0
def jH (B:Bench) (n wh:Nat):Int:=match B.strokes[n]? with
 |some w=>if wh=0 then w.lo else w.hi
 |none=>0
def fy (B:Bench) (n:Nat):List Int:=match B.strokes[n]? with
 |some w=>w.needs
 |none=>[]
def ye (B:Bench) (plan:List Int):Nat ->Nat ->Nat ->Int
 |0,_,_=>0
 |k+1,n,wh=>j7 ((match dS plan n with|some i=>ye B plan k i wh|none=>0)::(fy B n).map fun i=>ye B plan k i.toNat wh)+jH B n wh
def fR (B:Bench) (plan:List Int) (n wh:Nat):Int:=ye B plan (n+1) n wh
theorem Bench.ok_at {B:Bench} (h:B.ok=true):(0<=B.app/\ B.app<=3)/\ (1<=B.strokes.length/\ B.strokes.length<=6)/\ ∀(n:Nat) (w:BStroke),B.strokes[n]? =some w ->(∀x∈w.needs,0<=x/\ x<n)/\ 1<=w.lo/\ w.lo<=6/\ w.lo<=w.hi/\ w.hi<=6:=by
 unfold Bench.ok at h
 simp only[Bool.and_eq_true]at h
 obtain⟨h1,h2,h3,h4,h5⟩:=h
 have a1:=of_decide_eq_true h1
 have a3:=of_decide_eq_true h3
 refine⟨a1,by omega,fun n w hw=> ?_⟩
 rw[List.all_eq_true]at h4
 have:=h4 n (List.mem_range.2 (List.getElem?_eq_some_iff.1 hw).1)
 unfold Bench.strokeB at this
 rw[hw]at this
 simp only[Bool.and_eq_true]at this
 obtain⟨b1,b2,b3,b4⟩:=this
 have c3:=of_decide_eq_true b3
 have c4:=of_decide_eq_true b4
 refine⟨fun x hx=> ?_,by omega⟩
 obtain⟨i,hi⟩:=List.mem_iff_getElem?.1 hx
 unfold ui at b1
 rw[List.all_eq_true]at b1
 have:=b1 i (List.mem_range.2 (List.getElem?_eq_some_iff.1 hi).1)
 unfold lN at this
 rw[show w.needs.getD i 0=x by rw[List.getD_eq_getElem?_getD,hi];rfl]at this
 simp only[Bool.and_eq_true]at this
 have:=of_decide_eq_true this.1
 omega
theorem Lz {B:Bench} (ok:B.ok=true) (plan:List Int) (wh:Nat): ∀(n k:Nat),n<k ->ye B plan k n wh=fR B plan n wh:=by
 intro n
 induction n using Nat.strongRecOn with
 |_ n ih=>
  have key: ∀k,n<=k ->ye B plan (k+1) n wh=j7 ((match dS plan n with|some i=>fR B plan i wh|none=>0)::(fy B n).map fun i=>fR B plan i.toNat wh)+jH B n wh:=fun k hk=>by
   show j7 ((match dS plan n with|some i=>ye B plan k i wh|none=>0)::(fy B n).map fun i=>ye B plan k i.toNat wh)+jH B n wh=_
   have e1:(match dS plan n with|some i=>ye B plan k i wh|none=>0)=(match dS plan n with|some i=>fR B plan i wh|none=>0):=by
    cases hb:dS plan n with
    |none=>rfl
    |some i=>have:=vX hb;exact ih i this k (by omega)
   have e2:(fy B n).map (fun i=>ye B plan k i.toNat wh)=(fy B n).map fun i=>fR B plan i.toNat wh:=by
    refine List.map_congr_left fun x hx=> ?_
    unfold fy at hx
    cases hw:B.strokes[n]? with
    |none=>rw[hw]at hx;simp at hx
    |some w=>
     rw[hw]at hx
     have:=((Bench.ok_at ok).2.2 n w hw).1 x hx
     exact ih x.toNat (by omega) k (by omega)
   rw[e1,e2]
  intro k hk
  obtain⟨k,rfl⟩: ∃j,k=j+1:=⟨k -1,by omega⟩
  unfold fR
  rw[key k (by omega),key n (Nat.le_refl _)]
theorem Ly {B:Bench} (ok:B.ok=true) (plan:List Int) (wh n:Nat):fR B plan n wh=j7 ((match dS plan n with|some i=>fR B plan i wh|none=>0)::(fy B n).map fun i=>fR B plan i.toNat wh)+jH B n wh:=by
 conv=>lhs;unfold fR
 show j7 ((match dS plan n with|some i=>ye B plan n i wh|none=>0)::(fy B n).map fun i=>ye B plan n i.toNat wh)+jH B n wh=_
 have e1:(match dS plan n with|some i=>ye B plan n i wh|none=>0)=(match dS plan n with|some i=>fR B plan i wh|none=>0):=by
  cases hb:dS plan n with
  |none=>rfl
  |some i=>have:=vX hb;exact Lz ok plan wh i n this
 have e2:(fy B n).map (fun i=>ye B plan n i.toNat wh)=(fy B n).map fun i=>fR B plan i.toNat wh:=by
  refine List.map_congr_left fun x hx=> ?_
  unfold fy at hx
  cases hw:B.strokes[n]? with
  |none=>rw[hw]at hx;simp at hx
  |some w=>
   rw[hw]at hx
   have:=((Bench.ok_at ok).2.2 n w hw).1 x hx
   exact Lz ok plan wh x.toNat n (by omega)
 rw[e1,e2]
theorem Lf {b:Int}: ∀{l:List Int} {a:Int},0<=a ->a<=b ->(∀x∈l,x<=b) ->0<=l.foldl max a/\ l.foldl max a<=b
 |[],a,h1,h2,_=>⟨h1,h2⟩
 |x::l,a,h1,h2,h=>Lf (l:=l) (a:=max a x) (by omega) (by have:=h x List.mem_cons_self;omega) fun y hy=>h y (List.mem_cons_of_mem _ hy)
theorem Hz {B:Bench} (ok:B.ok=true) (n wh:Nat):0<=jH B n wh/\ jH B n wh<=6:=by
 unfold jH
 cases hw:B.strokes[n]? with
 |none=>simp
 |some w=>
  have:=((Bench.ok_at ok).2.2 n w hw).2
  dsimp only
  split<;>omega
theorem Y5 {B:Bench} (ok:B.ok=true) (plan:List Int) (wh:Nat): ∀n:Nat,0<=fR B plan n wh/\ fR B plan n wh<=6*((n:Int)+1):=by
 intro n
 induction n using Nat.strongRecOn with
 |_ n ih=>
  rw[Ly ok]
  have hh:=Hz ok n wh
  have:0<=j7 ((match dS plan n with|some i=>fR B plan i wh|none=>0)::(fy B n).map fun i=>fR B plan i.toNat wh)/\ j7 ((match dS plan n with|some i=>fR B plan i wh|none=>0)::(fy B n).map fun i=>fR B plan i.toNat wh)<=6*(n:Int):=by
   refine Lf (Int.le_refl _) (by omega) fun x hx=> ?_
   rcases List.mem_cons.1 hx with rfl|hx
   ·cases hb:dS plan n with
    |none=>dsimp only;omega
    |some i=>have:=vX hb;have:=(ih i this).2;dsimp only;omega
   ·obtain⟨y,hy,rfl⟩:=List.mem_map.1 hx
    unfold fy at hy
    cases hw:B.strokes[n]? with
    |none=>rw[hw]at hy;simp at hy
    |some w=>
     rw[hw]at hy
     have:=((Bench.ok_at ok).2.2 n w hw).1 y hy
     have:=(ih y.toNat (by omega)).2
     omega
  omega
end Go.Am

namespace Go.Am
open Go Go.Proofs
def CD:=A2 @cG<|A2 @cS<|A2 @cA<|A2 @bJ<|A2 @aV<|A2 @ba<|A2 @bm @bh
def rZ:=A2 @Sb<|A2 @cG<|A2 @cM<|A2 @cS<|A2 @bJ<|A2 @aV<|A2 @ba<|A2 @bm @bh
theorem VE (k:IntKind) (x y:Int):tQ max2 [.int k y] (.int k x)=some (.int k (if x<y then y else x)):=rfl
set_option maxRecDepth 10000 in
theorem Rg {h:Heap} (hk:HOK h) {v:Value} {xs:List Int} (hv:LS h v xs aQ 1) (hl:xs.length<=1000):cI CC (bH CC) 230 [v] h=some (.ret (.int .i64 (j7 xs)) h none):=by
 obtain⟨p,c,rfl,hx⟩:=hv.open
 refine CW.eq (aw Tryz.f230 (by kernel_rfl) (by kernel_rfl) rfl rfl ?_)
 simp only[Tryz.f230]
 simp(maxDischargeDepth:=30)only[AA,↓reduceIte,Q1,Q2,Q3,Q4,reduceCtorEq,Q5,Q6,Q7,XH,CD,hk]
 refine dN [3,5,8,9,10,11,12,13,14,15] 8 xs.length (fun i g h'=>h'=h/\ g 3= .int .i64 (j7 (xs.take i))) (by simp only[aa,↓reduceIte]) ⟨rfl,by simp only[aa,Nat.reduceEqDiff,↓reduceIte];rfl⟩ ?_ ?_
 ·rintro i g _ hi ag g8 ⟨rfl,g3⟩ ih
  obtain⟨x,gx⟩: ∃x,xs[i]? =some x:=⟨_,List.getElem?_eq_getElem hi⟩
  rcases hx with hx|⟨b,o,sp,row,rfl,hr,hx⟩
  ·rw[hx]at hi;simp at hi
  have c1:row[o+i]? =some (.int .i64 x):=by simpa[aQ]using(hx _ x gx).2 0 (by omega)
  have nb:=af hk hr
  have em:(if j7 (xs.take i)<x then x else j7 (xs.take i))=j7 (xs.take (i+1)):=by
   rw[bI gx];unfold j7;rw[List.foldl_append]
   show _=max ((xs.take i).foldl max 0) x
   split<;>omega
  simp(maxDischargeDepth:=30)only[AA,↓reduceIte,Q1,Q2,Q3,Q4,reduceCtorEq,Q5,Q6,Q7,XH,CD,ag.r,NE,g8,g3,hk,cX hi,hi,hr,nb,c1,Nat.mul_one,VE,bp hi hl]
  exact ih _ _ (by simp only[AG,Nat.reduceEqDiff,ag]) (by simp only[aa,↓reduceIte]) ⟨rfl,by simp only[aa,Nat.reduceEqDiff,↓reduceIte,em]⟩
 ·rintro g _ ag g8 ⟨rfl,g3⟩
  simp(maxDischargeDepth:=30)only[AA,↓reduceIte,Q1,Q2,Q3,Q4,reduceCtorEq,Q5,Q6,Q7,XH,CD,ag.r,NE,g8,g3,hk,dL]
  rw[List.take_length]
  exact⟨rfl,trivial⟩
theorem IsStrokeL.rk {h h':Heap} {u:StrokeV} {w:BStroke} (q:IsStrokeL h u w) (f:RK h h'):IsStrokeL h' u w:=⟨q.board,q.round,q.lo,q.hi,q.needs.rk f⟩
theorem IsBenchV.rk {h h':Heap} {bo st:Value} {B:Bench} (q:IsBenchV h bo st B) (f:RK h h'):IsBenchV h' bo st B:=by
 obtain⟨us,q1,q2⟩:=q.st
 exact⟨q.bo.rk f,us,q1.rk f,q2.map fun _ _ e=>e.rk f⟩
structure IsWork (h:Heap) (bo st pv:Value) (B:Bench) (plan:List Int):Prop where
 b:IsBenchV h bo st B
 p:LS h pv plan aQ 1
theorem IsWork.fr {h h':Heap} {bo st pv:Value} {B:Bench} {plan:List Int} (q:IsWork h bo st pv B plan) (hk:HOK h) (f:Fr h h'):IsWork h' bo st pv B plan:=⟨q.b.fr hk f,q.p.fr hk f⟩
theorem IsWork.rk {h h':Heap} {bo st pv:Value} {B:Bench} {plan:List Int} (q:IsWork h bo st pv B plan) (f:RK h h'):IsWork h' bo st pv B plan:=⟨q.b.rk f,q.p.rk f⟩
def qF (B:Bench) (bo st pv:Value) (m:Nat):List Value:=[.int .i64 B.app,bo,st,pv, .map (some m), .int .i64 (-1), .int .i64 0]
set_option maxRecDepth 10000 in
theorem TK {h:Heap} (hk:HOK h) {bo st pv:Value} {B:Bench} {plan:List Int} {m:Nat} (q:IsWork h bo st pv B plan) {n:Nat} (hn:n<plan.length) (h6:plan.length<=1000):
  CW CC 280 [.agg ⟨qF B bo st pv m⟩, .int .i64 (n:Int)] h fun r h'=>r= .tuple ⟨[.int .i64 (match dS plan n with|some i=>(i:Int)|none=>0), .bool (dS plan n).isSome]⟩/\ Fr h h':=by
 obtain⟨pb,cb,rfl⟩:=q.b.bo.len
 obtain⟨ps,cs,rfl⟩:=q.b.len
 obtain⟨pp,cp,rfl,hx⟩:=q.p.open
 obtain⟨y,gy⟩: ∃y,plan[n]? =some y:=⟨_,List.getElem?_eq_getElem hn⟩
 have gdy:plan.getD n 0=y:=by rw[List.getD_eq_getElem?_getD,gy];rfl
 rcases hx with hx|⟨b,o,sp,row,rfl,hr,hx⟩
 ·rw[hx]at hn;simp at hn
 have cy:row[o+n]? =some (.int .i64 y):=by simpa[aQ]using(hx _ y gy).2 0 (by omega)
 have w1:IntKind.i64.wrap ((n:Int) -1)=(n:Int) -1:=bG (by omega) (by omega)
 refine aw Tryz.f280 (by kernel_rfl) (by kernel_rfl) rfl rfl ?_
 simp only[Tryz.f280,qF]
 have f1:=aI [.row [.int .i64 B.app, .slice pb B.boards.length cb, .slice ps B.strokes.length cs, .slice (some ⟨b,o,sp⟩) plan.length cp, .map (some m), .int .i64 (-1), .int .i64 0] 0 true] (Fr.refl hk)
 have r1:rowAt (h.ex [.row [.int .i64 B.app, .slice pb B.boards.length cb, .slice ps B.strokes.length cs, .slice (some ⟨b,o,sp⟩) plan.length cp, .map (some m), .int .i64 (-1), .int .i64 0] 0 true]) h.next=some [.int .i64 B.app, .slice pb B.boards.length cb, .slice ps B.strokes.length cs, .slice (some ⟨b,o,sp⟩) plan.length cp, .map (some m), .int .i64 (-1), .int .i64 0]:=aZ rfl
 simp(maxDischargeDepth:=30)only[AA,↓reduceIte,Q1,Q2,Q3,Q4,reduceCtorEq,Q5,Q6,Q7,XH,rZ,hk,w1]
 generalize(h.ex [.row [.int .i64 B.app, .slice pb B.boards.length cb, .slice ps B.strokes.length cs, .slice (some ⟨b,o,sp⟩) plan.length cp, .map (some m), .int .i64 (-1), .int .i64 0] 0 true])=H at f1 r1⊢
 have m1:=af f1.ok r1
 have hrH:=f1.row' hk hr
 have nb:=af f1.ok hrH
 refine Zz [4,5,6,9,10,11,12,13,14,15,16,17,18,19,20,21,22,23,24] 6 n (fun i g h'=>h'=H/\ In plan n i=dS plan n) (by simp only[aa,↓reduceIte]) ⟨rfl,rfl⟩ ?_ ?_
 ·rintro i g _ hi ag g6 ⟨rfl,hb⟩ ih
  obtain⟨x,gx⟩: ∃x,plan[i]? =some x:=⟨_,List.getElem?_eq_getElem (by omega)⟩
  have gdx:plan.getD i 0=x:=by rw[List.getD_eq_getElem?_getD,gx];rfl
  have cx:row[o+i]? =some (.int .i64 x):=by simpa[aQ]using(hx _ x gx).2 0 (by omega)
  have z:decide ((i:Int)>=0)=true:=decide_eq_true (by omega)
  have hi':i<plan.length:=by omega
  simp(maxDischargeDepth:=30)only[AA,↓reduceIte,Q1,Q2,Q3,Q4,reduceCtorEq,Q5,Q6,Q7,XH,rZ,ag.r,NE,g6,f1.ok,z]
  refine bR [(true,0),(true,1),(true,2),(true,3),(true,4),(true,5),(true,6),(true,7),(true,8),(true,9),(true,10)] (by kernel_rfl) ?_
  have e1:In plan n (i+1)=if x=y then some i else In plan n i:=by show(if plan.getD i 0=plan.getD n 0 then _ else _)=_;rw[gdx,gdy]
  cases hxy:(x==y)with
  |true=>
   have e:x=y:=by simpa using hxy
   rw[if_pos e]at e1
   simp(maxDischargeDepth:=30)only[AA,↓reduceIte,Q1,Q2,Q3,Q4,reduceCtorEq,Q5,Q6,Q7,dk,XH,rZ,ag.r,NE,g6,f1.ok,r1,m1,hrH,nb,hn,hi',cx,cy,Nat.mul_one,hxy]
   rw[<-hb,e1]
   exact⟨rfl,f1⟩
  |false=>
   have e: ¬x=y:=by simpa using hxy
   rw[if_neg e]at e1
   have w2:IntKind.i64.wrap ((i:Int) -1)=(i:Int) -1:=bG (by omega) (by omega)
   simp(maxDischargeDepth:=30)only[AA,↓reduceIte,Q1,Q2,Q3,Q4,reduceCtorEq,Q5,Q6,Q7,dk,XH,rZ,ag.r,NE,g6,f1.ok,r1,m1,hrH,nb,hn,hi',cx,cy,Nat.mul_one,hxy,w2]
   exact ih _ _ (by simp only[AG,Nat.reduceEqDiff,ag]) (by simp only[aa,↓reduceIte]) ⟨rfl,by rw[<-hb,e1]⟩
 ·rintro g _ ag g6 ⟨rfl,hb⟩
  simp(maxDischargeDepth:=30)only[AA,↓reduceIte,Q1,Q2,Q3,Q4,reduceCtorEq,Q5,Q6,Q7,XH,rZ,ag.r,NE,g6,f1.ok,show decide ((-1:Int)>=0)=false from rfl]
  rw[<-hb]
  exact⟨rfl,f1⟩
end Go.Am
