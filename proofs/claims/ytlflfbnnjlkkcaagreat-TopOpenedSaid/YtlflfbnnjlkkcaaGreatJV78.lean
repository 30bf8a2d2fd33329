/- Parts V78, V79, V85, V86 of the abstract machine over this program, joined: what each part says stands at its head. -/
import Derived.Test.YtlflfbnnjlkkcaaGreatJV74
set_option linter.unusedSimpArgs false
set_option linter.unusedVariables false
set_option linter.defProp false
open Nat renaming reduceLT→Q1,reduceEqDiff→Q2,reduceAdd→Q3,reduceMul→Q4,reduceLeDiff→Q5
open Int renaming reduceNe→Q6,reduceEq→Q7
namespace Go.Am
open Go Go.Proofs
def wL:=A2 @rC<|A2 @rz<|A2 @HN<|A2 @sW<|A2 @cM<|A2 @tK<|A2 @cS @cA
def se:=A2 @pC<|A2 @zF<|A2 @cM @cA
def oE:=A2 @cG<|A2 @cS<|A2 @cA<|A2 @bJ<|A2 @aV<|A2 @ba<|A2 @bm @bh
structure IsWordL (h:Heap) (u:WordV) (w:LWord):Prop where
 signs:LS h u.signs w.signs aQ 1
 cuts:LS h u.cuts w.cuts aQ 1
 free:u.free=w.free
theorem IsWordL.fr {h h':Heap} {u:WordV} {w:LWord} (q:IsWordL h u w) (hk:HOK h) (f:Fr h h'):IsWordL h' u w:=⟨q.signs.fr hk f,q.cuts.fr hk f,q.free⟩
structure LetV where
 w:Value
 pr:Value
 wd:Value
structure IsLet (h:Heap) (u:LetV) (S:LSheet):Prop where
 w:LS h u.w S.widths aQ 1
 pr:LS h u.pr S.pairs LPair.cells 4
 wd: ∃us,LS h u.wd us WordV.cells 3/\ LR IsWordL h us S.words
theorem IsLet.fr {h h':Heap} {u:LetV} {S:LSheet} (q:IsLet h u S) (hk:HOK h) (f:Fr h h'):IsLet h' u S:=by
 obtain⟨us,q1,q2⟩:=q.wd
 exact⟨q.w.fr hk f,q.pr.fr hk f,us,q1.fr hk f,q2.map fun _ _ e=>e.fr hk f⟩
theorem IsLet.len {h:Heap} {u:LetV} {S:LSheet} (q:IsLet h u S): ∃p c,u.wd= .slice p S.words.length c:=by
 obtain⟨us,q1,q2⟩:=q.wd
 rw[<-q2.1];exact q1.len
def LSheet.cells (S:LSheet) (u:LetV):List Value:=[u.w,u.pr, .int .i64 S.other.lo, .int .i64 S.other.hi, .int .i64 S.gap.lo, .int .i64 S.gap.hi, .int .i64 S.hyphen,u.wd, .int .i64 S.wide, .int .i64 S.rows]
structure LSheet.Small (S:LSheet):Prop where
 w:S.widths.length<=1000
 pr:S.pairs.length<=1000
 wd:S.words.length<=1000
 si: ∀w∈S.words,w.signs.length<=1000
 cu: ∀w∈S.words,w.cuts.length<=1000
def u4 (lo hi a b:Int):Bool:=cL lo a b&&cL hi lo b
def LSheet.pairB (S:LSheet) (p:LPair):Bool:=cL p.l 0 ((S.widths.length:Int) -1)&&(cL p.r 0 ((S.widths.length:Int) -1)&&u4 p.lo p.hi 0 9)
def ug (a b:LPair):Bool:=decide (a.l<b.l)||(decide (a.l=b.l)&&decide (a.r<b.r))
def mI (lo hi:Int) (l:List Int) (i:Nat):Bool:=cL (l.getD i 0) lo hi&&(i==0||decide (l.getD (i -1) 0<l.getD i 0))
def ud (lo hi:Int) (l:List Int):Bool:=(List.range l.length).all (mI lo hi l)
def LSheet.wordB (S:LSheet) (w:LWord):Bool:=cL w.signs.length 1 6&&(!(w.signs.any fun x=> !(cL x 0 ((S.widths.length:Int) -1)))&&ud 1 ((w.signs.length:Int) -1) w.cuts)
def LSheet.pairAt (S:LSheet) (i:Nat):Bool:=match S.pairs[i]? with
 |some p=>S.pairB p&&(i==0||(match S.pairs[i -1]? with|some q=>ug q p|none=>false))
 |none=>false
def LSheet.ok (S:LSheet):Bool:=cL S.widths.length 1 6&&(decide (S.pairs.length<=6)&&(cL S.words.length 1 4&&((List.range S.pairs.length).all S.pairAt&&(!(S.widths.any fun x=> !(cL x 1 20))&&(u4 S.other.lo S.other.hi 0 9&&(u4 S.gap.lo S.gap.hi 0 20&&(cL S.hyphen 1 20&&(!(S.words.any fun w=> !(S.wordB w))&&(cL S.wide 1 400&&cL S.rows 1 3)))))))))
theorem IW {h:Heap} (hk:HOK h) (lo hi a b:Int):CW CC 106 [.agg ⟨[.int .i64 lo, .int .i64 hi]⟩, .int .i64 a, .int .i64 b] h fun r h'=>r= .bool (u4 lo hi a b)/\ Fr h h':=by
 refine aw Tryz.f106 (by kernel_rfl) (by kernel_rfl) rfl rfl ?_
 simp only[Tryz.f106]
 unfold u4
 cases q1:cL lo a b with
 |false=>
  simp(maxDischargeDepth:=30)only[AA,↓reduceIte,Q1,Q2,Q3,Q4,reduceCtorEq,Q5,Q6,Q7,XH,iR,iQ,cS,hk,bZ,q1,aj]
  exact⟨by simp,aI _ (Fr.refl hk)⟩
 |true=>
  simp(maxDischargeDepth:=30)only[AA,↓reduceIte,Q1,Q2,Q3,Q4,reduceCtorEq,Q5,Q6,Q7,XH,iR,iQ,cS,hk,bZ,q1,aj]
  exact⟨by simp,aI _ (Fr.refl hk)⟩
theorem TI {h:Heap} (hk:HOK h) (a b:LPair):CW CC 103 [.agg ⟨a.cells⟩, .agg ⟨b.cells⟩] h fun r h'=>r= .bool (ug a b)/\ Fr h h':=by
 refine aw Tryz.f103 (by kernel_rfl) (by kernel_rfl) rfl rfl ?_
 simp only[Tryz.f103,LPair.cells]
 unfold ug
 cases q1:decide (a.l<b.l)with
 |true=>
  simp(maxDischargeDepth:=30)only[AA,↓reduceIte,Q1,Q2,Q3,Q4,reduceCtorEq,Q5,Q6,Q7,XH,rC,rz,cS,hk,q1,aj]
  exact⟨by simp,aI _ (Fr.refl hk)⟩
 |false=>
 cases q2:(a.l==b.l)with
 |true=>
  simp(maxDischargeDepth:=30)only[AA,↓reduceIte,Q1,Q2,Q3,Q4,reduceCtorEq,Q5,Q6,Q7,XH,rC,rz,cS,hk,q1,q2,aj]
  have:a.l=b.l:=by simpa using q2
  exact⟨by simp[this],aI _ (Fr.refl hk)⟩
 |false=>
  simp(maxDischargeDepth:=30)only[AA,↓reduceIte,Q1,Q2,Q3,Q4,reduceCtorEq,Q5,Q6,Q7,XH,rC,rz,cS,hk,q1,q2,aj]
  have: ¬a.l=b.l:=by simpa using q2
  exact⟨by simp[this],aI _ (Fr.refl hk)⟩
theorem Yd {h:Heap} (hk:HOK h) {u:LetV} {S:LSheet} (q:IsLet h u S) (sm:S.Small) (p:LPair):CW CC 102 [.agg ⟨S.cells u⟩, .agg ⟨p.cells⟩] h fun r h'=>r= .bool (S.pairB p)/\ Fr h h':=by
 obtain⟨pw,cw,ew⟩:=q.w.len
 obtain⟨pp,cp,ep⟩:=q.pr.len
 obtain⟨pd,cd,ed⟩:=q.len
 have n1:=sm.w
 refine aw Tryz.f102 (by kernel_rfl) (by kernel_rfl) rfl rfl ?_
 simp only[Tryz.f102,LPair.cells,LSheet.cells,ew,ep,ed]
 have w1:IntKind.i64.wrap ((S.widths.length:Int) -1)=(S.widths.length:Int) -1:=bG (by omega) (by omega)
 unfold LSheet.pairB
 have f1:=aI [.row [.slice pw S.widths.length cw, .slice pp S.pairs.length cp, .int .i64 S.other.lo, .int .i64 S.other.hi, .int .i64 S.gap.lo, .int .i64 S.gap.hi, .int .i64 S.hyphen, .slice pd S.words.length cd, .int .i64 S.wide, .int .i64 S.rows] 0 true, .row [.int .i64 p.l, .int .i64 p.r, .int .i64 p.lo, .int .i64 p.hi] 0 true] (Fr.refl hk)
 cases q1:cL p.l 0 ((S.widths.length:Int) -1)with
 |false=>
  simp(maxDischargeDepth:=30)only[AA,↓reduceIte,Q1,Q2,Q3,Q4,reduceCtorEq,Q5,Q6,Q7,XH,wL,hk,bZ,q1,aj,w1]
  exact⟨by simp,f1⟩
 |true=>
 cases q2:cL p.r 0 ((S.widths.length:Int) -1)with
 |false=>
  simp(maxDischargeDepth:=30)only[AA,↓reduceIte,Q1,Q2,Q3,Q4,reduceCtorEq,Q5,Q6,Q7,XH,wL,hk,bZ,q1,q2,aj,w1]
  exact⟨by simp,f1⟩
 |true=>
  simp(maxDischargeDepth:=30)only[AA,↓reduceIte,Q1,Q2,Q3,Q4,reduceCtorEq,Q5,Q6,Q7,XH,wL,hk,bZ,q1,q2,aj,w1]
  refine aC (IW f1.ok p.lo p.hi 0 9) ?_
  rintro _ h2 ⟨rfl,f2⟩
  simp(maxDischargeDepth:=30)only[AA,↓reduceIte,Q1,Q2,Q3,Q4,reduceCtorEq,Q5,Q6,Q7,XH,wL,f2.ok]
  exact⟨by simp,f1.trans f2⟩
theorem Vv {h:Heap} (hk:HOK h) {v:Value} {l:List Int} (hv:LS h v l aQ 1) (hl:l.length<=1000) (ra rb:Int):
  CW CC 202 [v, .int .i64 ra, .int .i64 rb] h fun r h'=>r= .bool (ud ra rb l)/\ Fr h h':=by
 obtain⟨p,c,rfl,hx⟩:=hv.open
 refine aw Tryz.f202 (by kernel_rfl) (by kernel_rfl) rfl rfl ?_
 simp only[Tryz.f202]
 simp(maxDischargeDepth:=30)only[AA,↓reduceIte,Q1,Q2,Q3,Q4,reduceCtorEq,Q5,Q6,Q7,XH,oE,hk]
 have ns: ∀i,i<l.length ->mI ra rb l i=false ->ud ra rb l=false:=fun i hi e=>by
  unfold ud;rw[List.all_eq_false];exact⟨i,List.mem_range.2 hi,by rw[e];simp⟩
 refine dN [6,7,8,11,12,13,14,15,16,17,18,19,20,21,22,23,24,25,26,27,28,29,30,31,32,33,34] 11 l.length (fun i g h'=>h'=h/\ ∀j,j<i ->mI ra rb l j=true) (by simp only[aa,↓reduceIte]) ⟨rfl,fun j hj=>by omega⟩ ?_ ?_
 ·rintro i g _ hi ag g11 ⟨rfl,ha⟩ ih
  obtain⟨x,gx⟩: ∃x,l[i]? =some x:=⟨_,List.getElem?_eq_getElem hi⟩
  have gd:l.getD i 0=x:=by rw[List.getD_eq_getElem?_getD,gx];rfl
  rcases hx with hx|⟨b2,o2,sp2,row2,rfl,hr2,hx⟩
  ·rw[hx]at hi;simp at hi
  have c1:row2[o2+i]? =some (.int .i64 x):=by simpa[aQ]using(hx _ x gx).2 0 (by omega)
  have nb2:=af hk hr2
  cases q1:cL x ra rb with
  |false=>
   simp(maxDischargeDepth:=30)only[AA,↓reduceIte,Q1,Q2,Q3,Q4,reduceCtorEq,Q5,Q6,Q7,XH,oE,ag.r,NE,g11,hk,cX hi,hi,hr2,c1,Nat.mul_one,bZ,q1,aj]
   exact⟨by rw[ns i hi (by unfold mI;rw[gd,q1];rfl)],Fr.refl hk⟩
  |true=>
  by_cases i0:i=0
  ·have z:decide ((i:Int)>0)=false:=decide_eq_false (by omega)
   simp(maxDischargeDepth:=30)only[AA,↓reduceIte,Q1,Q2,Q3,Q4,reduceCtorEq,Q5,Q6,Q7,XH,oE,ag.r,NE,g11,hk,cX hi,hi,hr2,c1,Nat.mul_one,bZ,q1,aj,z,bp hi hl]
   refine ih _ _ (by simp only[AG,Nat.reduceEqDiff,ag]) (by simp only[aa,↓reduceIte]) ⟨rfl,fun j hj=> ?_⟩
   obtain rfl:j=i:=by omega
   unfold mI;rw[gd,q1,i0];rfl
  ·obtain⟨y,gy⟩: ∃y,l[i -1]? =some y:=⟨_,List.getElem?_eq_getElem (by omega)⟩
   have gd':l.getD (i -1) 0=y:=by rw[List.getD_eq_getElem?_getD,gy];rfl
   have c2:row2[o2+(i -1)]? =some (.int .i64 y):=by simpa[aQ]using(hx _ y gy).2 0 (by omega)
   have w2:IntKind.i64.wrap ((i:Int) -1)=((i -1:Nat):Int):=by rw[bG (by omega) (by omega)];omega
   have z:decide ((i:Int)>0)=true:=decide_eq_true (by omega)
   have hi':i -1<l.length:=by omega
   cases q2:decide (x<=y)with
   |true=>
    simp(maxDischargeDepth:=30)only[AA,↓reduceIte,Q1,Q2,Q3,Q4,reduceCtorEq,Q5,Q6,Q7,XH,oE,ag.r,NE,g11,hk,cX hi,hi,hi',hr2,c1,c2,Nat.mul_one,w2,bZ,q1,q2,z]
    have e0:mI ra rb l i=false:=by
     unfold mI;rw[gd,gd',q1]
     have:=of_decide_eq_true q2
     simp[i0];omega
    exact⟨by rw[ns i hi e0],Fr.refl hk⟩
   |false=>
    simp(maxDischargeDepth:=30)only[AA,↓reduceIte,Q1,Q2,Q3,Q4,reduceCtorEq,Q5,Q6,Q7,XH,oE,ag.r,NE,g11,hk,cX hi,hi,hi',hr2,c1,c2,Nat.mul_one,w2,bZ,q1,q2,z,bp hi hl]
    refine ih _ _ (by simp only[AG,Nat.reduceEqDiff,ag]) (by simp only[aa,↓reduceIte]) ⟨rfl,fun j hj=> ?_⟩
    by_cases hji:j<i
    ·exact ha j hji
    ·obtain rfl:j=i:=by omega
     unfold mI;rw[gd,gd',q1]
     have:=of_decide_eq_false q2
     simp;omega
 ·rintro g _ ag g11 ⟨rfl,ha⟩
  have e:ud ra rb l=true:=by unfold ud;rw[List.all_eq_true];exact fun j hj=>ha j (List.mem_range.1 hj)
  rw[e]
  simp(maxDischargeDepth:=30)only[AA,↓reduceIte,Q1,Q2,Q3,Q4,reduceCtorEq,Q5,Q6,Q7,XH,oE,ag.r,NE,g11,hk,dL]
  exact⟨trivial,Fr.refl hk⟩
theorem UL (x:Int) {h:Heap} {b n:Nat} {pw:Option Addr} {cw:Nat} {rest:List Value} (r:rowAt h b=some (.slice pw n cw::rest)) (hn:n<=1000):cI CC (bH CC) 201 [.int .i64 x, .pointer (some ⟨b,0,none⟩)] h=some (.ret (.bool (!(cL x 0 ((n:Int) -1)))) h none):=by
 refine CW.eq (aw Tryz.f201 (by kernel_rfl) (by kernel_rfl) rfl rfl ?_)
 simp only[Tryz.f201]
 have w1:IntKind.i64.wrap ((n:Int) -1)=(n:Int) -1:=bG (by omega) (by omega)
 simp(maxDischargeDepth:=30)only[AA,↓reduceIte,Q1,Q2,Q3,Q4,reduceCtorEq,Q5,Q6,Q7,XH,sW,cM,cA,r,w1,bZ]
theorem P3 (x:Int) (h:Heap):cI CC (bH CC) 104 [.int .i64 x] h=some (.ret (.bool (!(cL x 1 20))) h none):=by
 refine CW.eq (aw Tryz.f104 (by kernel_rfl) (by kernel_rfl) rfl rfl ?_)
 simp only[Tryz.f104]
 simp(maxDischargeDepth:=30)only[AA,↓reduceIte,Q1,Q2,Q3,Q4,reduceCtorEq,Q5,Q6,Q7,fT,bZ]
set_option maxRecDepth 10000 in
theorem Rm {h:Heap} (hk:HOK h) {u:LetV} {S:LSheet} (q:IsLet h u S) (sm:S.Small) {x:WordV} {w:LWord} (qw:IsWordL h x w) (hw:w∈S.words):
  CW CC 109 [.agg ⟨S.cells u⟩, .agg ⟨x.cells⟩] h fun r h'=>r= .bool (S.wordB w)/\ Fr h h':=by
 obtain⟨pw,cw,ew⟩:=q.w.len
 obtain⟨pp,cp,ep⟩:=q.pr.len
 obtain⟨pd,cd,ed⟩:=q.len
 obtain⟨ps,cs,es⟩:=qw.signs.len
 obtain⟨pc,cc,ec⟩:=qw.cuts.len
 have n1:=sm.w
 have n2:=sm.si w hw
 have n3:=sm.cu w hw
 refine aw Tryz.f109 (by kernel_rfl) (by kernel_rfl) rfl rfl ?_
 simp only[Tryz.f109,WordV.cells,LSheet.cells,ew,ep,ed,es,ec]
 have w1:IntKind.i64.wrap ((S.widths.length:Int) -1)=(S.widths.length:Int) -1:=bG (by omega) (by omega)
 have w2:IntKind.i64.wrap ((w.signs.length:Int) -1)=(w.signs.length:Int) -1:=bG (by omega) (by omega)
 obtain⟨A,hA⟩: ∃A,A=AObj.row [.slice pw S.widths.length cw, .slice pp S.pairs.length cp, .int .i64 S.other.lo, .int .i64 S.other.hi, .int .i64 S.gap.lo, .int .i64 S.gap.hi, .int .i64 S.hyphen, .slice pd S.words.length cd, .int .i64 S.wide, .int .i64 S.rows] 0 true:=⟨_,rfl⟩
 obtain⟨Bo,hB⟩: ∃Bo,Bo=AObj.row [.slice ps w.signs.length cs, .slice pc w.cuts.length cc, .bool x.free] 0 true:=⟨_,rfl⟩
 have f1:=aI [A,Bo] (Fr.refl hk)
 have r1:rowAt (h.ex [A,Bo]) h.next=some [.slice pw S.widths.length cw, .slice pp S.pairs.length cp, .int .i64 S.other.lo, .int .i64 S.other.hi, .int .i64 S.gap.lo, .int .i64 S.gap.hi, .int .i64 S.hyphen, .slice pd S.words.length cd, .int .i64 S.wide, .int .i64 S.rows]:=by rw[hA];exact aZ rfl
 have r2:rowAt (h.ex [A,Bo]) (h.next+1)=some [.slice ps w.signs.length cs, .slice pc w.cuts.length cc, .bool x.free]:=by rw[hA,hB,jy rfl (by simp)];rfl
 unfold LSheet.wordB
 cases q1:cL w.signs.length 1 6 with
 |false=>
  simp(maxDischargeDepth:=30)only[AA,↓reduceIte,Q1,Q2,Q3,Q4,reduceCtorEq,Q5,Q6,Q7,XH,se,hk,bZ,q1,aj,w2,<-hA,<-hB,f1.ok,r2]
  exact⟨by simp,f1⟩
 |true=>
  simp(maxDischargeDepth:=30)only[AA,↓reduceIte,Q1,Q2,Q3,Q4,reduceCtorEq,Q5,Q6,Q7,XH,se,hk,bZ,q1,aj,w2,<-hA,<-hB,f1.ok,r2]
  have qs:=qw.signs.fr hk f1
  have qc:=qw.cuts.fr hk f1
  rw[es]at qs
  rw[ec]at qc
  generalize h.ex [A,Bo]=H at f1 r1 r2 qs qc⊢
  refine aC (fX f1.ok (fun n=> !(cL n 0 ((S.widths.length:Int) -1))) qs n2 fun h3 f3 y _=>⟨h3,?_,Fr.refl f3.ok⟩) ?_
  ·have:=UL y (f3.row' f1.ok r1) n1
   simpa[iy,dY]using this
  ·rintro _ h3 ⟨rfl,f3⟩
   have r3:=f3.row' f1.ok r2
   cases q2:(w.signs.any fun n=> !(cL n 0 ((S.widths.length:Int) -1)))with
   |true=>
    simp(maxDischargeDepth:=30)only[AA,↓reduceIte,Q1,Q2,Q3,Q4,reduceCtorEq,Q5,Q6,Q7,XH,se,f3.ok,r3,aj]
    exact⟨by simp,f1.trans f3⟩
   |false=>
    simp(maxDischargeDepth:=30)only[AA,↓reduceIte,Q1,Q2,Q3,Q4,reduceCtorEq,Q5,Q6,Q7,XH,se,f3.ok,r3,aj,w2]
    refine aC (Vv f3.ok (qc.fr f1.ok f3) n3 1 ((w.signs.length:Int) -1)) ?_
    rintro _ h4 ⟨rfl,f4⟩
    simp(maxDischargeDepth:=30)only[AA,↓reduceIte,Q1,Q2,Q3,Q4,reduceCtorEq,Q5,Q6,Q7,XH,se,f4.ok]
    exact⟨by simp,(f1.trans f3).trans f4⟩
set_option maxRecDepth 10000 in
theorem PZ {h:Heap} (hk:HOK h) {u:LetV} {S:LSheet} (q:IsLet h u S) (sm:S.Small) {x:WordV} {w:LWord} (qw:IsWordL h x w) (hw:w∈S.words) {b:Nat} (hb:rowAt h b=some (S.cells u)):
  CW CC 108 [.agg ⟨x.cells⟩, .pointer (some ⟨b,0,none⟩)] h fun r h'=>r= .bool (!(S.wordB w))/\ Fr h h':=by
 obtain⟨pw,cw,ew⟩:=q.w.len
 obtain⟨pp,cp,ep⟩:=q.pr.len
 obtain⟨pd,cd,ed⟩:=q.len
 obtain⟨ps,cs,es⟩:=qw.signs.len
 obtain⟨pc,cc,ec⟩:=qw.cuts.len
 have X:=fun {h':Heap} (f:Fr h h')=>Rm f.ok (q.fr hk f) sm (qw.fr hk f) hw
 have nb:=af hk hb
 refine aw Tryz.f108 (by kernel_rfl) (by kernel_rfl) rfl rfl ?_
 simp only[Tryz.f108,WordV.cells,LSheet.cells,ew,ep,ed,es,ec]at X hb⊢
 simp(maxDischargeDepth:=30)only[AA,↓reduceIte,Q1,Q2,Q3,Q4,reduceCtorEq,Q5,Q6,Q7,XH,mw,Hg,hk,hb,nb]
 have f1:=aI [.row [.slice ps w.signs.length cs, .slice pc w.cuts.length cc, .bool x.free] 0 true] (Fr.refl hk)
 refine aC (X f1) ?_
 rintro _ h2 ⟨rfl,f2⟩
 simp(maxDischargeDepth:=30)only[AA,↓reduceIte,Q1,Q2,Q3,Q4,reduceCtorEq,Q5,Q6,Q7,XH,mw,Hg,f2.ok]
 exact⟨trivial,f1.trans f2⟩
end Go.Am

namespace Go.Am
open Go Go.Proofs
def dt:=A2 @sW<|A2 @zJ<|A2 @EK<|A2 @Lu<|A2 @Lt<|A2 @pI<|A2 @Ls<|A2 @EJ<|A2 @Hr<|A2 @Rb<|A2 @cM<|A2 @Le<|A2 @tK<|A2 @Bx<|A2 @mw<|A2 @cS<|A2 @cA<|A2 @Jr<|A2 @Bu<|A2 @qV<|A2 @jX<|A2 @u9<|A2 @oN<|A2 @FO @uO
theorem QA {S:LSheet} {p:LPair} (h:S.pairs[0]? =some p):S.pairAt 0=S.pairB p:=by
 unfold LSheet.pairAt;rw[h];simp
theorem Ba {S:LSheet} {i:Nat} {p q:LPair} (hi:i≠0) (h:S.pairs[i]? =some p) (h':S.pairs[i -1]? =some q):S.pairAt i=(S.pairB p&&ug q p):=by
 have:(i==0)=false:=by simpa using hi
 unfold LSheet.pairAt;rw[h,h',this];simp
theorem ze {h:Heap} (hk:HOK h) {v fv:Value} {us:List WordV} {β:Type} {ws:List β} (hl:us.length=ws.length) (g:β ->Bool) (hv:LS h v us WordV.cells 3) (hn:us.length<=1000)
  (hcl: ∀h1,Fr h h1 -> ∀(i:Nat) u w,us[i]? =some u ->ws[i]? =some w -> ∃h2,iy CC fv [.agg ⟨u.cells⟩] h1=some (.ret (.bool (g w)) h2 none)/\ Fr h1 h2):
  CW CC 107 [v,fv] h fun r h'=>r= .bool (ws.any g)/\ Fr h h':=by
 have L:=He hl g (fun u:WordV=>outB (iy CC fv [.agg ⟨u.cells⟩] h)) fun i u w h1 h2=>by
  obtain⟨h2,e,_⟩:=hcl h (Fr.refl hk) i u w h1 h2
  rw[e];rfl
 rw[<-L.1]
 refine Cb hk _ hv hn fun h1 f1 u hu=> ?_
 obtain⟨w,i,h1',h2',e⟩:=L.2 u hu
 rw[e]
 exact hcl h1 f1 i u w h1' h2'
set_option maxRecDepth 10000 in
set_option maxHeartbeats 4000000 in
theorem MR {h:Heap} (hk:HOK h) {u:LetV} {S:LSheet} (q:IsLet h u S) (sm:S.Small):
  CW CC 34 [.agg ⟨S.cells u⟩] h fun r h'=>r= .bool S.ok/\ Fr h h':=by
 obtain⟨pw,cw,ew⟩:=q.w.len
 obtain⟨pp,cp,ep⟩:=q.pr.len
 obtain⟨pd,cd,ed⟩:=q.len
 have n1:=sm.w
 have n2:=sm.pr
 have n3:=sm.wd
 have PX:=fun {h':Heap} (f:Fr h h') (p:LPair)=>Yd f.ok (q.fr hk f) sm p
 have WX:=fun {h':Heap} (f:Fr h h') {x:WordV} {w:LWord} (qw:IsWordL h' x w) (hw:w∈S.words) {b:Nat} (hb:rowAt h' b=some (S.cells u))=>PZ f.ok (q.fr hk f) sm qw hw hb
 refine aw Tryz.f34 (by kernel_rfl) (by kernel_rfl) rfl rfl ?_
 obtain⟨R,hR⟩: ∃R,R=S.cells u:=⟨_,rfl⟩
 have R0:R[0]? =some (.slice pw S.widths.length cw):=by rw[hR,LSheet.cells,ew];rfl
 have R1:R[1]? =some (.slice pp S.pairs.length cp):=by rw[hR,LSheet.cells,ep];rfl
 have R2:aA R 2 2=some [.int .i64 S.other.lo, .int .i64 S.other.hi]:=by rw[hR];rfl
 have R4:aA R 4 2=some [.int .i64 S.gap.lo, .int .i64 S.gap.hi]:=by rw[hR];rfl
 have R6:R[6]? =some (.int .i64 S.hyphen):=by rw[hR];rfl
 have R7:R[7]? =some (.slice pd S.words.length cd):=by rw[hR,LSheet.cells,ed];rfl
 have R8:R[8]? =some (.int .i64 S.wide):=by rw[hR];rfl
 have R9:R[9]? =some (.int .i64 S.rows):=by rw[hR];rfl
 have Rt:aA R 0 10=some R:=by rw[hR];rfl
 have Rl:R.length=10:=by rw[hR];rfl
 have Ro:bF R=true:=by rw[hR,LSheet.cells,ew,ep,ed];rfl
 have hp:=q.pr
 rw[ep]at hp
 have sf:R.all fj=true:=by rw[hR,LSheet.cells,ew,ep,ed];rfl
 have PX': ∀{h':Heap} (f:Fr h h') (p:LPair),CW CC 102 [.agg ⟨R⟩, .agg ⟨p.cells⟩] h' fun r h2=>r= .bool (S.pairB p)/\ Fr h' h2:=by rw[hR];exact PX
 have WX': ∀{h':Heap} (f:Fr h h') {x:WordV} {w:LWord} (qw:IsWordL h' x w) (hw:w∈S.words) {b:Nat} (hb:rowAt h' b=some R),CW CC 108 [.agg ⟨x.cells⟩, .pointer (some ⟨b,0,none⟩)] h' fun r h2=>r= .bool (!(S.wordB w))/\ Fr h' h2:=by rw[hR];exact WX
 clear PX WX
 rw[<-hR]
 simp only[Tryz.f34]
 have f1:=aI [.row R 0 true] (Fr.refl hk)
 have r1:rowAt (h.ex [.row R 0 true]) h.next=some R:=aZ rfl
 unfold LSheet.ok
 cases q1:cL S.widths.length 1 6 with
 |false=>
  simp(maxDischargeDepth:=30)only[AA,↓reduceIte,Q1,Q2,Q3,Q4,reduceCtorEq,Q5,Q6,Q7,XH,dt,hk,Ro,Rl,R0,bZ,q1,aj]
  exact⟨by simp,f1⟩
 |true=>
 cases q2:decide ((S.pairs.length:Int)>6)with
 |true=>
  have:decide (S.pairs.length<=6)=false:=by have:=of_decide_eq_true q2;exact decide_eq_false (by omega)
  simp(maxDischargeDepth:=30)only[AA,↓reduceIte,Q1,Q2,Q3,Q4,reduceCtorEq,Q5,Q6,Q7,XH,dt,hk,Ro,Rl,R0,R1,bZ,q1,q2,aj,this]
  exact⟨by simp,f1⟩
 |false=>
 have q2':decide (S.pairs.length<=6)=true:=by have:=of_decide_eq_false q2;exact decide_eq_true (by omega)
 rw[q2']
 cases q3:cL S.words.length 1 4 with
 |false=>
  simp(maxDischargeDepth:=30)only[AA,↓reduceIte,Q1,Q2,Q3,Q4,reduceCtorEq,Q5,Q6,Q7,XH,dt,hk,Ro,Rl,R0,R1,R7,bZ,q1,q2,q3,aj]
  exact⟨by simp,f1⟩
 |true=>
 simp(maxDischargeDepth:=30)only[AA,↓reduceIte,Q1,Q2,Q3,Q4,reduceCtorEq,Q5,Q6,Q7,XH,dt,hk,Ro,Rl,R0,R1,R7,bZ,q1,q2,q3,aj]
 generalize(h.ex [.row R 0 true])=H at f1 r1⊢
 have ns: ∀i,i<S.pairs.length ->S.pairAt i=false ->(List.range S.pairs.length).all S.pairAt=false:=fun i hi e=>by
  rw[List.all_eq_false];exact⟨i,List.mem_range.2 hi,by rw[e];simp⟩
 obtain⟨_,_,e0,hx⟩:=hp.open
 simp only[Value.slice.injEq]at e0
 obtain⟨rfl,_,rfl⟩:=e0
 refine dN [2,3,4,27,28,29,30,31,32,33,34,35,36,37,38,39,40,41,42,43,44,45,46,47,48,49,50,51] 27 S.pairs.length (fun i g h'=>Fr H h'/\ ∀j,j<i ->S.pairAt j=true) (by simp only[aa,↓reduceIte]) ⟨Fr.refl f1.ok,fun j hj=>by omega⟩ ?_ ?_
 ·rintro i g h2 hi ag g27 ⟨f2,ha⟩ ih
  have r2:=f2.row' f1.ok r1
  have m2:=af f2.ok r2
  have fh2:=f1.trans f2
  obtain⟨p,gp⟩: ∃p,S.pairs[i]? =some p:=⟨_,List.getElem?_eq_getElem hi⟩
  rcases hx with hx|⟨b,o,sp,row,rfl,hr,hy⟩
  ·rw[hx]at hi;simp at hi
  have ct:=(hy i _ gp).1
  simp only[LPair.cells]at ct
  have hr2:=fh2.row' hk hr
  have mr2:=af f2.ok hr2
  simp(maxDischargeDepth:=30)only[AA,↓reduceIte,Q1,Q2,Q3,Q4,reduceCtorEq,Q5,Q6,Q7,XH,dt,ag.r,NE,g27,f2.ok,cX hi,hi,hr2,mr2,ct]
  have f3:=aI [.row [.int .i64 p.l, .int .i64 p.r, .int .i64 p.lo, .int .i64 p.hi] 0 true] (Fr.refl f2.ok)
  have rx:rowAt (h2.ex [.row [.int .i64 p.l, .int .i64 p.r, .int .i64 p.lo, .int .i64 p.hi] 0 true]) h2.next=some [.int .i64 p.l, .int .i64 p.r, .int .i64 p.lo, .int .i64 p.hi]:=aZ rfl
  generalize(h2.ex [.row [.int .i64 p.l, .int .i64 p.r, .int .i64 p.lo, .int .i64 p.hi] 0 true])=h3 at f3 rx⊢
  have r3:=f3.row' f2.ok r2
  have m3:=af f3.ok r3
  have mx:=af f3.ok rx
  have fh3:=fh2.trans f3
  have X1:=PX' fh3 p
  simp only[LPair.cells]at X1
  refine bR [(true,0),(true,1),(true,2),(true,3),(true,4),(true,5),(true,6),(true,7),(true,8),(true,9),(true,10),(true,11),(true,12),(true,13),(true,14),(true,15),(true,16),(true,17),(true,18)] (by kernel_rfl) ?_
  simp(maxDischargeDepth:=30)only[AA,↓reduceIte,Q1,Q2,Q3,Q4,reduceCtorEq,Q5,Q6,Q7,dk,XH,dt,ag.r,NE,g27,f3.ok,r3,m3,rx,mx,Rt,aj]
  refine bk X1 ?_
  rintro _ h4 ⟨rfl,f4⟩
  have r4:=f4.row' f3.ok r3
  have m4:=af f4.ok r4
  have rx4:=f4.row' f3.ok rx
  have mx4:=af f4.ok rx4
  have fh4:=fh3.trans f4
  have FF:=(f2.trans f3).trans f4
  cases c1:S.pairB p with
  |false=>
   have e0:S.pairAt i=false:=by
    unfold LSheet.pairAt;rw[gp];simp[c1]
   simp(maxDischargeDepth:=30)only[AA,↓reduceIte,Q1,Q2,Q3,Q4,reduceCtorEq,Q5,Q6,Q7,dk,XH,dt,ag.r,NE,g27,f4.ok,r4,m4,rx4,mx4,Rt,sf,aj]
   exact⟨by rw[ns i hi e0];simp,fh4⟩
  |true=>
  by_cases i0:i=0
  ·have z:decide ((i:Int)>0)=false:=decide_eq_false (by omega)
   simp(maxDischargeDepth:=30)only[AA,↓reduceIte,Q1,Q2,Q3,Q4,reduceCtorEq,Q5,Q6,Q7,dk,XH,dt,ag.r,NE,g27,f4.ok,r4,m4,rx4,mx4,Rt,sf,aj,z,bp hi n2]
   refine ih _ _ (by simp only[AG,Nat.reduceEqDiff,ag]) (by simp only[aa,↓reduceIte]) ⟨FF,fun j hj=> ?_⟩
   obtain rfl:j=i:=by omega
   subst i0
   rw[QA gp];exact c1
  ·obtain⟨y,gy⟩: ∃y,S.pairs[i -1]? =some y:=⟨_,List.getElem?_eq_getElem (by omega)⟩
   have ct2:=(hy _ _ gy).1
   simp only[LPair.cells]at ct2
   have w2:IntKind.i64.wrap ((i:Int) -1)=((i -1:Nat):Int):=by rw[bG (by omega) (by omega)];omega
   have z:decide ((i:Int)>0)=true:=decide_eq_true (by omega)
   have hi':i -1<S.pairs.length:=by omega
   have hr4:=fh4.row' hk hr
   have mr4:=af f4.ok hr4
   have X2:=TI f4.ok y p
   simp only[LPair.cells]at X2
   simp(maxDischargeDepth:=30)only[AA,↓reduceIte,Q1,Q2,Q3,Q4,reduceCtorEq,Q5,Q6,Q7,dk,XH,dt,ag.r,NE,g27,f4.ok,r4,m4,rx4,mx4,Rt,sf,aj,z,R1,w2,hi',hr4,mr4,ct2]
   refine bk X2 ?_
   rintro _ h5 ⟨rfl,f5⟩
   have r5:=f5.row' f4.ok r4
   have m5:=af f5.ok r5
   have rx5:=f5.row' f4.ok rx4
   have mx5:=af f5.ok rx5
   have hr5:=f5.row' f4.ok hr4
   have mr5:=af f5.ok hr5
   cases c2:ug y p with
   |false=>
    simp(maxDischargeDepth:=30)only[AA,↓reduceIte,Q1,Q2,Q3,Q4,reduceCtorEq,Q5,Q6,Q7,dk,XH,dt,ag.r,NE,g27,f5.ok,r5,m5,rx5,mx5,Rt,sf,aj,R1,w2,hi',hr5,mr5,ct2]
    exact⟨by rw[ns i hi (by rw[Ba i0 gp gy,c1,c2];rfl)];simp,fh4.trans f5⟩
   |true=>
    simp(maxDischargeDepth:=30)only[AA,↓reduceIte,Q1,Q2,Q3,Q4,reduceCtorEq,Q5,Q6,Q7,dk,XH,dt,ag.r,NE,g27,f5.ok,r5,m5,rx5,mx5,Rt,sf,aj,R1,w2,hi',hr5,mr5,ct2,bp hi n2]
    refine ih _ _ (by simp only[AG,Nat.reduceEqDiff,ag]) (by simp only[aa,↓reduceIte]) ⟨FF.trans f5,fun j hj=> ?_⟩
    by_cases hji:j<i
    ·exact ha j hji
    ·obtain rfl:j=i:=by omega
     rw[Ba i0 gp gy,c1,c2];rfl
 ·rintro g h2 ag g27 ⟨f2,ha⟩
  have r2:=f2.row' f1.ok r1
  have m2:=af f2.ok r2
  have fh2:=f1.trans f2
  have e:(List.range S.pairs.length).all S.pairAt=true:=by rw[List.all_eq_true];exact fun j hj=>ha j (List.mem_range.1 hj)
  rw[e]
  simp(maxDischargeDepth:=30)only[AA,↓reduceIte,Q1,Q2,Q3,Q4,reduceCtorEq,Q5,Q6,Q7,XH,dt,ag.r,NE,g27,f2.ok,dL,r2,m2,R0]
  have hw2:=q.w.fr hk fh2
  rw[ew]at hw2
  refine aC (fX f2.ok (fun n=> !(cL n 1 20)) hw2 n1 fun h3 f3 y _=>⟨h3,?_,Fr.refl f3.ok⟩) ?_
  ·have:=P3 y h3
   simpa[iy,dY]using this
  rintro _ h3 ⟨rfl,f3⟩
  have r3:=f3.row' f2.ok r2
  have m3:=af f3.ok r3
  have fh3:=fh2.trans f3
  cases c1:(S.widths.any fun n=> !(cL n 1 20))with
  |true=>
   simp(maxDischargeDepth:=30)only[AA,↓reduceIte,Q1,Q2,Q3,Q4,reduceCtorEq,Q5,Q6,Q7,XH,dt,ag.r,NE,f3.ok,aj]
   exact⟨by simp,fh3⟩
  |false=>
  simp(maxDischargeDepth:=30)only[AA,↓reduceIte,Q1,Q2,Q3,Q4,reduceCtorEq,Q5,Q6,Q7,XH,dt,ag.r,NE,f3.ok,aj,r3,m3,R2]
  refine aC (IW f3.ok _ _ 0 9) ?_
  rintro _ h4 ⟨rfl,f4⟩
  have r4:=f4.row' f3.ok r3
  have m4:=af f4.ok r4
  have fh4:=fh3.trans f4
  cases c2:u4 S.other.lo S.other.hi 0 9 with
  |false=>
   simp(maxDischargeDepth:=30)only[AA,↓reduceIte,Q1,Q2,Q3,Q4,reduceCtorEq,Q5,Q6,Q7,XH,dt,ag.r,NE,f4.ok,aj]
   exact⟨by simp,fh4⟩
  |true=>
  simp(maxDischargeDepth:=30)only[AA,↓reduceIte,Q1,Q2,Q3,Q4,reduceCtorEq,Q5,Q6,Q7,XH,dt,ag.r,NE,f4.ok,aj,r4,m4,R4]
  refine aC (IW f4.ok _ _ 0 20) ?_
  rintro _ h5 ⟨rfl,f5⟩
  have r5:=f5.row' f4.ok r4
  have m5:=af f5.ok r5
  have fh5:=fh4.trans f5
  cases c3:u4 S.gap.lo S.gap.hi 0 20 with
  |false=>
   simp(maxDischargeDepth:=30)only[AA,↓reduceIte,Q1,Q2,Q3,Q4,reduceCtorEq,Q5,Q6,Q7,XH,dt,ag.r,NE,f5.ok,aj]
   exact⟨by simp,fh5⟩
  |true=>
  cases c4:cL S.hyphen 1 20 with
  |false=>
   simp(maxDischargeDepth:=30)only[AA,↓reduceIte,Q1,Q2,Q3,Q4,reduceCtorEq,Q5,Q6,Q7,XH,dt,ag.r,NE,f5.ok,aj,r5,m5,R6,bZ,c4]
   exact⟨by simp,fh5⟩
  |true=>
  simp(maxDischargeDepth:=30)only[AA,↓reduceIte,Q1,Q2,Q3,Q4,reduceCtorEq,Q5,Q6,Q7,XH,dt,ag.r,NE,f5.ok,aj,r5,m5,R6,R7,bZ,c4]
  obtain⟨us,lu,ru⟩:=(q.fr hk fh5).wd
  rw[ed]at lu
  refine aC (ze f5.ok ru.1 (fun w=> !(S.wordB w)) lu (by rw[ru.1];exact n3) fun h6 f6 i x w hx hw=> ?_) ?_
  ·have:=WX' (fh5.trans f6) ((ru.2 i x w hx hw).fr f5.ok f6) (List.mem_of_getElem? hw) (f6.row' f5.ok r5)
   obtain⟨_,h7,e7,rfl,f7⟩:=this
   exact⟨h7,by simpa[iy,dY]using e7,f7⟩
  rintro _ h6 ⟨rfl,f6⟩
  have r6:=f6.row' f5.ok r5
  have m6:=af f6.ok r6
  have fh6:=fh5.trans f6
  cases c5:(S.words.any fun w=> !(S.wordB w))with
  |true=>
   simp(maxDischargeDepth:=30)only[AA,↓reduceIte,Q1,Q2,Q3,Q4,reduceCtorEq,Q5,Q6,Q7,XH,dt,ag.r,NE,f6.ok,aj]
   exact⟨by simp,fh6⟩
  |false=>
  cases c6:cL S.wide 1 400 with
  |false=>
   simp(maxDischargeDepth:=30)only[AA,↓reduceIte,Q1,Q2,Q3,Q4,reduceCtorEq,Q5,Q6,Q7,XH,dt,ag.r,NE,f6.ok,aj,r6,m6,R8,R9,bZ,c6]
   exact⟨by simp,fh6⟩
  |true=>
   simp(maxDischargeDepth:=30)only[AA,↓reduceIte,Q1,Q2,Q3,Q4,reduceCtorEq,Q5,Q6,Q7,XH,dt,ag.r,NE,f6.ok,aj,r6,m6,R8,R9,bZ,c6]
   exact⟨by simp,fh6⟩
end Go.Am

namespace Go.Am
open Go Go.Proofs
def Fy:=A2 @WQ<|A2 @LK<|A2 @xZ<|A2 @xY<|A2 @xO<|A2 @xN<|A2 @HR<|A2 @rC<|A2 @rz<|A2 @HN<|A2 @zJ<|A2 @Hr<|A2 @Rf<|A2 @jq<|A2 @Rb<|A2 @Le<|A2 @tK<|A2 @mw<|A2 @cS<|A2 @Jr<|A2 @qV<|A2 @GD<|A2 @AN<|A2 @jX<|A2 @Gx<|A2 @u9<|A2 @Py<|A2 @Px<|A2 @Gj<|A2 @Gi<|A2 @uW<|A2 @oN<|A2 @FU<|A2 @Al<|A2 @FO<|A2 @Ah @uO
def ks (l r:Int):Value:= .agg ⟨[.int .i64 l, .int .i64 r]⟩
def vt (p:LPair):Value:= .agg ⟨[.int .i64 p.lo, .int .i64 p.hi]⟩
theorem Qz (a b c d:Int):nW (ks a b) (ks c d)=some (decide (a=c)&&decide (b=d)):=by
 show aX (cW [.int .i64 a, .int .i64 b] [.int .i64 c, .int .i64 d]) (bP _ _)=_
 rw[show cW [.int .i64 a, .int .i64 b] [.int .i64 c, .int .i64 d]=true from rfl,aK]
 simp only[yW,yV]
 by_cases h1:a=c
 ·by_cases h2:b=d
  ·simp[h1,h2]
  ·simp[h1,h2]
 ·simp[h1]
def KP (es:List MapEntry) (l:List LPair):Prop:=es.map (fun e=>(e.key,e.val))=l.map fun p=>(ks p.l p.r,vt p)
def wZ (l r:Int) (p:LPair):Bool:=decide (l=p.l)&&decide (r=p.r)
theorem KP.find: ∀{es:List MapEntry} {L:List LPair} (i:Nat) (l r:Int),KP es L ->(∃j p,L.find? (wZ l r)=some p/\ jA (ks l r) es i=some (some (j,vt p))) \/(L.find? (wZ l r)=none/\ jA (ks l r) es i=some none)
 |[],[],i,l,r,_=> .inr ⟨rfl,rfl⟩
 |e::es,[],i,l,r,h=>by simp[KP]at h
 |[],y::L,i,l,r,h=>by simp[KP]at h
 |e::es,y::L,i,l,r,h=>by
  simp only[KP,List.map_cons,List.cons.injEq,Prod.mk.injEq]at h
  have ih:=KP.find (i+1) l r (show KP es L from h.2)
  rw[pU,h.1.1,Qz,List.find?_cons]
  show _ \/_
  cases e1:wZ l r y with
  |true=>
   have e2:(decide (l=y.l)&&decide (r=y.r))=true:=e1
   rw[e2]
   exact .inl ⟨i,y,rfl,by simp[h.1.2]⟩
  |false=>
   have e2:(decide (l=y.l)&&decide (r=y.r))=false:=e1
   rw[e2]
   exact ih
theorem KP.snoc {es:List MapEntry} {L:List LPair} (h:KP es L) (p:LPair) (c:Nat):KP (es++[{key:=ks p.l p.r,val:=vt p,born:=c}]) (L++[p]):=by
 unfold KP at*;simp[h]
theorem Jf {a b:LPair}:ug a b=true↔a.l<b.l \/(a.l=b.l/\ a.r<b.r):=by
 unfold ug;simp
theorem Je {S:LSheet} (ok: ∀i,i<S.pairs.length ->S.pairAt i=true): ∀(i j:Nat) (p q:LPair),j<i ->S.pairs[i]? =some p ->S.pairs[j]? =some q ->q.l<p.l \/(q.l=p.l/\ q.r<p.r):=by
 intro i
 induction i with
 |zero=>intro j p q h;omega
 |succ i ih=>
  intro j p q hj hp hq
  have hi:=(List.getElem?_eq_some_iff.1 hp).1
  obtain⟨m,hm⟩: ∃m,S.pairs[i]? =some m:=⟨_,List.getElem?_eq_getElem (by omega)⟩
  have a:=ok (i+1) hi
  rw[Ba (by omega) hp (by simpa using hm),Bool.and_eq_true]at a
  have b:=Jf.1 a.2
  by_cases e:j=i
  ·subst e;rw[hm]at hq;simp at hq;subst hq;exact b
  ·have c:=ih j m q (by omega) hm hq
   omega
theorem Mx {S:LSheet} (ok: ∀i,i<S.pairs.length ->S.pairAt i=true) {i:Nat} {p:LPair} (hp:S.pairs[i]? =some p):(S.pairs.take i).find? (wZ p.l p.r)=none:=by
 rw[List.find?_eq_none]
 intro q hq
 obtain⟨j,hj⟩:=List.mem_iff_getElem?.1 hq
 have hji:j<i:=by have:=(List.getElem?_eq_some_iff.1 hj).1;rw[List.length_take]at this;omega
 rw[List.getElem?_take_of_lt hji]at hj
 have:=Je ok i j p q hji hp hj
 simp[wZ];omega
def LSheet.frontC (S:LSheet) (u:LetV) (m:Nat):List Value:=S.cells u++[.map (some m)]
def HasP (S:LSheet) (h:Heap) (m:Nat):Prop:= ∃es c,h.get m=some (.map es c)/\ KP es S.pairs
theorem HasP.fr {S:LSheet} {h h':Heap} {m:Nat} (q:HasP S h m) (hk:HOK h) (f:Fr h h'):HasP S h' m:=by
 obtain⟨es,c,e,q⟩:=q;exact⟨es,c,f.get' hk e,q⟩
set_option maxRecDepth 10000 in
set_option maxHeartbeats 2000000 in
theorem Yh {h:Heap} (hk:HOK h) {u:LetV} {S:LSheet} (q:IsLet h u S) (sm:S.Small) (ok: ∀i,i<S.pairs.length ->S.pairAt i=true):
  CW CC 35 [.agg ⟨S.cells u⟩] h fun r h'=>(∃m,r= .agg ⟨S.frontC u m⟩/\ h.next<=m/\ HasP S h' m)/\ Fr h h':=by
 obtain⟨pw,cw,ew⟩:=q.w.len
 obtain⟨pp,cp,ep⟩:=q.pr.len
 obtain⟨pd,cd,ed⟩:=q.len
 have n2:=sm.pr
 have hp:=q.pr
 have fits: ∀l r,iP CC 221 (ks l r)=true:=fun l r=>by kernel_rfl
 refine aw Tryz.f35 (by kernel_rfl) (by kernel_rfl) rfl rfl ?_
 simp only[LSheet.frontC,LSheet.cells]
 rw[ew,ep,ed]at*
 simp only[Tryz.f35]
 have f1:=aI [.row [.slice pw S.widths.length cw, .slice pp S.pairs.length cp, .int .i64 S.other.lo, .int .i64 S.other.hi, .int .i64 S.gap.lo, .int .i64 S.gap.hi, .int .i64 S.hyphen, .slice pd S.words.length cd, .int .i64 S.wide, .int .i64 S.rows] 0 true, .row [.slice none 0 0, .slice none 0 0, .int .i64 0, .int .i64 0, .int .i64 0, .int .i64 0, .int .i64 0, .slice none 0 0, .int .i64 0, .int .i64 0, .map none] 0 true, .map [] 0, .row [.slice pw S.widths.length cw, .slice pp S.pairs.length cp, .int .i64 S.other.lo, .int .i64 S.other.hi, .int .i64 S.gap.lo, .int .i64 S.gap.hi, .int .i64 S.hyphen, .slice pd S.words.length cd, .int .i64 S.wide, .int .i64 S.rows, .map (some (h.next+2))] 0 true] (Fr.refl hk)
 have n1:(h.ex [.row [.slice pw S.widths.length cw, .slice pp S.pairs.length cp, .int .i64 S.other.lo, .int .i64 S.other.hi, .int .i64 S.gap.lo, .int .i64 S.gap.hi, .int .i64 S.hyphen, .slice pd S.words.length cd, .int .i64 S.wide, .int .i64 S.rows] 0 true, .row [.slice none 0 0, .slice none 0 0, .int .i64 0, .int .i64 0, .int .i64 0, .int .i64 0, .int .i64 0, .slice none 0 0, .int .i64 0, .int .i64 0, .map none] 0 true, .map [] 0, .row [.slice pw S.widths.length cw, .slice pp S.pairs.length cp, .int .i64 S.other.lo, .int .i64 S.other.hi, .int .i64 S.gap.lo, .int .i64 S.gap.hi, .int .i64 S.hyphen, .slice pd S.words.length cd, .int .i64 S.wide, .int .i64 S.rows, .map (some (h.next+2))] 0 true]).next=h.next+4:=by rw[bc];rfl
 have g1:(h.ex [.row [.slice pw S.widths.length cw, .slice pp S.pairs.length cp, .int .i64 S.other.lo, .int .i64 S.other.hi, .int .i64 S.gap.lo, .int .i64 S.gap.hi, .int .i64 S.hyphen, .slice pd S.words.length cd, .int .i64 S.wide, .int .i64 S.rows] 0 true, .row [.slice none 0 0, .slice none 0 0, .int .i64 0, .int .i64 0, .int .i64 0, .int .i64 0, .int .i64 0, .slice none 0 0, .int .i64 0, .int .i64 0, .map none] 0 true, .map [] 0, .row [.slice pw S.widths.length cw, .slice pp S.pairs.length cp, .int .i64 S.other.lo, .int .i64 S.other.hi, .int .i64 S.gap.lo, .int .i64 S.gap.hi, .int .i64 S.hyphen, .slice pd S.words.length cd, .int .i64 S.wide, .int .i64 S.rows, .map (some (h.next+2))] 0 true]).get (h.next+1)=some (.row [.slice none 0 0, .slice none 0 0, .int .i64 0, .int .i64 0, .int .i64 0, .int .i64 0, .int .i64 0, .slice none 0 0, .int .i64 0, .int .i64 0, .map none] 0 true):=by rw[jd rfl (by simp)];rfl
 have g2:(h.ex [.row [.slice pw S.widths.length cw, .slice pp S.pairs.length cp, .int .i64 S.other.lo, .int .i64 S.other.hi, .int .i64 S.gap.lo, .int .i64 S.gap.hi, .int .i64 S.hyphen, .slice pd S.words.length cd, .int .i64 S.wide, .int .i64 S.rows] 0 true, .row [.slice none 0 0, .slice none 0 0, .int .i64 0, .int .i64 0, .int .i64 0, .int .i64 0, .int .i64 0, .slice none 0 0, .int .i64 0, .int .i64 0, .map none] 0 true, .map [] 0, .row [.slice pw S.widths.length cw, .slice pp S.pairs.length cp, .int .i64 S.other.lo, .int .i64 S.other.hi, .int .i64 S.gap.lo, .int .i64 S.gap.hi, .int .i64 S.hyphen, .slice pd S.words.length cd, .int .i64 S.wide, .int .i64 S.rows, .map (some (h.next+2))] 0 true]).get (h.next+2)=some (.map [] 0):=by rw[jd rfl (by simp)];rfl
 have r3:rowAt (h.ex [.row [.slice pw S.widths.length cw, .slice pp S.pairs.length cp, .int .i64 S.other.lo, .int .i64 S.other.hi, .int .i64 S.gap.lo, .int .i64 S.gap.hi, .int .i64 S.hyphen, .slice pd S.words.length cd, .int .i64 S.wide, .int .i64 S.rows] 0 true, .row [.slice none 0 0, .slice none 0 0, .int .i64 0, .int .i64 0, .int .i64 0, .int .i64 0, .int .i64 0, .slice none 0 0, .int .i64 0, .int .i64 0, .map none] 0 true, .map [] 0, .row [.slice pw S.widths.length cw, .slice pp S.pairs.length cp, .int .i64 S.other.lo, .int .i64 S.other.hi, .int .i64 S.gap.lo, .int .i64 S.gap.hi, .int .i64 S.hyphen, .slice pd S.words.length cd, .int .i64 S.wide, .int .i64 S.rows, .map (some (h.next+2))] 0 true]) (h.next+3)=some [.slice pw S.widths.length cw, .slice pp S.pairs.length cp, .int .i64 S.other.lo, .int .i64 S.other.hi, .int .i64 S.gap.lo, .int .i64 S.gap.hi, .int .i64 S.hyphen, .slice pd S.words.length cd, .int .i64 S.wide, .int .i64 S.rows, .map (some (h.next+2))]:=by rw[jy rfl (by simp)];rfl
 simp(maxDischargeDepth:=30)only[AA,↓reduceIte,Q1,Q2,Q3,Q4,reduceCtorEq,Q5,Q6,Q7,XH,Fy,hk]
 generalize(h.ex [.row [.slice pw S.widths.length cw, .slice pp S.pairs.length cp, .int .i64 S.other.lo, .int .i64 S.other.hi, .int .i64 S.gap.lo, .int .i64 S.gap.hi, .int .i64 S.hyphen, .slice pd S.words.length cd, .int .i64 S.wide, .int .i64 S.rows] 0 true, .row [.slice none 0 0, .slice none 0 0, .int .i64 0, .int .i64 0, .int .i64 0, .int .i64 0, .int .i64 0, .slice none 0 0, .int .i64 0, .int .i64 0, .map none] 0 true, .map [] 0, .row [.slice pw S.widths.length cw, .slice pp S.pairs.length cp, .int .i64 S.other.lo, .int .i64 S.other.hi, .int .i64 S.gap.lo, .int .i64 S.gap.hi, .int .i64 S.hyphen, .slice pd S.words.length cd, .int .i64 S.wide, .int .i64 S.rows, .map (some (h.next+2))] 0 true])=H at f1 n1 g1 g2 r3⊢
 obtain⟨_,_,e0,hx⟩:=hp.open
 simp only[Value.slice.injEq]at e0
 obtain⟨rfl,_,rfl⟩:=e0
 refine dN [5,12,13,14,15,16,17,18,19,20,21,22,23,24,25] 12 S.pairs.length (fun i g h'=> ∃es c,h'.get (h.next+2)=some (.map es c)/\ KP es (S.pairs.take i)/\ Gr (fun j=>j=h.next+2) H h') (by simp only[aa,↓reduceIte]) ⟨[],0,g2,rfl,Gr.refl f1.ok⟩ ?_ ?_
 ·rintro i g h2 hi ag g12 ⟨es,c,gm,kp,gr⟩ ih
  have k2:=gr.ok
  have n2':=gr.next
  obtain⟨p,gp⟩: ∃p,S.pairs[i]? =some p:=⟨_,List.getElem?_eq_getElem hi⟩
  rcases hx with hx|⟨b,o,sp,row,rfl,hr,hy⟩
  ·rw[hx]at hi;simp at hi
  have ct:=(hy i _ gp).1
  simp only[LPair.cells]at ct
  have mr0:=af hk hr
  have hr2:rowAt h2 b=some row:=by unfold rowAt;rw[gr.get b (by omega) (by omega)];exact f1.row' hk hr
  have mr2:=af k2 hr2
  have r32:rowAt h2 (h.next+3)=some [.slice pw S.widths.length cw, .slice (some ⟨b,o,sp⟩) S.pairs.length cp, .int .i64 S.other.lo, .int .i64 S.other.hi, .int .i64 S.gap.lo, .int .i64 S.gap.hi, .int .i64 S.hyphen, .slice pd S.words.length cd, .int .i64 S.wide, .int .i64 S.rows, .map (some (h.next+2))]:=by unfold rowAt;rw[gr.get _ (by omega) (by omega)];exact r3
  have m32:=af k2 r32
  have nw:=(KP.find 0 p.l p.r kp)
  have no:jA (ks p.l p.r) es 0=some none:=by
   rcases KP.find 0 p.l p.r kp with⟨j,q',h1,_⟩|⟨_,h2⟩
   ·rw[Mx ok gp]at h1;simp at h1
   ·exact h2
  have f3:=aI [.row [.int .i64 p.l, .int .i64 p.r, .int .i64 p.lo, .int .i64 p.hi] 0 true] (Fr.refl k2)
  have m3:=f3.get' k2 gm
  have e3:=C3 (C:=CC) (v:=vt p) uW (fits p.l p.r) m3 no
  unfold ks vt at e3
  have k3:=f3.ok
  have n3:(h2.ex [.row [.int .i64 p.l, .int .i64 p.r, .int .i64 p.lo, .int .i64 p.hi] 0 true]).next=h2.next+1:=by rw[bc];rfl
  have k4:=k3.set (i:=h.next+2) (by omega) (.map (es++[{key:=ks p.l p.r,val:=vt p,born:=c}]) (c+1))
  unfold ks vt at k4
  simp(maxDischargeDepth:=30)only[AA,↓reduceIte,Q1,Q2,Q3,Q4,reduceCtorEq,Q5,Q6,Q7,XH,Fy,ag.r,NE,g12,k2,cX hi,hi,hr2,mr2,ct,r32,m32,e3,k4,bp hi n2]
  refine ih _ _ (by simp only[AG,Nat.reduceEqDiff,ag]) (by simp only[aa,↓reduceIte]) ⟨_,_,am _ _ _,?_,?_⟩
  ·rw[bI gp];exact kp.snoc p c
  ·refine⟨k4,by simp;omega,fun j hj hn=> ?_⟩
   rw[Heap.get_set_ne _ _ hn,gz (by omega)];exact gr.get j hj hn
 ·rintro g h2 ag g12 ⟨es,c,gm,kp,gr⟩
  have k2:=gr.ok
  have n2':=gr.next
  have r32:rowAt h2 (h.next+3)=some [.slice pw S.widths.length cw, .slice pp S.pairs.length cp, .int .i64 S.other.lo, .int .i64 S.other.hi, .int .i64 S.gap.lo, .int .i64 S.gap.hi, .int .i64 S.hyphen, .slice pd S.words.length cd, .int .i64 S.wide, .int .i64 S.rows, .map (some (h.next+2))]:=by unfold rowAt;rw[gr.get _ (by omega) (by omega)];exact r3
  have g12':h2.get (h.next+1)=some (.row [.slice none 0 0, .slice none 0 0, .int .i64 0, .int .i64 0, .int .i64 0, .int .i64 0, .int .i64 0, .slice none 0 0, .int .i64 0, .int .i64 0, .map none] 0 true):=by rw[gr.get _ (by omega) (by omega)];exact g1
  rw[List.take_length]at kp
  simp(maxDischargeDepth:=30)only[AA,↓reduceIte,Q1,Q2,Q3,Q4,reduceCtorEq,Q5,Q6,Q7,XH,Fy,ag.r,NE,g12,k2,dL,r32,g12']
  refine⟨⟨h.next+2,rfl,by omega,es,c,by rw[Heap.get_set_ne _ _ (by omega)];exact gm,kp⟩,?_⟩
  exact(gr.fr f1 (fun i hi=>by omega)).set (by omega) (by omega) _
end Go.Am

namespace Go.Am
open Go Go.Proofs
theorem IsLet.at {h:Heap} {u:LetV} {S:LSheet} (q:IsLet h u S) {i:Nat} {w:LWord} (hw:S.words[i]? =some w): ∃b o sp c row sv cv,u.wd= .slice (some ⟨b,o,sp⟩) S.words.length c/\ rowAt h b=some row/\ i<S.words.length/\ LS h sv w.signs aQ 1/\ LS h cv w.cuts aQ 1/\
  row[o+i*3]? =some sv/\ row[o+i*3+1]? =some cv/\ row[o+i*3+2]? =some (.bool w.free):=by
 obtain⟨us,q1,q2⟩:=q.wd
 have hi:=(List.getElem?_eq_some_iff.1 hw).1
 obtain⟨x,hx⟩: ∃x,us[i]? =some x:=⟨_,List.getElem?_eq_getElem (by rw[q2.1];exact hi)⟩
 have hr:=q2.2 i x w hx hw
 rcases q1 with⟨e,_⟩|⟨b,o,sp,c,row,e,hr',hy⟩
 ·rw[e]at hx;simp at hx
 ·have a:=(hy i x hx).2
  refine⟨b,o,sp,c,row,x.signs,x.cuts,by rw[e,q2.1],hr',hi,hr.signs,hr.cuts,?_,?_,?_⟩
  ·simpa[WordV.cells]using a 0 (by omega)
  ·simpa[WordV.cells]using a 1 (by omega)
  ·simpa[WordV.cells,hr.free]using a 2 (by omega)
structure FrontF (S:LSheet) (R:List Value) (m:Nat) (pw pp pd:Option Addr) (cw cp cd:Nat):Prop where
 r0:R[0]? =some (.slice pw S.widths.length cw)
 r2:aA R 2 2=some [.int .i64 S.other.lo, .int .i64 S.other.hi]
 r4:aA R 4 2=some [.int .i64 S.gap.lo, .int .i64 S.gap.hi]
 r6:R[6]? =some (.int .i64 S.hyphen)
 r7:R[7]? =some (.slice pd S.words.length cd)
 r8:R[8]? =some (.int .i64 S.wide)
 r9:R[9]? =some (.int .i64 S.rows)
 rm:R[10]? =some (.map (some m))
 rt:aA R 0 10=some (R.take 10)
 ra:aA R 0 11=some R
 rl:R.length=11
 ro:bF R=true
 sf:R.all fj=true
theorem IsLet.front {h:Heap} {u:LetV} {S:LSheet} (q:IsLet h u S) (m:Nat): ∃pw cw pp cp pd cd,FrontF S (S.frontC u m) m pw pp pd cw cp cd/\ u.w= .slice pw S.widths.length cw/\ u.wd= .slice pd S.words.length cd/\ u.pr= .slice pp S.pairs.length cp:=by
 obtain⟨pw,cw,ew⟩:=q.w.len
 obtain⟨pp,cp,ep⟩:=q.pr.len
 obtain⟨pd,cd,ed⟩:=q.len
 refine⟨pw,cw,pp,cp,pd,cd,?_,ew,ed,ep⟩
 unfold LSheet.frontC LSheet.cells
 rw[ew,ep,ed]
 exact⟨rfl,rfl,rfl,rfl,rfl,rfl,rfl,rfl,rfl,rfl,rfl,rfl,rfl⟩
def LSheet.sign (S:LSheet) (p:Nat×Nat):Int:=match S.words[p.1]? with
 |some w=>w.signs.getD p.2 0
 |none=>0
def LSheet.SpotOK (S:LSheet) (p:Nat×Nat):Prop:= ∃w,S.words[p.1]? =some w/\ p.2<w.signs.length
def bV (p:Nat×Nat):List Value:=[.int .i64 p.1, .int .i64 p.2]
theorem fN (p:Nat×Nat):(bV p).length=2:=rfl
theorem PW {h:Heap} (hk:HOK h) {u:LetV} {S:LSheet} {m:Nat} (q:IsLet h u S) {p:Nat×Nat} (hp:S.SpotOK p):
  CW CC 299 [.agg ⟨S.frontC u m⟩, .agg ⟨bV p⟩] h fun r h'=>r= .int .i64 (S.sign p)/\ Fr h h':=by
 obtain⟨w,hw,hi⟩:=hp
 obtain⟨pw,cw,pp,cp,pd,cd,F,_,ed,_⟩:=q.front m
 obtain⟨b,o,sp,c,row,sv,cv,e1,hr,hl,ls,_,c0,_⟩:=q.at hw
 rw[ed]at e1
 simp only[Value.slice.injEq]at e1
 obtain⟨rfl,_,rfl⟩:=e1
 obtain⟨x,gx⟩: ∃x,w.signs[p.2]? =some x:=⟨_,List.getElem?_eq_getElem hi⟩
 have gs:S.sign p=x:=by unfold LSheet.sign;rw[hw];simp[List.getD_eq_getElem?_getD,gx]
 obtain⟨p2,c2,rfl,hy⟩:=ls.open
 rcases hy with hy|⟨b2,o2,sp2,row2,rfl,hr2,hy⟩
 ·rw[hy]at hi;simp at hi
 have c1:row2[o2+p.2]? =some (.int .i64 x):=by simpa[aQ]using(hy _ x gx).2 0 (by omega)
 have nb:=af hk hr
 have nb2:=af hk hr2
 generalize S.frontC u m=R at F
 refine aw Tryz.f299 (by kernel_rfl) (by kernel_rfl) rfl rfl ?_
 simp only[Tryz.f299,bV]
 have f1:=aI [.row R 0 true, .row [.int .i64 p.1, .int .i64 p.2] 0 true] (Fr.refl hk)
 have r1:rowAt (h.ex [.row R 0 true, .row [.int .i64 p.1, .int .i64 p.2] 0 true]) h.next=some R:=aZ rfl
 have r2:rowAt (h.ex [.row R 0 true, .row [.int .i64 p.1, .int .i64 p.2] 0 true]) (h.next+1)=some [.int .i64 p.1, .int .i64 p.2]:=by rw[jy rfl (by simp)];rfl
 simp(maxDischargeDepth:=30)only[AA,↓reduceIte,Q1,Q2,Q3,Q4,reduceCtorEq,Q5,Q6,Q7,XH,iH,pI,BN,HH,pC,cG,tO,cM,Bx,cS,bJ,jS,aV,jR,ba,gv,bm,ji,bh,jN,hk,F.ro,F.rl]
 generalize(h.ex [.row R 0 true, .row [.int .i64 p.1, .int .i64 p.2] 0 true])=H at f1 r1 r2⊢
 have hr':=f1.row' hk hr
 have hr2':=f1.row' hk hr2
 refine bR [(true,0),(true,1),(true,2),(true,3),(true,4),(true,5),(true,6),(true,7),(true,8),(true,9),(true,10),(true,11),(true,12)] (by kernel_rfl) ?_
 simp(maxDischargeDepth:=30)only[AA,↓reduceIte,Q1,Q2,Q3,Q4,reduceCtorEq,Q5,Q6,Q7,dk,XH,iH,pI,BN,HH,pC,cG,tO,cM,Bx,cS,bJ,jS,aV,jR,ba,gv,bm,ji,bh,jN,f1.ok,r1,r2,F.r7,hl,hr',hr2',c0,hi,Nat.mul_one,c1]
 exact⟨by rw[gs],f1⟩
def zh (lo hi s:Int):Int:=lo+((hi -lo)*s).tdiv 10
theorem Co {lo hi s:Int} (h1:0<=lo) (h2:lo<=hi) (h3:hi<=20) (hs:0<=s/\ s<=10):0<=(hi -lo)*s/\ (hi -lo)*s<=200/\ lo<=zh lo hi s/\ zh lo hi s<=20:=by
 have m0:0<=(hi -lo)*s:=Int.mul_nonneg (by omega) hs.1
 have m1:(hi -lo)*s<=(hi -lo)*10:=Int.mul_le_mul_of_nonneg_left hs.2 (by omega)
 unfold zh
 rw[Int.tdiv_eq_ediv_of_nonneg m0]
 refine⟨m0,by omega,by omega,by omega⟩
theorem tp {h:Heap} (hk:HOK h) {lo hi s:Int} (h1:0<=lo) (h2:lo<=hi) (h3:hi<=20) (hs:0<=s/\ s<=10):
  CW CC 302 [.agg ⟨[.int .i64 lo, .int .i64 hi]⟩, .int .i64 s] h fun r h'=>r= .int .i64 (zh lo hi s)/\ Fr h h':=by
 obtain⟨m0,m1,b1,b2⟩:=Co h1 h2 h3 hs
 have w1:IntKind.i64.wrap (hi -lo)=hi -lo:=bG (by omega) (by omega)
 have w2:IntKind.i64.wrap ((hi -lo)*s)=(hi -lo)*s:=bG (by omega) (by omega)
 have d0:0<=((hi -lo)*s).tdiv 10/\ ((hi -lo)*s).tdiv 10<=20:=by rw[Int.tdiv_eq_ediv_of_nonneg m0];omega
 have w3:IntKind.i64.wrap (((hi -lo)*s).tdiv 10)=((hi -lo)*s).tdiv 10:=bG (by omega) (by omega)
 have w4:IntKind.i64.wrap (lo+((hi -lo)*s).tdiv 10)=lo+((hi -lo)*s).tdiv 10:=bG (by omega) (by omega)
 refine aw Tryz.f302 (by kernel_rfl) (by kernel_rfl) rfl rfl ?_
 simp only[Tryz.f302]
 simp(maxDischargeDepth:=30)only[AA,↓reduceIte,Q1,Q2,Q3,Q4,reduceCtorEq,Q5,Q6,Q7,XH,iR,iQ,cS,hk,w1,w2,XK _ _ _ _ ((hi -lo)*s) 10 (by decide),w3,w4]
 exact⟨by rw[zh],aI _ (Fr.refl hk)⟩
end Go.Am
