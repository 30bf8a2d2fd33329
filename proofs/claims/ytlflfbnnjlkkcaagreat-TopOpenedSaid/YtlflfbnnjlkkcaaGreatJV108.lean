/- Parts V108, V109, V110 of the abstract machine over this program, joined: what each part says stands at its head. -/
import Derived.Test.YtlflfbnnjlkkcaaGreatJV102
set_option linter.unusedSimpArgs false
set_option linter.unusedVariables false
set_option linter.defProp false
open Nat renaming reduceLT→Q1,reduceEqDiff→Q2,reduceAdd→Q3,reduceMul→Q4,reduceLeDiff→Q5
open Int renaming reduceNe→Q6,reduceEq→Q7
namespace Go.Am
open Go Go.Proofs
def oA:=A2 @vJ<|A2 @vI<|A2 @EI<|A2 @cM<|A2 @Hh<|A2 @Q0<|A2 @cA<|A2 @Br @Jq
def lh:=A2 @iR<|A2 @iQ<|A2 @vJ<|A2 @Wb<|A2 @Wa<|A2 @V9<|A2 @V8<|A2 @cM<|A2 @cS @cA
def ld:=A2 @Sf<|A2 @Se<|A2 @Sd<|A2 @Sc<|A2 @YI<|A2 @YH @cS
structure IsSheet (h:Heap) (a b c:Value) (s:Sheet):Prop where
 offs:LS h a s.offs aQ 1
 boards:LS h b s.boards Board.cells 5
 tars:LS h c s.tars Tar.cells 5
theorem IsSheet.fr {h h':Heap} {a b c:Value} {s:Sheet} (q:IsSheet h a b c s) (hk:HOK h) (f:Fr h h'):IsSheet h' a b c s:=⟨q.offs.fr hk f,q.boards.fr hk f,q.tars.fr hk f⟩
def Tar.ok (t:Tar):Bool:=decide (1<=t.kind/\ t.kind<=4/\ 1<=t.rule/\ t.rule<=4/\ 0<=t.coins/\ t.coins<=500/\ 1<=t.units/\ t.units<=12)
theorem Tar.ok_eq (k c u r:Int) (e:Bool):(decide (k>=1)&&(decide (k<=4)&&(decide (r>=1)&&(decide (r<=4)&&(cL c 0 500&&cL u 1 12)))))=Tar.ok ⟨k,c,u,r,e⟩:=by
 simp only[Tar.ok,cL]
 rw[Bool.eq_iff_iff]
 simp
 omega
theorem Ht (t:Tar) (h:Heap) (hk:HOK h):CW CC 142 [.agg ⟨t.cells⟩] h fun v h'=>v= .bool t.ok/\ Fr h h':=by
 obtain⟨k,c,u,r,e⟩:=t
 refine aw Tryz.f142 (by kernel_rfl) (by kernel_rfl) rfl rfl ?_
 simp only[Tryz.f142,Tar.cells]
 have go:=Tar.ok_eq k c u r e
 cases c1:decide (k>=1)with
 |false=>
  simp(maxDischargeDepth:=30)only[AA,↓reduceIte,Q1,Q2,Q3,Q4,reduceCtorEq,Q5,Q6,Q7,ld,hk,di,c1]
  exact⟨by first|(rw[<-go];simp only[c1,Bool.true_and,Bool.false_and,Bool.not_true,Bool.not_false,Bool.and_false,Bool.and_true])|(rw[<-go];simp[c1]),(Fr.refl hk).alloc _⟩
 |true=>
 cases c2:decide (k<=4)with
 |false=>
  simp(maxDischargeDepth:=30)only[AA,↓reduceIte,Q1,Q2,Q3,Q4,reduceCtorEq,Q5,Q6,Q7,ld,hk,di,c1,c2]
  exact⟨by first|(rw[<-go];simp only[c1,c2,Bool.true_and,Bool.false_and,Bool.not_true,Bool.not_false,Bool.and_false,Bool.and_true])|(rw[<-go];simp[c1,c2]),(Fr.refl hk).alloc _⟩
 |true=>
 cases c3:decide (r>=1)with
 |false=>
  simp(maxDischargeDepth:=30)only[AA,↓reduceIte,Q1,Q2,Q3,Q4,reduceCtorEq,Q5,Q6,Q7,ld,hk,di,c1,c2,c3]
  exact⟨by first|(rw[<-go];simp only[c1,c2,c3,Bool.true_and,Bool.false_and,Bool.not_true,Bool.not_false,Bool.and_false,Bool.and_true])|(rw[<-go];simp[c1,c2,c3]),(Fr.refl hk).alloc _⟩
 |true=>
 cases c4:decide (r<=4)with
 |false=>
  simp(maxDischargeDepth:=30)only[AA,↓reduceIte,Q1,Q2,Q3,Q4,reduceCtorEq,Q5,Q6,Q7,ld,hk,di,c1,c2,c3,c4]
  exact⟨by first|(rw[<-go];simp only[c1,c2,c3,c4,Bool.true_and,Bool.false_and,Bool.not_true,Bool.not_false,Bool.and_false,Bool.and_true])|(rw[<-go];simp[c1,c2,c3,c4]),(Fr.refl hk).alloc _⟩
 |true=>
 cases c5:cL c 0 500 with
 |false=>
  simp(maxDischargeDepth:=30)only[AA,↓reduceIte,Q1,Q2,Q3,Q4,reduceCtorEq,Q5,Q6,Q7,ld,hk,di,c1,c2,c3,c4,c5]
  exact⟨by first|(rw[<-go];simp only[c1,c2,c3,c4,c5,Bool.true_and,Bool.false_and,Bool.not_true,Bool.not_false,Bool.and_false,Bool.and_true])|(rw[<-go];simp[c1,c2,c3,c4,c5]),(Fr.refl hk).alloc _⟩
 |true=>
 simp(maxDischargeDepth:=30)only[AA,↓reduceIte,Q1,Q2,Q3,Q4,reduceCtorEq,Q5,Q6,Q7,ld,hk,di,c1,c2,c3,c4,c5]
 exact⟨by first|(rw[<-go];simp only[c1,c2,c3,c4,c5,Bool.true_and,Bool.false_and,Bool.not_true,Bool.not_false,Bool.and_false,Bool.and_true])|(rw[<-go];simp[c1,c2,c3,c4,c5]),(Fr.refl hk).alloc _⟩
def Board.ok (m:Nat) (b:Board):Bool:=decide (0<=b.L/\ b.L<=60/\ 0<=b.F/\ b.F<=40/\ 0<=b.lo/\ b.lo<=40/\ b.lo<=b.hi/\ b.hi<=40/\ b.hi -b.lo<=6/\ 0<=b.ow/\ b.ow<=m -1)
theorem Board.ok_eq (L F lo hi ow:Int) (n:Nat):(cL L 0 60&&(cL F 0 40&&(cL lo 0 40&&(cL hi lo 40&&(decide (hi -lo<=6)&&cL ow 0 (n -1))))))=Board.ok n ⟨L,F,lo,hi,ow⟩:=by
 simp only[Board.ok,cL]
 rw[Bool.eq_iff_iff]
 simp
 omega
theorem Hu (p q r:Option Addr) (a b c d e f:Nat) (x:Board) (h:Heap) (hk:HOK h) (ha:a<=100):CW CC 139 [.agg ⟨[.slice p a b, .slice q c d, .slice r e f]⟩, .agg ⟨x.cells⟩] h fun v h'=>v= .bool (x.ok a)/\ Fr h h':=by
 obtain⟨L,F,lo,hi,ow⟩:=x
 refine aw Tryz.f139 (by kernel_rfl) (by kernel_rfl) rfl rfl ?_
 simp only[Tryz.f139,Board.cells]
 have go:=Board.ok_eq L F lo hi ow a
 have w2:IntKind.i64.wrap ((a:Int) -1)=a -1:=bG (by omega) (by omega)
 cases c1:cL L 0 60 with
 |false=>
  simp(maxDischargeDepth:=30)only[AA,↓reduceIte,Q1,Q2,Q3,Q4,reduceCtorEq,Q5,Q6,Q7,lh,hk,di,w2,c1]
  exact⟨by first|(rw[<-go];simp only[c1,Bool.true_and,Bool.false_and,Bool.not_true,Bool.not_false,Bool.and_false,Bool.and_true])|(rw[<-go];simp[c1]),(Fr.refl hk).alloc _|>.alloc _⟩
 |true=>
 cases c2:cL F 0 40 with
 |false=>
  simp(maxDischargeDepth:=30)only[AA,↓reduceIte,Q1,Q2,Q3,Q4,reduceCtorEq,Q5,Q6,Q7,lh,hk,di,w2,c1,c2]
  exact⟨by first|(rw[<-go];simp only[c1,c2,Bool.true_and,Bool.false_and,Bool.not_true,Bool.not_false,Bool.and_false,Bool.and_true])|(rw[<-go];simp[c1,c2]),(Fr.refl hk).alloc _|>.alloc _⟩
 |true=>
 cases c3:cL lo 0 40 with
 |false=>
  simp(maxDischargeDepth:=30)only[AA,↓reduceIte,Q1,Q2,Q3,Q4,reduceCtorEq,Q5,Q6,Q7,lh,hk,di,w2,c1,c2,c3]
  exact⟨by first|(rw[<-go];simp only[c1,c2,c3,Bool.true_and,Bool.false_and,Bool.not_true,Bool.not_false,Bool.and_false,Bool.and_true])|(rw[<-go];simp[c1,c2,c3]),(Fr.refl hk).alloc _|>.alloc _⟩
 |true=>
 cases c4:cL hi lo 40 with
 |false=>
  simp(maxDischargeDepth:=30)only[AA,↓reduceIte,Q1,Q2,Q3,Q4,reduceCtorEq,Q5,Q6,Q7,lh,hk,di,w2,c1,c2,c3,c4]
  exact⟨by first|(rw[<-go];simp only[c1,c2,c3,c4,Bool.true_and,Bool.false_and,Bool.not_true,Bool.not_false,Bool.and_false,Bool.and_true])|(rw[<-go];simp[c1,c2,c3,c4]),(Fr.refl hk).alloc _|>.alloc _⟩
 |true=>
 have:=of_decide_eq_true c3
 have:=of_decide_eq_true c4
 have w1:IntKind.i64.wrap (hi -lo)=hi -lo:=bG (by omega) (by omega)
 cases c5:decide (hi -lo<=6)with
 |false=>
  simp(maxDischargeDepth:=30)only[AA,↓reduceIte,Q1,Q2,Q3,Q4,reduceCtorEq,Q5,Q6,Q7,lh,hk,di,w2,w1,c1,c2,c3,c4,c5]
  exact⟨by first|(rw[<-go];simp only[c1,c2,c3,c4,c5,Bool.true_and,Bool.false_and,Bool.not_true,Bool.not_false,Bool.and_false,Bool.and_true])|(rw[<-go];simp[c1,c2,c3,c4,c5]),(Fr.refl hk).alloc _|>.alloc _⟩
 |true=>
 simp(maxDischargeDepth:=30)only[AA,↓reduceIte,Q1,Q2,Q3,Q4,reduceCtorEq,Q5,Q6,Q7,lh,hk,di,w2,w1,c1,c2,c3,c4,c5]
 exact⟨by first|(rw[<-go];simp only[c1,c2,c3,c4,c5,Bool.true_and,Bool.false_and,Bool.not_true,Bool.not_false,Bool.and_false,Bool.and_true])|(rw[<-go];simp[c1,c2,c3,c4,c5]),(Fr.refl hk).alloc _|>.alloc _⟩
theorem Mn (x:Int) (h:Heap):cI CC (bH CC) 136 [.int .i64 x] h=some (.ret (.bool (!(cL x 0 100))) h none):=by
 refine CW.eq (aw Tryz.f136 (by kernel_rfl) (by kernel_rfl) rfl rfl ?_)
 simp only[Tryz.f136]
 simp(maxDischargeDepth:=30)only[AA,↓reduceIte,Q1,Q2,Q3,Q4,reduceCtorEq,Q5,Q6,Q7,fT,di]
theorem Ml (t:Tar) (h:Heap) (hk:HOK h):CW CC 141 [.agg ⟨t.cells⟩] h fun v h'=>v= .bool (!t.ok)/\ Fr h h':=by
 refine aw Tryz.f141 (by kernel_rfl) (by kernel_rfl) rfl rfl ?_
 simp only[Tryz.f141]
 obtain⟨r,h2,e2,rfl,fr2⟩:=Ht t (h.alloc (.row t.cells 0 true)) (hk.alloc _)
 have k:aA t.cells 0 5=some t.cells:=rfl
 simp(maxDischargeDepth:=30)only[AA,↓reduceIte,Q1,Q2,Q3,Q4,reduceCtorEq,Q5,Q6,Q7,Rc,hk,k,e2]
 exact⟨trivial,((Fr.refl hk).alloc _).trans fr2⟩
theorem Mm {h:Heap} (hk:HOK h) (x:Board) (b:Nat) (p q r:Option Addr) (n1 n2 n3 c1 c2 c3:Nat) (hr:rowAt h b=some [.slice p n1 c1, .slice q n2 c2, .slice r n3 c3]) (hn:n1<=100):
  CW CC 138 [.agg ⟨x.cells⟩, .pointer (some ⟨b,0,none⟩)] h fun v h'=>v= .bool (!(x.ok n1))/\ Fr h h':=by
 refine aw Tryz.f138 (by kernel_rfl) (by kernel_rfl) rfl rfl ?_
 simp only[Tryz.f138]
 obtain⟨r,h2,e2,rfl,fr2⟩:=Hu p q r n1 c1 n2 c2 n3 c3 x (h.alloc (.row x.cells 0 true)) (hk.alloc _) hn
 have k:aA x.cells 0 5=some x.cells:=rfl
 have hb:=af hk hr
 simp(maxDischargeDepth:=30)only[AA,↓reduceIte,Q1,Q2,Q3,Q4,reduceCtorEq,Q5,Q6,Q7,Dw,XF,hk,k,hb,hr,e2]
 exact⟨trivial,((Fr.refl hk).alloc _).trans fr2⟩
def Sheet.ok (s:Sheet):Bool:=cL s.offs.length 1 3&&(cL s.boards.length 1 4&&(cL s.tars.length 1 3&&(!(s.offs.any fun x=> !(cL x 0 100))&&(!(s.boards.any fun b=> !(b.ok s.offs.length))&& !(s.tars.any fun t=> !t.ok)))))
set_option maxRecDepth 10000 in
theorem MQ {h:Heap} (hk:HOK h) {a b c:Value} {s:Sheet} (hs:IsSheet h a b c s):
  CW CC 49 [.agg ⟨[a,b,c]⟩] h fun r h'=>r= .bool s.ok/\ Fr h h':=by
 obtain⟨p1,c1,rfl,_⟩:=hs.offs.open
 obtain⟨p2,c2,rfl,_⟩:=hs.boards.open
 obtain⟨p3,c3,rfl,_⟩:=hs.tars.open
 refine aw Tryz.f49 (by kernel_rfl) (by kernel_rfl) rfl rfl ?_
 simp only[Tryz.f49]
 cases i1:cL s.offs.length 1 3 with
 |false=>
  simp(maxDischargeDepth:=30)only[AA,↓reduceIte,Q1,Q2,Q3,Q4,reduceCtorEq,Q5,Q6,Q7,oA,hk,di,i1]
  exact⟨by simp[Sheet.ok,i1],(Fr.refl hk).alloc _⟩
 |true=>
 cases i2:cL s.boards.length 1 4 with
 |false=>
  simp(maxDischargeDepth:=30)only[AA,↓reduceIte,Q1,Q2,Q3,Q4,reduceCtorEq,Q5,Q6,Q7,oA,hk,di,i1,i2]
  exact⟨by simp[Sheet.ok,i1,i2],(Fr.refl hk).alloc _⟩
 |true=>
 cases i3:cL s.tars.length 1 3 with
 |false=>
  simp(maxDischargeDepth:=30)only[AA,↓reduceIte,Q1,Q2,Q3,Q4,reduceCtorEq,Q5,Q6,Q7,oA,hk,di,i1,i2,i3]
  exact⟨by simp[Sheet.ok,i1,i2,i3],(Fr.refl hk).alloc _⟩
 |true=>
 have j1:=of_decide_eq_true i1
 have j2:=of_decide_eq_true i2
 have j3:=of_decide_eq_true i3
 have f1:Fr h (h.alloc (.row [.slice p1 s.offs.length c1, .slice p2 s.boards.length c2, .slice p3 s.tars.length c3] 0 true)):=(Fr.refl hk).alloc _
 have r1:rowAt (h.alloc (.row [.slice p1 s.offs.length c1, .slice p2 s.boards.length c2, .slice p3 s.tars.length c3] 0 true)) h.next=some [.slice p1 s.offs.length c1, .slice p2 s.boards.length c2, .slice p3 s.tars.length c3]:=fW _ _ _ _
 obtain⟨_,h2,e2,rfl,fr2⟩:=fX f1.ok (v:= .slice p1 s.offs.length c1) (fv:= .func (.func 136) #[] #[]) (xs:=s.offs) (fun x=> !(cL x 0 100)) (hs.offs.fr hk f1) (by omega) (fun h1 f x _=>⟨h1,by rw[ju,Mn],Fr.refl f.ok⟩)
 have f2:=f1.trans fr2
 have r2:=fr2.row' f1.ok r1
 cases i4:(s.offs.any fun x=> !(cL x 0 100))with
 |true=>
  rw[i4]at e2
  simp(maxDischargeDepth:=30)only[AA,↓reduceIte,Q1,Q2,Q3,Q4,reduceCtorEq,Q5,Q6,Q7,oA,hk,di,i1,i2,i3,e2]
  exact⟨by simp[Sheet.ok,i4],f2⟩
 |false=>
 rw[i4]at e2
 obtain⟨_,h3,e3,rfl,fr3⟩:=zf f2.ok (v:= .slice p2 s.boards.length c2) (fv:= .func (.func 138) ⟨[]⟩ ⟨[.pointer (some ⟨h.next,0,none⟩)]⟩) (xs:=s.boards) (fun b=> !(b.ok s.offs.length)) (hs.boards.fr hk f2) (by omega) (fun h1 f x _=>by
  obtain⟨_,h2',e',rfl,fr'⟩:=Mm f.ok x h.next p1 p2 p3 _ _ _ c1 c2 c3 (f.row' f2.ok r2) (by omega)
  exact⟨h2',by rw[ff];exact e',fr'⟩)
 have f3:=f2.trans fr3
 have r3:=fr3.row' f2.ok r2
 cases i5:(s.boards.any fun b=> !(b.ok s.offs.length))with
 |true=>
  rw[i5]at e3
  simp(maxDischargeDepth:=30)only[AA,↓reduceIte,Q1,Q2,Q3,Q4,reduceCtorEq,Q5,Q6,Q7,oA,hk,di,i1,i2,i3,e2,r2,e3]
  exact⟨by simp[Sheet.ok,i5],f3⟩
 |false=>
 rw[i5]at e3
 obtain⟨_,h4,e4,rfl,fr4⟩:=CR f3.ok (v:= .slice p3 s.tars.length c3) (fv:= .func (.func 141) #[] #[]) (xs:=s.tars) (fun t=> !t.ok) (hs.tars.fr hk f3) (by omega) (fun h1 f x _=>by
  obtain⟨_,h2',e',rfl,fr'⟩:=Ml x h1 f.ok
  exact⟨h2',by rw[ju];exact e',fr'⟩)
 have f4:=f3.trans fr4
 simp(maxDischargeDepth:=30)only[AA,↓reduceIte,Q1,Q2,Q3,Q4,reduceCtorEq,Q5,Q6,Q7,oA,hk,di,i1,i2,i3,e2,r2,e3,r3,e4]
 exact⟨by simp[Sheet.ok,i1,i2,i3,i4,i5],f4⟩
set_option maxRecDepth 10000 in
theorem LD {h:Heap} (hk:HOK h) {a b c:Value} {s:Sheet} (hs:IsSheet h a b c s):CW CC 14 [.agg ⟨[a,b,c]⟩] h fun r h'=>r= .int .i64 (if s.ok=true then 0 else 2)/\ Fr h h':=by
 obtain⟨p1,c1,rfl,_⟩:=hs.offs.open
 obtain⟨p2,c2,rfl,_⟩:=hs.boards.open
 obtain⟨p3,c3,rfl,_⟩:=hs.tars.open
 refine aw Tryz.f14 (by kernel_rfl) (by kernel_rfl) rfl rfl ?_
 simp only[Tryz.f14]
 have f1:=aI [.row [.slice p1 s.offs.length c1, .slice p2 s.boards.length c2, .slice p3 s.tars.length c3] 0 true] (Fr.refl hk)
 simp(maxDischargeDepth:=30)only[AA,↓reduceIte,Q1,Q2,Q3,Q4,reduceCtorEq,Q5,Q6,Q7,XH,Dw,hk]
 refine aC (MQ f1.ok (hs.fr hk f1)) ?_
 rintro _ h2 ⟨rfl,f2⟩
 cases s.ok with
 |false=>
  simp(maxDischargeDepth:=30)only[AA,↓reduceIte,Q1,Q2,Q3,Q4,reduceCtorEq,Q5,Q6,Q7,XH,Dw,f2.ok]
  exact⟨trivial,f1.trans f2⟩
 |true=>
  simp(maxDischargeDepth:=30)only[AA,↓reduceIte,Q1,Q2,Q3,Q4,reduceCtorEq,Q5,Q6,Q7,XH,Dw,f2.ok]
  exact⟨trivial,f1.trans f2⟩
end Go.Am

namespace Go.Am
open Go Go.Proofs
def zU:=A2 @yc<|A2 @yb<|A2 @ya<|A2 @Ld<|A2 @PT<|A2 @PB<|A2 @PA @Pz
def dX:=A2 @pG<|A2 @vI<|A2 @sU<|A2 @vH<|A2 @sT<|A2 @pD<|A2 @zH<|A2 @zG<|A2 @vG<|A2 @cM<|A2 @mw<|A2 @lO<|A2 @kv<|A2 @qZ<|A2 @Hi<|A2 @Hh<|A2 @Dw<|A2 @cA @Br
theorem IsSuite.fr {P:Nat ->Prop} {h h':Heap} {u:SuiteV} {S:SuiteD} (q:IsSuite P h u S) (hk:HOK h) (f:Fr h h'):IsSuite P h' u S:=
 ⟨q.w.fr hk f,q.pr.fr hk f,q.wd.fr hk f fun _ _ e=>e.fr hk f,q.dry.fr hk f,q.wk.fr hk f,q.ct.fr hk f,q.sp.fr hk f fun _ _ e=>e.fr hk f,q.bo.fr hk f,q.st.fr hk f fun _ _ e=>e.fr hk f,q.ti.fr hk f,q.of.fr hk f,q.bd.fr hk f,q.tr.fr hk f⟩
theorem IsSuite.letV {P:Nat ->Prop} {h:Heap} {u:SuiteV} {S:SuiteD} (q:IsSuite P h u S):IsLet h ⟨u.w,u.pr,u.wd⟩ S.front:=by
 obtain⟨us,a,b⟩:=q.wd
 exact⟨q.w.1,q.pr.1,us,a.1,b.map fun _ _ e=>⟨e.signs.1,e.cuts.1,e.free⟩⟩
theorem IsSuite.coatV {P:Nat ->Prop} {h:Heap} {u:SuiteV} {S:SuiteD} (q:IsSuite P h u S):IsCoats h u.dry u.wk u.ct S.coats:=⟨q.dry.1,q.wk.1,q.ct.1⟩
theorem IsSuite.spotV {P:Nat ->Prop} {h:Heap} {u:SuiteV} {S:SuiteD} (q:IsSuite P h u S):IsSpots h u.sp S.board.spots:=by
 obtain⟨us,a,b⟩:=q.sp
 exact⟨us,a.1,b.map fun _ _ e=>⟨e.1.1,e.2⟩⟩
theorem IsSuite.benchV {P:Nat ->Prop} {h:Heap} {u:SuiteV} {S:SuiteD} (q:IsSuite P h u S):IsBenchV h u.bo u.st S.bench:=by
 obtain⟨us,a,b⟩:=q.st
 exact⟨q.bo.1,us,a.1,b.map fun _ _ e=>⟨e.board,e.round,e.lo,e.hi,e.needs.1⟩⟩
theorem IsSuite.sheetV {P:Nat ->Prop} {h:Heap} {u:SuiteV} {S:SuiteD} (q:IsSuite P h u S):IsSheet h u.of u.bd u.tr S.prices:=⟨q.of.1,q.bd.1,q.tr.1⟩
structure SuiteD.Low (S:SuiteD):Prop where
 sm:S.Small
 front:S.front.Small
 work:S.coats.work.length<=14
 spots:S.board.Small
 bench:S.bench.Small
def SuiteD.stockB (S:SuiteD):Bool:=((S.stock.length:Int)==S.tints.tins.length)&& !(S.stock.any fun n=> !cL n 0 40)
def SuiteD.okD (S:SuiteD):Bool:=S.bench.ok&&(S.tints.okB&&(S.stockB&&(S.prices.ok&&(((S.prices.boards.length:Int)==S.bench.boards.length)&&((S.front.setP.2.2==0)&&((S.coats.firstP.2==0)&&(S.board.firstP.2==0)))))))
set_option maxRecDepth 10000 in
set_option maxHeartbeats 4000000 in
theorem MO {h:Heap} (hk:HOK h) (hp:0<h.next) {P Q:Nat ->Prop} {u:SuiteV} {S:SuiteD} (q:IsSuite P h u S) (hs:LP Q h u.sk S.stock aQ 1) (sm:S.Low):
  CW CC 32 [.agg ⟨S.cells u⟩] h fun r h'=>r= .bool S.okD/\ Fr h h':=by
 obtain⟨p1,c1,e1⟩:=q.bo.1.len
 obtain⟨p2,c2,e2⟩:=q.bd.1.len
 refine aw Tryz.f32 (by kernel_rfl) (by kernel_rfl) rfl rfl ?_
 simp only[Tryz.f32]
 obtain⟨R,hR⟩: ∃R,R=S.cells u:=⟨_,rfl⟩
 have a1:aA R 15 3=some [.int .i64 S.bench.app,u.bo,u.st]:=by rw[hR];rfl
 have a2:aA R 18 13=some (S.tints.cells u.ti):=by rw[hR];rfl
 have a3:R[31]? =some u.sk:=by rw[hR];rfl
 have a4:aA R 32 3=some [u.of,u.bd,u.tr]:=by rw[hR];rfl
 have a5:R[33]? =some (.slice p2 S.prices.boards.length c2):=by rw[hR];exact congrArg some e2
 have a6:R[16]? =some (.slice p1 S.bench.boards.length c1):=by rw[hR];exact congrArg some e1
 have a7:aA R 0 10=some (S.front.cells ⟨u.w,u.pr,u.wd⟩):=by rw[hR];rfl
 have a8:aA R 10 3=some [u.dry,u.wk,u.ct]:=by rw[hR];rfl
 have a9:aA R 13 2=some [.int .i64 S.board.names,u.sp]:=by rw[hR];rfl
 have aT:aA R 0 35=some R:=by rw[hR];rfl
 have aL:R.length=35:=by rw[hR];rfl
 rw[<-hR]
 clear hR
 have f1:=aI [.row R 0 true] (Fr.refl hk)
 have r1:rowAt (h.ex [.row R 0 true]) h.next=some R:=aZ rfl
 have z0:((0:Int)==0)=true:=rfl
 have z2:((2:Int)==0)=false:=rfl
 simp(maxDischargeDepth:=30)only[AA,↓reduceIte,Q1,Q2,Q3,Q4,reduceCtorEq,Q5,Q6,Q7,XH,dX,hk,a1,aT,aL]
 generalize(h.ex [.row R 0 true])=h1 at f1 r1⊢
 unfold SuiteD.okD
 refine aC (Ib f1.ok (q.benchV.fr hk f1) sm.bench) ?_
 rintro _ h2 ⟨rfl,f2⟩
 have f02:=f1.trans f2
 have r2:=f2.row' f1.ok r1
 have n2:=f02.next
 cases o1:S.bench.ok with
 |false=>
  simp(maxDischargeDepth:=30)only[AA,↓reduceIte,Q1,Q2,Q3,Q4,reduceCtorEq,Q5,Q6,Q7,XH,dX,f2.ok,z2,aj,Bool.false_and]
  exact⟨trivial,f02⟩
 |true=>
 simp(maxDischargeDepth:=30)only[AA,↓reduceIte,Q1,Q2,Q3,Q4,reduceCtorEq,Q5,Q6,Q7,XH,dX,f2.ok,z0,r2,a2,Bool.true_and]
 refine aC (LC f2.ok (q.ti.1.fr hk f02) sm.sm.ti) ?_
 rintro _ h3 ⟨rfl,f3⟩
 have f03:=f02.trans f3
 have r3:=f3.row' f2.ok r2
 have n3:=f03.next
 cases o2:S.tints.okB with
 |false=>
  simp(maxDischargeDepth:=30)only[AA,↓reduceIte,Q1,Q2,Q3,Q4,reduceCtorEq,Q5,Q6,Q7,XH,dX,f3.ok,z0,z2,aj,Bool.false_and]
  exact⟨trivial,f03⟩
 |true=>
 simp(maxDischargeDepth:=30)only[AA,↓reduceIte,Q1,Q2,Q3,Q4,reduceCtorEq,Q5,Q6,Q7,XH,dX,f3.ok,z0,r3,a2,a3,Bool.true_and]
 refine aC (MP f3.ok (s:=S.tints) q.ti.1.len (hs.1.fr hk f03) sm.sm.sk) ?_
 rintro _ h4 ⟨rfl,f4⟩
 have f04:=f03.trans f4
 have r4:=f4.row' f3.ok r3
 have n4:=f04.next
 rw[show((((S.stock.length:Int)==S.tints.tins.length)&& !(S.stock.any fun n=> !cL n 0 40)))=S.stockB from rfl]
 cases o3:S.stockB with
 |false=>
  simp(maxDischargeDepth:=30)only[AA,↓reduceIte,Q1,Q2,Q3,Q4,reduceCtorEq,Q5,Q6,Q7,XH,dX,f4.ok,z0,z2,aj,Bool.false_and]
  exact⟨trivial,f04⟩
 |true=>
 simp(maxDischargeDepth:=30)only[AA,↓reduceIte,Q1,Q2,Q3,Q4,reduceCtorEq,Q5,Q6,Q7,XH,dX,f4.ok,z0,r4,a4,Bool.true_and]
 refine aC (LD f4.ok (q.sheetV.fr hk f04)) ?_
 rintro _ h5 ⟨rfl,f5⟩
 have f05:=f04.trans f5
 have r5:=f5.row' f4.ok r4
 have n5:=f05.next
 cases o4:S.prices.ok with
 |false=>
  simp(maxDischargeDepth:=30)only[AA,↓reduceIte,Q1,Q2,Q3,Q4,reduceCtorEq,Q5,Q6,Q7,XH,dX,f5.ok,z0,z2,aj,Bool.false_and]
  exact⟨trivial,f05⟩
 |true=>
 cases o5:((S.prices.boards.length:Int)==S.bench.boards.length)with
 |false=>
  simp(maxDischargeDepth:=30)only[AA,↓reduceIte,Q1,Q2,Q3,Q4,reduceCtorEq,Q5,Q6,Q7,XH,dX,f5.ok,z0,z2,r5,a5,a6,o5,aj,Bool.false_and,Bool.true_and]
  exact⟨trivial,f05⟩
 |true=>
 simp(maxDischargeDepth:=30)only[AA,↓reduceIte,Q1,Q2,Q3,Q4,reduceCtorEq,Q5,Q6,Q7,XH,dX,f5.ok,z0,r5,a5,a6,a7,o5,Bool.true_and]
 refine aC (YY f5.ok (by omega) (q.letV.fr hk f05) sm.front) ?_
 rintro _ h6 ⟨rfl,f6⟩
 have f06:=f05.trans f6
 have r6:=f6.row' f5.ok r5
 have n6:=f06.next
 cases o6:(S.front.setP.2.2==0)with
 |false=>
  simp(maxDischargeDepth:=30)only[AA,↓reduceIte,Q1,Q2,Q3,Q4,reduceCtorEq,Q5,Q6,Q7,XH,dX,f6.ok,z0,z2,aj,Bool.false_and]
  exact⟨trivial,f06⟩
 |true=>
 simp(maxDischargeDepth:=30)only[AA,↓reduceIte,Q1,Q2,Q3,Q4,reduceCtorEq,Q5,Q6,Q7,XH,dX,f6.ok,z0,r6,a8,Bool.true_and]
 refine aC (VZ f6.ok (by omega) (q.coatV.fr hk f06) sm.work) ?_
 rintro _ h7 ⟨rfl,f7⟩
 have f07:=f06.trans f7
 have r7:=f7.row' f6.ok r6
 have n7:=f07.next
 cases o7:(S.coats.firstP.2==0)with
 |false=>
  simp(maxDischargeDepth:=30)only[AA,↓reduceIte,Q1,Q2,Q3,Q4,reduceCtorEq,Q5,Q6,Q7,XH,dX,f7.ok,z0,z2,aj,Bool.false_and]
  exact⟨trivial,f07⟩
 |true=>
 simp(maxDischargeDepth:=30)only[AA,↓reduceIte,Q1,Q2,Q3,Q4,reduceCtorEq,Q5,Q6,Q7,XH,dX,f7.ok,z0,r7,a9,Bool.true_and]
 refine aC (TZ f7.ok (q.spotV.fr hk f07) sm.spots) ?_
 rintro _ h8 ⟨rfl,f8⟩
 simp(maxDischargeDepth:=30)only[AA,↓reduceIte,Q1,Q2,Q3,Q4,reduceCtorEq,Q5,Q6,Q7,XH,dX,f8.ok]
 exact⟨trivial,f07.trans f8⟩
def SuiteD.desk0 (S:SuiteD) (u:SuiteV):List Value:= .bool true::(S.cells u++[.slice none 0 0])
structure IsDesk0 (h:Heap) (d:Nat) (S:SuiteD) (u:SuiteV):Prop where
 row:h.get d=some (.row (S.desk0 u) 0 true)
 suite:IsSuite (fun _=>True) h u S
 sk:LP (fun _=>True) h u.sk S.stock aQ 1
theorem IsDesk0.fr {h h':Heap} {d:Nat} {S:SuiteD} {u:SuiteV} (q:IsDesk0 h d S u) (hk:HOK h) (f:Fr h h'):IsDesk0 h' d S u:=⟨f.get' hk q.row,q.suite.fr hk f,q.sk.fr hk f⟩
theorem IsSuite.mono {P P':Nat ->Prop} {h:Heap} {u:SuiteV} {S:SuiteD} (q:IsSuite P h u S) (hp: ∀b,P b ->P' b):IsSuite P' h u S:=
 ⟨q.w.mono hp,q.pr.mono hp,⟨_,(q.wd.choose_spec.1).mono hp,(q.wd.choose_spec.2).map fun _ _ e=>e.mono hp⟩,q.dry.mono hp,q.wk.mono hp,q.ct.mono hp,⟨_,(q.sp.choose_spec.1).mono hp,(q.sp.choose_spec.2).map fun _ _ e=>e.mono hp⟩,q.bo.mono hp,⟨_,(q.st.choose_spec.1).mono hp,(q.st.choose_spec.2).map fun _ _ e=>e.mono hp⟩,q.ti.mono hp,q.of.mono hp,q.bd.mono hp,q.tr.mono hp⟩
set_option maxRecDepth 10000 in
set_option maxHeartbeats 1000000 in
theorem Yi {h:Heap} (hk:HOK h) (hp:0<h.next) {P Q:Nat ->Prop} {u:SuiteV} {S:SuiteD} (q:IsSuite P h u S) (hs:LP Q h u.sk S.stock aQ 1) (sm:S.Low):
  CW CC 8 [.agg ⟨S.cells u⟩] h fun r h'=>(if S.okD=true then∃d u',r= .tuple ⟨[.pointer (some ⟨d,0,none⟩), .int .i64 0]⟩/\ IsDesk0 h' d S u' else r= .tuple ⟨[.pointer none, .int .i64 2]⟩)/\ Fr h h':=by
 refine aw Tryz.f8 (by kernel_rfl) (by kernel_rfl) rfl rfl ?_
 simp only[Tryz.f8]
 have f1:=aI [.row (S.cells u) 0 true] (Fr.refl hk)
 have g1:rowAt (h.ex [.row (S.cells u) 0 true]) h.next=some (S.cells u):=aZ rfl
 have so:bF (S.cells u)=true:=by
  obtain⟨_,_,d1⟩:=q.w.1.len
  obtain⟨_,_,d2⟩:=q.pr.1.len
  obtain⟨_,_,d3⟩:=q.wd.len
  obtain⟨_,_,d4⟩:=q.dry.1.len
  obtain⟨_,_,d5⟩:=q.wk.1.len
  obtain⟨_,_,d6⟩:=q.ct.1.len
  obtain⟨_,_,d7⟩:=q.sp.len
  obtain⟨_,_,d8⟩:=q.bo.1.len
  obtain⟨_,_,d9⟩:=q.st.len
  obtain⟨_,_,d10⟩:=q.ti.1.len
  obtain⟨_,_,d11⟩:=hs.1.len
  obtain⟨_,_,d12⟩:=q.of.1.len
  obtain⟨_,_,d13⟩:=q.bd.1.len
  obtain⟨_,_,d14⟩:=q.tr.1.len
  unfold SuiteD.cells
  rw[d1,d2,d3,d4,d5,d6,d7,d8,d9,d10,d11,d12,d13,d14];rfl
 simp(maxDischargeDepth:=30)only[AA,↓reduceIte,Q1,Q2,Q3,Q4,reduceCtorEq,Q5,Q6,Q7,XH,SC,zU,hk,so]
 refine aC (MO f1.ok (by have:=f1.next;omega) (q.fr hk f1) (hs.fr hk f1) sm) ?_
 rintro _ h2 ⟨rfl,f2⟩
 have f02:=f1.trans f2
 have n2:=f02.next
 have g2:=f2.row' f1.ok g1
 cases ok:S.okD with
 |false=>
  simp(maxDischargeDepth:=30)only[AA,↓reduceIte,Q1,Q2,Q3,Q4,reduceCtorEq,Q5,Q6,Q7,XH,SC,zU,f2.ok,g2]
  exact⟨by simp,f02⟩
 |true=>
 simp(maxDischargeDepth:=30)only[AA,↓reduceIte,Q1,Q2,Q3,Q4,reduceCtorEq,Q5,Q6,Q7,XH,SC,zU,f2.ok,g2]
 refine aC (XD f2.ok (by omega) (q.fr hk f02) (hs.fr hk f02) sm.sm) ?_
 rintro _ h3 ⟨⟨u',rfl,iu,sk⟩,f3⟩
 have f03:=f02.trans f3
 have n3:=f3.next
 have bd:cJ CC 110 [(0, .bool true),(1, .agg ⟨S.cells u'⟩)]=some (.agg ⟨S.desk0 u'⟩):=by kernel_rfl
 simp(maxDischargeDepth:=30)only[AA,↓reduceIte,Q1,Q2,Q3,Q4,reduceCtorEq,Q5,Q6,Q7,XH,SC,zU,f3.ok,bd]
 have f4:=aI [.row (S.desk0 u') 0 true] (Fr.refl f3.ok)
 have g4:(h3.ex [.row (S.desk0 u') 0 true]).get h3.next=some (.row (S.desk0 u') 0 true):=dG rfl
 exact⟨⟨h3.next,u',rfl,g4,(iu.fr f3.ok f4).mono fun _ _=>trivial,(sk.lp aP f3.ok fun _ _ _ _=>trivial).fr f3.ok f4⟩,f03.trans f4⟩
end Go.Am

namespace Go.Am
open Go Go.Proofs
def oG:=A2 @cG<|A2 @cA<|A2 @mi_9<|A2 @bJ<|A2 @aV<|A2 @ba<|A2 @X4<|A2 @bm<|A2 @KG<|A2 @UY<|A2 @und_9<|A2 @bh @XL
theorem T7 {C:Ctx} {rd:Option Nat} {ops:List Oper} {pl:List PE} {k:List Item} {rs:List Rec} {dst:Option Tmp} {s:FrS} {h:Heap} (ts:Array TypeId) (x y:Operand) (xs:List Operand):Iv C rd ops pl k rs (c9 C (bH C) rd dst s h (.call ⟨.builtin .copy,⟨x::y::xs⟩,ts⟩))=RPq C rd ops pl k rs dst s (rQ C ts.toList (ev s.tmps x) (ev s.tmps y) h):=by
 show Iv C rd ops pl k rs (ae (rQ C ts.toList (ev s.tmps x) (ev s.tmps y) h) (ofVal s dst))=_
 cases rQ C ts.toList (ev s.tmps x) (ev s.tmps y) h<;>rfl
theorem six {n:Nat} (h:n<=6):n=0 \/n=1 \/n=2 \/n=3 \/n=4 \/n=5 \/n=6:=by omega
theorem TW {n:Nat} (hn:n<=6) (c:Bool):eI CC .and 398 c (.int .u64 (n:Int)) (.int .u64 4294967295)=some (.int .u64 (n:Int)):=by
 rcases six hn with rfl|rfl|rfl|rfl|rfl|rfl|rfl<;>cases c<;>kernel_rfl
theorem PY {n:Nat} (hn:n<=6) (c:Bool):eI CC .shr 398 c (.int .u64 (n:Int)) (.int .u64 32)=some (.int .u64 0):=by
 rcases six hn with rfl|rfl|rfl|rfl|rfl|rfl|rfl<;>cases c<;>kernel_rfl
theorem and_o (c:Bool):eI CC .and 398 c (.int .u64 1) (.int .u64 4294967295)=some (.int .u64 1):=TW (n:=1) (by omega) c
theorem shr_o (c:Bool):eI CC .shr 398 c (.int .u64 1) (.int .u64 32)=some (.int .u64 0):=PY (n:=1) (by omega) c
theorem and_z (c:Bool):eI CC .and 398 c (.int .u64 0) (.int .u64 4294967295)=some (.int .u64 0):=TW (n:=0) (by omega) c
theorem shr_z (c:Bool):eI CC .shr 398 c (.int .u64 0) (.int .u64 32)=some (.int .u64 0):=PY (n:=0) (by omega) c
set_option maxRecDepth 10000 in
theorem Yl {n:Nat} (hn:n<=6) (h:Heap):cI CC (bH CC) 275 [.int .u64 1, .int .u64 (n:Int)] h=some (.ret (.tuple ⟨[.int .u64 0, .int .u64 (n:Int)]⟩) h none):=by
 refine CW.eq (aw Tryz.f275 (by kernel_rfl) (by kernel_rfl) rfl rfl ?_)
 simp only[Tryz.f275]
 have w0:IntKind.u64.wrap (1*(n:Int))=n:=by rcases six hn with rfl|rfl|rfl|rfl|rfl|rfl|rfl<;>rfl
 have w1:IntKind.u64.wrap (0*(n:Int))=0:=by rw[Int.zero_mul];rfl
 have w2:IntKind.u64.wrap (0+0)=0:=rfl
 have w3:IntKind.u64.wrap (1*0)=0:=rfl
 have w4:IntKind.u64.wrap (0*0)=0:=rfl
 simp(maxDischargeDepth:=30)only[AA,↓reduceIte,Q1,Q2,Q3,Q4,reduceCtorEq,Q5,Q6,Q7,fT,and_o,and_z,TW hn,shr_o,shr_z,PY hn,w0,w1,w2,w3,w4]
 all_goals exact⟨rfl,trivial⟩
theorem mul_n {n:Nat} (hn:n<=6) (h:Heap):cI CC (bH CC) 237 [.int .u64 1, .int .u64 (n:Int)] h=some (.ret (.tuple ⟨[.int .u64 0, .int .u64 (n:Int)]⟩) h none):=by
 refine CW.eq (aw Tryz.f237 (by kernel_rfl) (by kernel_rfl) rfl rfl ?_)
 simp only[Tryz.f237]
 simp(maxDischargeDepth:=30)only[AA,↓reduceIte,Q1,Q2,Q3,Q4,reduceCtorEq,Q5,Q6,Q7,Yl hn]
 all_goals exact⟨rfl,trivial⟩
def qy (n k:Nat) (x:Int):List Int:=List.replicate k x++List.replicate (n -k) 0
theorem EL (l:List Int):l.flatMap aQ=l.map fun x=> .int .i64 x:=by
 induction l with
 |nil=>rfl
 |cons a l ih=>rw[List.flatMap_cons,ih];rfl
theorem EO (n k:Nat) (x:Int):(qy n k x).flatMap aQ=List.replicate k (.int .i64 x)++List.replicate (n -k) (.int .i64 0):=by
 rw[EL];simp[qy]
theorem QE (m:Nat) (x:Int):bF (List.replicate m (.int .i64 x))=true:=by
 induction m with
 |zero=>rfl
 |succ m ih=>rw[List.replicate_succ,da,ih];rfl
theorem Oz {l vs:List Value} {o:Nat} (h:o+vs.length<=l.length) (hv:vs≠[]):fm l o vs=some (l.take o++(vs++l.drop (o+vs.length))):=by
 match vs,hv with
 |[v],_=>
  have h:o<l.length:=h
  rw[mS _ _ _ h,List.set_eq_take_append_cons_drop,if_pos h];rfl
 |v::v'::vs,_=>
  unfold fm
  simp only[Nat.ble_eq_true_of_le h]
theorem Nt {h:Heap} {q n k c c':Nat} {sp sp':Option Nat} {x:Int} (g:h.get q=some (.row ((qy n k x).flatMap aQ) 1 true)) (k0:0<k) (hk:k<n):
  rQ CC [22,22] (.slice (some ⟨q,k,sp⟩) (n -k) c) (.slice (some ⟨q,0,sp'⟩) k c') h=some (.int .i64 (Nat.min k (n -k):Nat),h.set q (.row ((qy n (k+Nat.min k (n -k)) x).flatMap aQ) 1 true)):=by
 obtain⟨m,hm⟩: ∃m,Nat.min k (n -k)=m+1:=⟨Nat.min k (n -k) -1,by have:0<Nat.min k (n -k):=Nat.lt_min.2 ⟨k0,by omega⟩;omega⟩
 have m1:m+1<=k:=by rw[<-hm];exact Nat.min_le_left _ _
 have m2:m+1<=n -k:=by rw[<-hm];exact Nat.min_le_right _ _
 rw[EO]at g
 have e:bf h 1 (m+1) (.slice (some ⟨q,0,sp'⟩) k c')=some (List.replicate (m+1) (.int .i64 x)):=by
  show ae (rowAt h q) _=_
  unfold rowAt
  rw[g]
  show aA _ 0 _=_
  rw[eP (by simp;omega),List.drop_zero,Nat.mul_one,List.take_append_of_le_length (by simpa using m1),List.take_replicate,Nat.min_eq_left m1]
 unfold rQ
 simp only[bm,au,dy,ba,jQ,show i8 (.slice (some ⟨q,0,sp'⟩) k c')=some k from rfl,hm,e]
 rw[List.replicate_succ]
 simp only[yh]
 rw[<-List.replicate_succ,QE,EO]
 simp only[au,aK,g,fO]
 rw[Oz (by simp;omega) (by simp[List.replicate_succ])]
 simp only[au,List.length_replicate]
 congr 4
 rw[List.take_append_of_le_length (by simp),List.take_replicate,Nat.min_self,List.drop_append,List.length_replicate,List.drop_eq_nil_of_le (by simp),List.nil_append,List.drop_replicate,<-List.append_assoc,List.replicate_append_replicate,show n -k -(k+(m+1) -k)=n -(k+(m+1))by omega]
theorem Zg {q n k:Nat} (hk:k<=n):jb CC 22 (.slice (some ⟨q+1,0,some 1⟩) n n) (some (.int .i64 (k:Int))) none none=some (.slice (some ⟨q+1,k,some 1⟩) (n -k) (n -k)):=by
 rw[jK bm ba]
 unfold kG
 rw[Nat.ble_eq_true_of_le (Nat.le_refl n),aK]
 simp only[jJ,ot,nM,Nat.ble_eq_true_of_le (Nat.zero_le k),Nat.ble_eq_true_of_le hk,Bool.and_self,aK,au,ib,Nat.zero_add,Nat.mul_one]
 rfl
theorem Zf {q n k:Nat} (hk:k<=n):jb CC 22 (.slice (some ⟨q+1,0,some 1⟩) n n) none (some (.int .i64 (k:Int))) none=some (.slice (some ⟨q+1,0,some 1⟩) k n):=by
 rw[jK bm ba]
 unfold kG
 rw[Nat.ble_eq_true_of_le (Nat.le_refl n),aK]
 simp only[jJ,ot,nM,Nat.ble_eq_true_of_le (Nat.zero_le k),Nat.ble_eq_true_of_le hk,Bool.and_self,aK,au,ib,Nat.zero_mul,Nat.zero_add,Nat.sub_zero]
 rfl
theorem mk_6 {n:Nat} (hn:n<=6):lX CC 22 (.int .i64 n) (.int .i64 n)=some (.new (.row ((List.replicate n (0:Int)).flatMap aQ) 1 true) (aG 1 n n)):=by
 rcases six hn with rfl|rfl|rfl|rfl|rfl|rfl|rfl<;>kernel_rfl
theorem cvt_o (h:Heap):ka CC 3 345 (.int .i64 ((1:Nat):Int)) h=some (.val (.int .u64 1)):=by kernel_rfl
theorem cvt_n {n:Nat} (hn:n<=6) (h:Heap):ka CC 3 345 (.int .i64 (n:Int)) h=some (.val (.int .u64 (n:Int))):=by
 rcases six hn with rfl|rfl|rfl|rfl|rfl|rfl|rfl<;>kernel_rfl
theorem cvu_n {n:Nat} (hn:n<=6) (h:Heap):ka CC 345 3 (.int .u64 (n:Int)) h=some (.val (.int .i64 (n:Int))):=by
 rcases six hn with rfl|rfl|rfl|rfl|rfl|rfl|rfl<;>kernel_rfl
set_option maxRecDepth 10000 in
set_option maxHeartbeats 1000000 in
theorem GO {h:Heap} (hk:HOK h) (hp:0<h.next) {b n:Nat} {sp:Option Nat} {x:Int} (g:rowAt h b=some [.int .i64 x]) (n0:0<n) (hn:n<=6):
  CW CC 156 [.slice (some ⟨b,0,sp⟩) 1 1, .int .i64 (n:Int)] h fun r h'=>SL h.next h' r ((List.replicate n x).flatMap aQ) 1 n/\ Fr h h':=by
 refine aw Tryz.f156 (by kernel_rfl) (by kernel_rfl) rfl rfl ?_
 simp only[Tryz.f156]
 have d0:decide ((n:Int)<0)=false:=by simp
 have d1:decide ((0:Int)>0)=false:=rfl
 have d2:decide ((n:Int)>9223372036854775807)=false:=by simp;omega
 have bl:=af hk g
 obtain⟨X,hX⟩: ∃X,X=(List.replicate n (0:Int)).flatMap aQ:=⟨_,rfl⟩
 have fH:Fr h (h.ex [.row X 1 true]):=aI _ (Fr.refl hk)
 have gH:(h.ex [.row X 1 true]).get h.next=some (.row X 1 true):=dG rfl
 have nH:(h.ex [.row X 1 true]).next=h.next+1:=by rw[bc];rfl
 simp(maxDischargeDepth:=30)only[AA,↓reduceIte,Q1,Q2,Q3,Q4,reduceCtorEq,Q5,Q6,Q7,XH,oG,hk,d0,mul_n hn,cvt_o,cvt_n hn,cvu_n hn,d1,d2,mk_6 hn]
 rw[<-hX]
 generalize(h.ex [.row X 1 true])=H at fH gH nH⊢
 obtain⟨q,hq⟩: ∃q,h.next=q+1:=⟨h.next -1,by omega⟩
 rw[hq]at gH nH bl⊢
 have rb:rowAt H b=some [.int .i64 x]:=fH.row' hk g
 have cp:rQ CC [22,22] (.slice (some ⟨q+1,0,some 1⟩) n n) (.slice (some ⟨b,0,sp⟩) 1 1) H=some (.int .i64 ((1:Nat):Int),H.set (q+1) (.row ((qy n 1 x).flatMap aQ) 1 true)):=by
  obtain⟨m,rfl⟩: ∃m,n=m+1:=⟨n -1,by omega⟩
  have e:bf H 1 1 (.slice (some ⟨b,0,sp⟩) 1 1)=some [.int .i64 x]:=by
   show ae (rowAt H b) _=_
   rw[rb];rfl
  have em:Nat.min 1 (m+1)=1:=Nat.min_eq_left (by omega)
  unfold rQ
  simp only[bm,au,dy,ba,jQ,show i8 (.slice (some ⟨b,0,sp⟩) 1 1)=some 1 from rfl,em,e,yh,show bF [Value.int .i64 x]=true from rfl,aK,gH,fO]
  rw[mS _ _ _ (by rw[hX,EL];simp),hX,EL,EO]
  simp[List.replicate_succ]
 have f1:Fr h (H.set (q+1) (.row ((qy n 1 x).flatMap aQ) 1 true)):=fH.set (by omega) (by omega) _
 have g1:(H.set (q+1) (.row ((qy n 1 x).flatMap aQ) 1 true)).get (q+1)=some (.row ((qy n 1 x).flatMap aQ) 1 true):=Heap.get_set_self _ _ _
 have n1:(H.set (q+1) (.row ((qy n 1 x).flatMap aQ) 1 true)).next=q+2:=by rw[Heap.next_set];omega
 simp(maxDischargeDepth:=30)only[AA,↓reduceIte,Q1,Q2,Q3,Q4,reduceCtorEq,Q5,Q6,Q7,XH,oG,aG,fH.ok,cp]
 generalize(H.set (q+1) (.row ((qy n 1 x).flatMap aQ) 1 true))=H1 at f1 g1 n1⊢
 refine eT (n -1) (fun m f h'=> ∃k,0<k/\ k<=n/\ m=n -k/\ f 7= .slice (some ⟨q+1,0,some 1⟩) n n/\ f 8= .int .i64 (k:Int)/\ h'.get (q+1)=some (.row ((qy n k x).flatMap aQ) 1 true)/\ Fr h h')
  ⟨1,by omega,by omega,rfl,by simp[aa],by simp[aa],g1,f1⟩ ?_
 rintro m f h2 ⟨k,k0,kn,rfl,t7,t8,g2,f2⟩ ih
 by_cases hkn:k<n
 ·have tE:decide ((k:Int)<(n:Int))=true:=by simpa using hkn
  have hw:IntKind.i64.wrap ((k:Int)+(Nat.min k (n -k):Nat))=((k+Nat.min k (n -k):Nat):Int):=by
   have:Nat.min k (n -k)<=n -k:=Nat.min_le_right _ _
   rw[bG (by omega) (by omega)];omega
  simp(maxDischargeDepth:=30)only[AA,↓reduceIte,Q1,Q2,Q3,Q4,reduceCtorEq,Q5,Q6,Q7,XH,oG,f2.ok,t7,t8,tE]
  refine bR [(true,0),(true,1),(true,2),(true,3),(true,4),(true,5),(true,6),(true,7),(true,8),(true,9)] (by kernel_rfl) ?_
  have lt:=aF f2.ok g2
  simp(maxDischargeDepth:=30)only[AA,↓reduceIte,Q1,Q2,Q3,Q4,reduceCtorEq,Q5,Q6,Q7,dk,XH,oG,f2.ok,t7,t8,Option.map_some,Option.map_none,Zg kn,Zf kn,T7,Nt g2 k0 hkn,hw]
  have:0<Nat.min k (n -k):=Nat.lt_min.2 ⟨k0,by omega⟩
  have:Nat.min k (n -k)<=n -k:=Nat.min_le_right _ _
  refine ih (n -(k+Nat.min k (n -k))) _ _ (by omega) ?_
  exact⟨k+Nat.min k (n -k),by omega,by omega,rfl,by simp[aa,t7],by simp[aa],Heap.get_set_self _ _ _,f2.set (by omega) lt _⟩
 ·have e:k=n:=by omega
  subst e
  have tE:decide ((k:Int)<(k:Int))=false:=by simp
  simp(maxDischargeDepth:=30)only[AA,↓reduceIte,Q1,Q2,Q3,Q4,reduceCtorEq,Q5,Q6,Q7,XH,oG,f2.ok,t7,t8,tE]
  refine⟨.inr ⟨q+1,rfl,by omega,by omega,?_,?_⟩,f2⟩
  ·rw[g2];simp[qy]
  ·rw[EL];simp
end Go.Am
