/- Parts V68, V69, V73 of the abstract machine over this program, joined: what each part says stands at its head. -/
import Derived.Test.YtlflfbnnjlkkcaaGreatJV65
set_option linter.unusedSimpArgs false
set_option linter.unusedVariables false
set_option linter.defProp false
open Nat renaming reduceLT→Q1,reduceEqDiff→Q2,reduceAdd→Q3,reduceMul→Q4,reduceLeDiff→Q5
open Int renaming reduceNe→Q6,reduceEq→Q7
namespace Go.Am
open Go Go.Proofs
def wi:=A2 @WK<|A2 @LJ<|A2 @WJ<|A2 @DK<|A2 @DJ<|A2 @xC<|A2 @BT<|A2 @Sa<|A2 @R5<|A2 @RZ<|A2 @kR<|A2 @Rz<|A2 @Ry<|A2 @vB<|A2 @YG<|A2 @q8<|A2 @YC<|A2 @YB<|A2 @cS<|A2 @vA<|A2 @Hf<|A2 @Qx<|A2 @kM<|A2 @Gz<|A2 @Gs<|A2 @lG<|A2 @PL<|A2 @PJ<|A2 @kI<|A2 @gq<|A2 @O9<|A2 @O8<|A2 @O7<|A2 @zo<|A2 @oL<|A2 @jC<|A2 @Oo<|A2 @On<|A2 @FQ<|A2 @FI<|A2 @FH<|A2 @FG @ky
def oF:=A2 @eF<|A2 @BT<|A2 @kR<|A2 @vE<|A2 @cG<|A2 @vB<|A2 @q8<|A2 @cM<|A2 @cS<|A2 @vA<|A2 @cA<|A2 @bJ<|A2 @kM<|A2 @aV<|A2 @ba<|A2 @kI<|A2 @gq<|A2 @bm<|A2 @jC<|A2 @bh @ky
def uD (B:Bench) (plan:List Int) (p:Nat×Nat):Value:= .int .i64 (fR B plan p.1 p.2)
def EndOK (B:Bench) (plan:List Int) (m wh i:Nat):Prop:= ∀{h:Heap} (_:HOK h) (_:0<h.next) {bo st pv:Value} (_:IsWork h bo st pv B plan) (_:HasK eh (uD B plan) h m),
 CW CC 72 [.agg ⟨qF B bo st pv m⟩, .int .i64 (i:Int), .int .i64 (wh:Int)] h fun x h'=>x= .int .i64 (fR B plan i wh)/\ FrK eh (uD B plan) m h h'
def oh (B:Bench) (plan:List Int) (n wh:Nat):Int:=match dS plan n with|some i=>fR B plan i wh|none=>0
theorem SL.frK {α:Type} {K V:α ->Value} {m N n s:Nat} {h h':Heap} {v:Value} {l:List Value} (q:SL N h v l s n) (hk:HOK h) (hm:HasK K V h m) (f:FrK K V m h h'):SL N h' v l s n:=by
 obtain⟨es,c,em,_⟩:=hm
 exact q.keep fun b hb=>f.get b (q.blk_lt hk hb).2 (by rintro rfl;exact q.other em (by simp) hb)
theorem G6 {B:Bench} (ok:B.ok=true) {n:Nat} {w:BStroke} (hw:B.strokes[n]? =some w):w.needs.length<=n:=by
 unfold Bench.ok at ok
 simp only[Bool.and_eq_true]at ok
 have h4:=ok.2.2.2.1
 rw[List.all_eq_true]at h4
 have:=h4 n (List.mem_range.2 (List.getElem?_eq_some_iff.1 hw).1)
 unfold Bench.strokeB at this
 rw[hw]at this
 simp only[Bool.and_eq_true]at this
 have b1:=this.1
 unfold ui at b1
 rw[List.all_eq_true]at b1
 have key: ∀i,i<w.needs.length ->(i:Int)<=w.needs.getD i 0/\ w.needs.getD i 0<=(n:Int) -1:=by
  intro i
  induction i with
  |zero=>
   intro hi
   have:=b1 0 (List.mem_range.2 hi)
   unfold lN at this
   simp only[Bool.and_eq_true]at this
   have:=of_decide_eq_true this.1
   omega
  |succ i ih=>
   intro hi
   have a:=ih (by omega)
   have:=b1 (i+1) (List.mem_range.2 hi)
   unfold lN at this
   simp only[Bool.and_eq_true,Bool.or_eq_true]at this
   have b:=of_decide_eq_true this.1
   have c:w.needs.getD i 0<w.needs.getD (i+1) 0:=by
    rcases this.2 with c|c
    ·simp at c
    ·have:=of_decide_eq_true c;simpa using this
   omega
 by_cases h0:w.needs.length=0
 ·omega
 ·have:=key (w.needs.length -1) (by omega)
  omega
theorem Tj (a:Int) (r:Bool) (lo hi:Int) (p:Option Addr) (l c:Nat) (h:Heap) (hk:HOK h):CW CC 160 [.agg ⟨[.int .i64 a, .bool r, .int .i64 lo, .int .i64 hi, .slice p l c]⟩] h fun x h'=>x= .int .i64 lo/\ Fr h h':=by
 refine aw Tryz.f160 (by kernel_rfl) (by kernel_rfl) rfl rfl ?_
 simp only[Tryz.f160]
 simp(maxDischargeDepth:=30)only[AA,↓reduceIte,Q1,Q2,Q3,Q4,reduceCtorEq,Q5,Q6,Q7,XH,iR,HK,EH,cS,hk]
 exact⟨trivial,aI _ (Fr.refl hk)⟩
theorem Ym (a:Int) (r:Bool) (lo hi:Int) (p:Option Addr) (l c:Nat) (h:Heap) (hk:HOK h):CW CC 161 [.agg ⟨[.int .i64 a, .bool r, .int .i64 lo, .int .i64 hi, .slice p l c]⟩] h fun x h'=>x= .int .i64 hi/\ Fr h h':=by
 refine aw Tryz.f161 (by kernel_rfl) (by kernel_rfl) rfl rfl ?_
 simp only[Tryz.f161]
 simp(maxDischargeDepth:=30)only[AA,↓reduceIte,Q1,Q2,Q3,Q4,reduceCtorEq,Q5,Q6,Q7,XH,iQ,HK,EH,cS,hk]
 exact⟨trivial,aI _ (Fr.refl hk)⟩
set_option maxRecDepth 10000 in
theorem YX {B:Bench} {plan:List Int} {m wh n:Nat} (hE: ∀i,i<n ->EndOK B plan m wh i) (hn:n<plan.length) (h6:plan.length<=1000) {h:Heap} (hk:HOK h) (hp:0<h.next) {bo st pv:Value} (q:IsWork h bo st pv B plan) (hm:HasK eh (uD B plan) h m):
  CW CC 243 [.agg ⟨qF B bo st pv m⟩, .int .i64 (n:Int), .int .i64 (wh:Int)] h fun x h'=>x= .int .i64 (oh B plan n wh)/\ FrK eh (uD B plan) m h h':=by
 have q0:=q
 obtain⟨pb,cb,rfl⟩:=q.b.bo.len
 obtain⟨ps,cs,rfl⟩:=q.b.len
 obtain⟨pp,cp,rfl⟩:=q.p.len
 refine aw Tryz.f243 (by kernel_rfl) (by kernel_rfl) rfl rfl ?_
 simp only[Tryz.f243,qF]
 have f1:=aI [.row [.int .i64 B.app, .slice pb B.boards.length cb, .slice ps B.strokes.length cs, .slice pp plan.length cp, .map (some m), .int .i64 (-1), .int .i64 0] 0 true] (Fr.refl hk)
 have r1:rowAt (h.ex [.row [.int .i64 B.app, .slice pb B.boards.length cb, .slice ps B.strokes.length cs, .slice pp plan.length cp, .map (some m), .int .i64 (-1), .int .i64 0] 0 true]) h.next=some [.int .i64 B.app, .slice pb B.boards.length cb, .slice ps B.strokes.length cs, .slice pp plan.length cp, .map (some m), .int .i64 (-1), .int .i64 0]:=aZ rfl
 simp(maxDischargeDepth:=30)only[AA,↓reduceIte,Q1,Q2,Q3,Q4,reduceCtorEq,Q5,Q6,Q7,XH,q8,hk]
 generalize(h.ex [.row [.int .i64 B.app, .slice pb B.boards.length cb, .slice ps B.strokes.length cs, .slice pp plan.length cp, .map (some m), .int .i64 (-1), .int .i64 0] 0 true])=H at f1 r1⊢
 refine aC (TK f1.ok (q0.fr hk f1) hn h6) ?_
 rintro _ h2 ⟨rfl,f2⟩
 have f02:=f1.trans f2
 have r2:=f2.row' f1.ok r1
 have n2:=f02.next
 unfold oh
 cases hb:dS plan n with
 |none=>
  simp(maxDischargeDepth:=30)only[AA,↓reduceIte,Q1,Q2,Q3,Q4,reduceCtorEq,Q5,Q6,Q7,XH,q8,f2.ok,Option.isSome_none]
  exact⟨trivial,f02.frK hk hm⟩
 |some i=>
  have il:=vX hb
  simp(maxDischargeDepth:=30)only[AA,↓reduceIte,Q1,Q2,Q3,Q4,reduceCtorEq,Q5,Q6,Q7,XH,q8,f2.ok,r2,Option.isSome_some]
  refine aC (hE i il f2.ok (by omega) (q0.fr hk f02) (hm.fr hk f02)) ?_
  rintro _ h3 ⟨rfl,f3⟩
  simp(maxDischargeDepth:=30)only[AA,↓reduceIte,Q1,Q2,Q3,Q4,reduceCtorEq,Q5,Q6,Q7,XH,q8,f3.ok]
  exact⟨trivial,(f02.frK hk hm).trans f3⟩
set_option maxRecDepth 10000 in
set_option maxHeartbeats 1000000 in
theorem WV {B:Bench} (ok:B.ok=true) {plan:List Int} {m wh n:Nat} (hE: ∀i,i<n ->EndOK B plan m wh i) (hn:n<plan.length) (hl:plan.length=B.strokes.length) {h:Heap} (hk:HOK h) (hp:0<h.next) {bo st pv:Value} (q:IsWork h bo st pv B plan) (hm:HasK eh (uD B plan) h m):
  CW CC 162 [.agg ⟨qF B bo st pv m⟩, .int .i64 (n:Int), .int .i64 (wh:Int)] h fun x h'=>x= .int .i64 (j7 (oh B plan n wh::(fy B n).map fun i=>fR B plan i.toNat wh))/\ FrK eh (uD B plan) m h h':=by
 have q0:=q
 have B6:=(Bench.ok_at ok).2.1
 obtain⟨w,hw⟩: ∃w,B.strokes[n]? =some w:=⟨_,List.getElem?_eq_getElem (by omega)⟩
 have hnd:=((Bench.ok_at ok).2.2 n w hw).1
 obtain⟨b,o,sp,c,row,nv,rfl,hr,hi5,ln,⟨pn,cn,rfl⟩,ct,c0,c1,c2,c3,c4⟩:=q.b.at hw
 obtain⟨pb,cb,rfl⟩:=q.b.bo.len
 obtain⟨pp,cp,rfl⟩:=q.p.len
 have ml:=hm.lt hk
 refine aw Tryz.f162 (by kernel_rfl) (by kernel_rfl) rfl rfl ?_
 simp only[Tryz.f162,qF]
 have f1:=aI [.row [.int .i64 B.app, .slice pb B.boards.length cb, .slice (some ⟨b,o,sp⟩) B.strokes.length c, .slice pp plan.length cp, .map (some m), .int .i64 (-1), .int .i64 0] 0 true] (Fr.refl hk)
 have g1:(h.ex [.row [.int .i64 B.app, .slice pb B.boards.length cb, .slice (some ⟨b,o,sp⟩) B.strokes.length c, .slice pp plan.length cp, .map (some m), .int .i64 (-1), .int .i64 0] 0 true]).get h.next=some (.row [.int .i64 B.app, .slice pb B.boards.length cb, .slice (some ⟨b,o,sp⟩) B.strokes.length c, .slice pp plan.length cp, .map (some m), .int .i64 (-1), .int .i64 0] 0 true):=dG rfl
 have r1:rowAt (h.ex [.row [.int .i64 B.app, .slice pb B.boards.length cb, .slice (some ⟨b,o,sp⟩) B.strokes.length c, .slice pp plan.length cp, .map (some m), .int .i64 (-1), .int .i64 0] 0 true]) h.next=some [.int .i64 B.app, .slice pb B.boards.length cb, .slice (some ⟨b,o,sp⟩) B.strokes.length c, .slice pp plan.length cp, .map (some m), .int .i64 (-1), .int .i64 0]:=aZ rfl
 have nx:(h.ex [.row [.int .i64 B.app, .slice pb B.boards.length cb, .slice (some ⟨b,o,sp⟩) B.strokes.length c, .slice pp plan.length cp, .map (some m), .int .i64 (-1), .int .i64 0] 0 true]).next=h.next+1:=by rw[bc];rfl
 simp(maxDischargeDepth:=30)only[AA,↓reduceIte,Q1,Q2,Q3,Q4,reduceCtorEq,Q5,Q6,Q7,XH,oF,hk]
 generalize(h.ex [.row [.int .i64 B.app, .slice pb B.boards.length cb, .slice (some ⟨b,o,sp⟩) B.strokes.length c, .slice pp plan.length cp, .map (some m), .int .i64 (-1), .int .i64 0] 0 true])=H at f1 g1 r1 nx⊢
 have hmH:=hm.fr hk f1
 refine aC (YX hE hn (by omega) f1.ok (by omega) (q0.fr hk f1) hmH) ?_
 rintro _ h2 ⟨rfl,f2⟩
 have rk2:=f2.rk f1.ok hmH
 have r2:=rk2.rowAt r1
 have n2:=f2.next
 have f3:=aI [.row [.int .i64 (oh B plan n wh)] 1 true] (Fr.refl f2.ok)
 have s3:SL H.next (h2.ex [.row [.int .i64 (oh B plan n wh)] 1 true]) (.slice (some ⟨h2.next,0,some 1⟩) 1 1) ([oh B plan n wh].flatMap aQ) 1 1:=by
  have:=SL.new (h:=h2) n2 (by omega) ([oh B plan n wh].flatMap aQ) 1 1 rfl
  exact this
 have rb2:=rk2.rowAt (f1.row' hk hr)
 have rb3:=f3.row' f2.ok rb2
 have r3:=f3.row' f2.ok r2
 simp(maxDischargeDepth:=30)only[AA,↓reduceIte,Q1,Q2,Q3,Q4,reduceCtorEq,Q5,Q6,Q7,XH,oF,f2.ok,eF (dE _ _),aG]
 generalize(h2.ex [.row [.int .i64 (oh B plan n wh)] 1 true])=h3 at f3 s3 rb3 r3⊢
 have n3:=f3.next
 have nb3:=af f3.ok rb3
 have m1:=af f3.ok r3
 simp(maxDischargeDepth:=30)only[AA,↓reduceIte,Q1,Q2,Q3,Q4,reduceCtorEq,Q5,Q6,Q7,XH,oF,f3.ok,r3,m1,hi5,rb3,nb3,c4]
 have eN:fy B n=w.needs:=by unfold fy;rw[hw]
 rw[eN]
 have lnH:=ln.fr hk f1
 obtain⟨_,_,e0,hx⟩:=lnH.open
 simp only[Value.slice.injEq]at e0
 obtain⟨rfl,_,rfl⟩:=e0
 have f23K:=f2.trans (f3.frK f2.ok f2.map)
 have s3':SL H.next h3 (.slice (some ⟨h2.next,0,some 1⟩) 1 1) ((oh B plan n wh::(w.needs.take 0).map fun i=>fR B plan i.toNat wh).flatMap aQ) 1 (0+1):=s3
 have nl6:w.needs.length<=1000:=by
  have:=G6 ok hw;omega
 refine dN [7,9,23,24,25,26,27,28,29,30,31,32,33,34] 23 w.needs.length (fun i g h'=> ∃vo,g 7=vo/\ SL H.next h' vo ((oh B plan n wh::(w.needs.take i).map fun i=>fR B plan i.toNat wh).flatMap aQ) 1 (i+1)/\ FrK eh (uD B plan) m H h') (by simp only[aa,↓reduceIte]) ⟨_,by simp only[aa,Nat.reduceEqDiff,↓reduceIte],s3',f23K⟩ ?_ ?_
 ·rintro i g h4 hi ag g23 ⟨vo,g7,so,f4⟩ ih
  obtain⟨x,gx⟩: ∃x,w.needs[i]? =some x:=⟨_,List.getElem?_eq_getElem hi⟩
  have hxn:=hnd x (List.mem_of_getElem? gx)
  obtain⟨X,rfl⟩: ∃X:Nat,x=X:=⟨x.toNat,by omega⟩
  rcases hx with hx|⟨b2,o2,sp2,row2,rfl,hr2,hx⟩
  ·rw[hx]at hi;simp at hi
  have cx:row2[o2+i]? =some (.int .i64 (X:Int)):=by simpa[aQ]using(hx _ _ gx).2 0 (by omega)
  have rk4:=f4.rk f1.ok hmH
  have hr4:=rk4.rowAt hr2
  have r4:=rk4.rowAt r1
  have n4:=f4.next
  simp(maxDischargeDepth:=30)only[AA,↓reduceIte,Q1,Q2,Q3,Q4,reduceCtorEq,Q5,Q6,Q7,XH,oF,ag.r,NE,g23,g7,f4.ok,cX hi,hi,hr4,cx,Nat.mul_one,r4]
  refine aC (hE X (by omega) f4.ok (by omega) ((q0.fr hk f1).rk rk4) f4.map) ?_
  rintro _ h5 ⟨rfl,f5⟩
  have n5:=f5.next
  have so5:=so.frK f4.ok f4.map f5
  have f6:=aI [.row [.int .i64 (fR B plan X wh)] 1 true] (Fr.refl f5.ok)
  have n6:(h5.ex [.row [.int .i64 (fR B plan X wh)] 1 true]).next=h5.next+1:=by rw[bc];rfl
  obtain⟨h7,e7,q7,k7,n7,g7'⟩:=dI (ts:=[]) kr (N:=H.next) f6.ok (by omega) (by omega) (so5.fr f5.ok f6) (x:= .slice (some ⟨h5.next,0,some 1⟩) 1 1) (m:=0) (new:=[.int .i64 (fR B plan X wh)]) rfl (by
   show ae (rowAt _ h5.next) (fun cells=>aA cells 0 ((0+1)*1))=_
   rw[aZ rfl];rfl) rfl rfl (by omega)
  rw[n6]at e7 q7 n7 g7'
  simp only[XH,aG,Nat.zero_add]at e7 q7
  simp(maxDischargeDepth:=30)only[AA,↓reduceIte,Q1,Q2,Q3,Q4,reduceCtorEq,Q5,Q6,Q7,XH,oF,ag.r,NE,g23,f5.ok,eF (dE _ _),aG,e7,k7,bp hi nl6]
  obtain⟨es,cl,em,mm⟩:=f5.map
  have mlt:=aF f5.ok em
  have mvo:ay vo≠some m:=so5.other em (by simp)
  refine ih _ _ (by simp only[AG,Nat.reduceEqDiff,ag]) (by simp only[aa,↓reduceIte]) ⟨.slice (some ⟨h5.next+1,0,some 1⟩) (i+1+1) (i+1+1),by simp only[aa,Nat.reduceEqDiff,↓reduceIte],?_,?_⟩
  ·rw[bI gx,List.map_append,<-List.cons_append,List.flatMap_append]
   exact q7
  ·have f45:=f4.trans f5
   refine⟨k7,by omega,fun j hj hne=> ?_,es,cl,by rw[g7' m (by omega) mvo,gz mlt];exact em,mm⟩
   rw[g7' j (by omega) (fun e=>by have:=(so.blk_lt f4.ok e).1;omega),gz (by omega)]
   exact f45.get j hj hne
 ·rintro g h4 ag g23 ⟨vo,g7,so,f4⟩
  rw[List.take_length]at so
  have lo:=SL.ls (xs:=oh B plan n wh::w.needs.map fun i=>fR B plan i.toNat wh) aP (by simpa using so)
  have nl5:=G6 ok hw
  have lb:=Rg f4.ok lo (by simp only[List.length_cons,List.length_map];omega)
  obtain⟨pv',cv',rfl⟩:=so.value
  simp(maxDischargeDepth:=30)only[AA,↓reduceIte,Q1,Q2,Q3,Q4,reduceCtorEq,Q5,Q6,Q7,XH,oF,ag.r,NE,g23,g7,f4.ok,dL,lb]
  exact⟨trivial,(f1.frK hk hm).trans f4⟩
set_option maxRecDepth 10000 in
set_option maxHeartbeats 2000000 in
theorem end_b {B:Bench} (ok:B.ok=true) {plan:List Int} (hl:plan.length=B.strokes.length) {m wh:Nat} (hwh:wh<=1): ∀n,n<plan.length ->EndOK B plan m wh n:=by
 intro n
 induction n using Nat.strongRecOn with
 |_ n ih=>
  intro hn h hk hp bo st pv q hm
  have hE: ∀i,i<n ->EndOK B plan m wh i:=fun i hi=>ih i hi (by omega)
  have q0:=q
  have B6:=(Bench.ok_at ok).2.1
  obtain⟨w,hw⟩: ∃w,B.strokes[n]? =some w:=⟨_,List.getElem?_eq_getElem (by omega)⟩
  obtain⟨b,o,sp,c,row,nv,rfl,hr,hi5,ln,⟨pn,cn,rfl⟩,ct,c0,c1,c2,c3,c4⟩:=q.b.at hw
  obtain⟨pb,cb,rfl⟩:=q.b.bo.len
  obtain⟨pp,cp,rfl⟩:=q.p.len
  have ml:=hm.lt hk
  have hm0:=hm
  obtain⟨es,cl,em,hmem⟩:=hm
  have hf:=B4 (jV (uD B plan)) (n,wh) es 0 hmem
  have ef: ∀p:Nat×Nat,iP CC 285 (eh p)=true:=fun p=>by kernel_rfl
  have hlk:=fun (h':Heap) (e:h'.get m=some (.map es cl))=>nV (ok:=true) zo (ef (n,wh)) Ae e
  simp only[eh,uD]at hf hlk
  refine aw Tryz.f72 (by kernel_rfl) (by kernel_rfl) rfl rfl ?_
  simp only[Tryz.f72,qF]
  rcases hf with hf|⟨j,hf⟩
  rotate_left
  ·simp(maxDischargeDepth:=30)only[AA,↓reduceIte,Q1,Q2,Q3,Q4,reduceCtorEq,Q5,Q6,Q7,XH,wi,hk,ml,em,hlk,hf,xo]
   exact⟨trivial,(aI _ (Fr.refl hk)).frK hk hm0⟩
  have f1:=aI [.row [.int .i64 B.app, .slice pb B.boards.length cb, .slice (some ⟨b,o,sp⟩) B.strokes.length c, .slice pp plan.length cp, .map (some m), .int .i64 (-1), .int .i64 0] 0 true, .row [.int .i64 (n:Int), .int .i64 (wh:Int)] 0 true, .row [.func (.func 160) ⟨[]⟩ ⟨[]⟩, .func (.func 161) ⟨[]⟩ ⟨[]⟩] 0 true] (Fr.refl hk)
  have r1:rowAt (h.ex [.row [.int .i64 B.app, .slice pb B.boards.length cb, .slice (some ⟨b,o,sp⟩) B.strokes.length c, .slice pp plan.length cp, .map (some m), .int .i64 (-1), .int .i64 0] 0 true, .row [.int .i64 (n:Int), .int .i64 (wh:Int)] 0 true, .row [.func (.func 160) ⟨[]⟩ ⟨[]⟩, .func (.func 161) ⟨[]⟩ ⟨[]⟩] 0 true]) h.next=some [.int .i64 B.app, .slice pb B.boards.length cb, .slice (some ⟨b,o,sp⟩) B.strokes.length c, .slice pp plan.length cp, .map (some m), .int .i64 (-1), .int .i64 0]:=aZ rfl
  have r2:rowAt (h.ex [.row [.int .i64 B.app, .slice pb B.boards.length cb, .slice (some ⟨b,o,sp⟩) B.strokes.length c, .slice pp plan.length cp, .map (some m), .int .i64 (-1), .int .i64 0] 0 true, .row [.int .i64 (n:Int), .int .i64 (wh:Int)] 0 true, .row [.func (.func 160) ⟨[]⟩ ⟨[]⟩, .func (.func 161) ⟨[]⟩ ⟨[]⟩] 0 true]) (h.next+1)=some [.int .i64 (n:Int), .int .i64 (wh:Int)]:=by rw[jy rfl (by simp)];rfl
  have r3:rowAt (h.ex [.row [.int .i64 B.app, .slice pb B.boards.length cb, .slice (some ⟨b,o,sp⟩) B.strokes.length c, .slice pp plan.length cp, .map (some m), .int .i64 (-1), .int .i64 0] 0 true, .row [.int .i64 (n:Int), .int .i64 (wh:Int)] 0 true, .row [.func (.func 160) ⟨[]⟩ ⟨[]⟩, .func (.func 161) ⟨[]⟩ ⟨[]⟩] 0 true]) (h.next+2)=some [.func (.func 160) ⟨[]⟩ ⟨[]⟩, .func (.func 161) ⟨[]⟩ ⟨[]⟩]:=by rw[jy rfl (by simp)];rfl
  simp(maxDischargeDepth:=30)only[AA,↓reduceIte,Q1,Q2,Q3,Q4,reduceCtorEq,Q5,Q6,Q7,XH,wi,hk,ml,em,hlk,hf,uB]
  change W (bH CC none _ ⟨_,_,_⟩ (h.ex [.row [.int .i64 B.app, .slice pb B.boards.length cb, .slice (some ⟨b,o,sp⟩) B.strokes.length c, .slice pp plan.length cp, .map (some m), .int .i64 (-1), .int .i64 0] 0 true, .row [.int .i64 (n:Int), .int .i64 (wh:Int)] 0 true, .row [.func (.func 160) ⟨[]⟩ ⟨[]⟩, .func (.func 161) ⟨[]⟩ ⟨[]⟩] 0 true])) _
  generalize(h.ex [.row [.int .i64 B.app, .slice pb B.boards.length cb, .slice (some ⟨b,o,sp⟩) B.strokes.length c, .slice pp plan.length cp, .map (some m), .int .i64 (-1), .int .i64 0] 0 true, .row [.int .i64 (n:Int), .int .i64 (wh:Int)] 0 true, .row [.func (.func 160) ⟨[]⟩ ⟨[]⟩, .func (.func 161) ⟨[]⟩ ⟨[]⟩] 0 true])=H at f1 r1 r2 r3⊢
  have m1:=af f1.ok r1
  have nH:=f1.next
  have hmH:=hm0.fr hk f1
  have m3:=af f1.ok r3
  have iW:=aH (C:=CC) (t:=290) oL lG (h.next+2) 0 none wh (show wh<2 by omega)
  rw[Nat.mul_one,Nat.zero_add]at iW
  obtain⟨fw,cF,hc⟩: ∃fw,([.func (.func 160) ⟨[]⟩ ⟨[]⟩, .func (.func 161) ⟨[]⟩ ⟨[]⟩]:List Value)[wh]? =some (.func (.func fw) ⟨[]⟩ ⟨[]⟩)/\ ∀h1,HOK h1 ->CW CC fw [.agg ⟨[.int .i64 w.board, .bool w.round, .int .i64 w.lo, .int .i64 w.hi, .slice pn w.needs.length cn]⟩] h1 fun x h'=>x= .int .i64 (jH B n wh)/\ Fr h1 h':=by
   have e:jH B n wh=if wh=0 then w.lo else w.hi:=by unfold jH;rw[hw]
   rcases(by omega:wh=0 \/wh=1)with rfl|rfl
   ·exact⟨_,rfl,fun h1 k1=>by rw[e];exact Tj _ _ _ _ _ _ _ h1 k1⟩
   ·exact⟨_,rfl,fun h1 k1=>by rw[e];exact Ym _ _ _ _ _ _ _ h1 k1⟩
  have rbH:=f1.row' hk hr
  have mbH:=af f1.ok rbH
  have sfn:dq (.func (.func fw) ⟨[]⟩ ⟨[]⟩) (.func (.func fw) ⟨[]⟩ ⟨[]⟩)=true:=lK rfl rfl
  refine bR [(true,0),(true,1),(true,2),(true,4),(true,5),(true,6),(true,7),(true,8),(true,9),(true,10),(true,11),(true,12),(true,13),(true,3),(false,6),(false,9),(false,12),(true,14),(true,15),(true,16)] (by kernel_rfl) ?_
  simp(maxDischargeDepth:=30)only[AA,↓reduceIte,Q1,Q2,Q3,Q4,reduceCtorEq,Q5,Q6,Q7,dk,XH,wi,f1.ok,r1,m1,m3,iW,r3,cF,hi5,rbH,mbH,ct,LJ]
  refine bk (WV ok hE hn hl f1.ok (by omega) (q0.fr hk f1) hmH) ?_
  rintro _ h2 ⟨rfl,f2⟩
  have rk2:=f2.rk f1.ok hmH
  have r12:=rk2.rowAt r1
  have r22:=rk2.rowAt r2
  have r32:=rk2.rowAt r3
  have rb2:=rk2.rowAt rbH
  have eE:fR B plan n wh=j7 (oh B plan n wh::(fy B n).map fun i=>fR B plan i.toNat wh)+jH B n wh:=Ly ok plan wh n
  have eb:=Y5 ok plan wh n
  have hb:=Hz ok n wh
  generalize j7 (oh B plan n wh::(fy B n).map fun i=>fR B plan i.toNat wh)=LB at eE⊢
  have wE:IntKind.i64.wrap (LB+jH B n wh)=fR B plan n wh:=by rw[<-eE];exact bG (by omega) (by omega)
  have m32:=af f2.ok r32
  have mb2:=af f2.ok rb2
  simp(maxDischargeDepth:=30)only[AA,↓reduceIte,Q1,Q2,Q3,Q4,reduceCtorEq,Q5,Q6,Q7,dk,XH,wi,f2.ok,r12,r32,cF,rb2,ct,sfn,ju,ff,List.append_nil,List.nil_append,List.cons_append]
  refine bk (hc h2 f2.ok) ?_
  rintro _ h3 ⟨rfl,f3⟩
  have r13:=f3.row' f2.ok r12
  have r23:=f3.row' f2.ok r22
  have m13:=af f3.ok r13
  have m23:=af f3.ok r23
  have f23:=f2.trans (f3.frK f2.ok f2.map)
  obtain⟨es',cl',eu,hm'⟩:=mU (C:=CC) (jV (uD B plan)) zo (n,wh) (ef (n,wh)) f23.map
  simp only[eh,uD]at eu
  have zN:((n:Int)== -1)=false:=by rw[beq_eq_false_iff_ne];omega
  simp(maxDischargeDepth:=30)only[AA,↓reduceIte,Q1,Q2,Q3,Q4,reduceCtorEq,Q5,Q6,Q7,dk,XH,wi,f3.ok,wE,r13,r23,m13,m23,zN,eu]
  have FF:=(f1.frK hk hm0).trans f23
  exact⟨trivial,FF.ok.set (FF.map.lt FF.ok) _,by simpa using FF.next,fun j hj hne=>by rw[Heap.get_set_ne _ _ hne];exact FF.get j hj hne,_,_,am _ _ _,hm'⟩
end Go.Am

namespace Go.Am
open Go Go.Proofs
def wH:=A2 @eF<|A2 @BT<|A2 @kR<|A2 @cG<|A2 @q8<|A2 @vA<|A2 @xj<|A2 @bJ<|A2 @aV<|A2 @ba<|A2 @bm @bh
theorem OA {h:Heap} (hk:HOK h) {bo st pv:Value} {B:Bench} {plan:List Int} (q:IsWork h bo st pv B plan):
  CW CC 71 [.agg ⟨[.int .i64 B.app,bo,st]⟩,pv] h fun r h'=>(∃m,r= .agg ⟨qF B bo st pv m⟩/\ h.next<=m/\ HasK eh (uD B plan) h' m)/\ Fr h h':=by
 obtain⟨pb,cb,rfl⟩:=q.b.bo.len
 obtain⟨ps,cs,rfl⟩:=q.b.len
 obtain⟨pp,cp,rfl⟩:=q.p.len
 refine aw Tryz.f71 (by kernel_rfl) (by kernel_rfl) rfl rfl ?_
 simp only[Tryz.f71]
 simp(maxDischargeDepth:=30)only[AA,↓reduceIte,Q1,Q2,Q3,Q4,reduceCtorEq,Q5,Q6,Q7,XH,WO,xT,xS,xR,xQ,xP,q8,qZ,Gz,Gy,Ps,Pr,Pq,Pp,Po,zo,FQ,FP,hk]
 exact⟨⟨h.next+2,rfl,by omega,[],0,by rw[jd rfl (by simp)];rfl,MemoK.nil⟩,aI _ (Fr.refl hk)⟩
def qh (B:Bench) (plan:List Int):Int:=j7 ((List.range B.strokes.length).map fun n=>fR B plan n 1)
set_option maxRecDepth 10000 in
theorem Yx {B:Bench} (ok:B.ok=true) {plan:List Int} (hl:plan.length=B.strokes.length) {m:Nat} {h:Heap} (hk:HOK h) (hp:0<h.next) {bo st pv:Value} (q:IsWork h bo st pv B plan) (hm:HasK eh (uD B plan) h m):
  CW CC 128 [.agg ⟨qF B bo st pv m⟩] h fun x h'=>x= .int .i64 (qh B plan)/\ FrK eh (uD B plan) m h h':=by
 have q0:=q
 have B6:=(Bench.ok_at ok).2.1
 obtain⟨pb,cb,rfl⟩:=q.b.bo.len
 obtain⟨ps,cs,rfl⟩:=q.b.len
 obtain⟨pp,cp,rfl⟩:=q.p.len
 refine aw Tryz.f128 (by kernel_rfl) (by kernel_rfl) rfl rfl ?_
 simp only[Tryz.f128,qF]
 have f1:=aI [.row [.int .i64 B.app, .slice pb B.boards.length cb, .slice ps B.strokes.length cs, .slice pp plan.length cp, .map (some m), .int .i64 (-1), .int .i64 0] 0 true] (Fr.refl hk)
 have r1:rowAt (h.ex [.row [.int .i64 B.app, .slice pb B.boards.length cb, .slice ps B.strokes.length cs, .slice pp plan.length cp, .map (some m), .int .i64 (-1), .int .i64 0] 0 true]) h.next=some [.int .i64 B.app, .slice pb B.boards.length cb, .slice ps B.strokes.length cs, .slice pp plan.length cp, .map (some m), .int .i64 (-1), .int .i64 0]:=aZ rfl
 have nx:(h.ex [.row [.int .i64 B.app, .slice pb B.boards.length cb, .slice ps B.strokes.length cs, .slice pp plan.length cp, .map (some m), .int .i64 (-1), .int .i64 0] 0 true]).next=h.next+1:=by rw[bc];rfl
 simp(maxDischargeDepth:=30)only[AA,↓reduceIte,Q1,Q2,Q3,Q4,reduceCtorEq,Q5,Q6,Q7,XH,wH,hk]
 generalize(h.ex [.row [.int .i64 B.app, .slice pb B.boards.length cb, .slice ps B.strokes.length cs, .slice pp plan.length cp, .map (some m), .int .i64 (-1), .int .i64 0] 0 true])=H at f1 r1 nx⊢
 have hmH:=hm.fr hk f1
 have m1:=af f1.ok r1
 refine dN [3,4,9,10,11,12,13,14,15,16,17,18] 9 B.strokes.length (fun i g h'=> ∃vo,g 3=vo/\ SL H.next h' vo (((List.range i).map fun n=>fR B plan n 1).flatMap aQ) 1 i/\ FrK eh (uD B plan) m H h') (by simp only[aa,↓reduceIte]) ⟨_,by simp only[aa,Nat.reduceEqDiff,↓reduceIte],SL.nil _ _ _,(Fr.refl f1.ok).frK f1.ok hmH⟩ ?_ ?_
 ·rintro i g h4 hi ag g9 ⟨vo,g3,so,f4⟩ ih
  have rk4:=f4.rk f1.ok hmH
  have r4:=rk4.rowAt r1
  have n4:=f4.next
  simp(maxDischargeDepth:=30)only[AA,↓reduceIte,Q1,Q2,Q3,Q4,reduceCtorEq,Q5,Q6,Q7,XH,wH,ag.r,NE,g9,g3,f4.ok,cX hi,r4]
  refine aC (end_b ok hl (wh:=1) (by omega) i (by omega) f4.ok (by omega) ((q0.fr hk f1).rk rk4) f4.map) ?_
  rintro _ h5 ⟨rfl,f5⟩
  have n5:=f5.next
  have so5:=so.frK f4.ok f4.map f5
  have f6:=aI [.row [.int .i64 (fR B plan i 1)] 1 true] (Fr.refl f5.ok)
  have n6:(h5.ex [.row [.int .i64 (fR B plan i 1)] 1 true]).next=h5.next+1:=by rw[bc];rfl
  obtain⟨h7,e7,q7,k7,n7,g7'⟩:=dI (ts:=[]) kr (N:=H.next) f6.ok (by omega) (by omega) (so5.fr f5.ok f6) (x:= .slice (some ⟨h5.next,0,some 1⟩) 1 1) (m:=0) (new:=[.int .i64 (fR B plan i 1)]) rfl (by
   show ae (rowAt _ h5.next) (fun cells=>aA cells 0 ((0+1)*1))=_
   rw[aZ rfl];rfl) rfl rfl (by omega)
  rw[n6]at e7 q7 n7 g7'
  simp only[XH,aG,Nat.zero_add]at e7 q7
  simp(maxDischargeDepth:=30)only[AA,↓reduceIte,Q1,Q2,Q3,Q4,reduceCtorEq,Q5,Q6,Q7,XH,wH,ag.r,NE,g9,f5.ok,eF (dE _ _),aG,e7,k7,bp hi (by omega)]
  obtain⟨es,cl,em,mm⟩:=f5.map
  have mlt:=aF f5.ok em
  have mvo:ay vo≠some m:=so5.other em (by simp)
  refine ih _ _ (by simp only[AG,Nat.reduceEqDiff,ag]) (by simp only[aa,↓reduceIte]) ⟨.slice (some ⟨h5.next+1,0,some 1⟩) (i+1) (i+1),by simp only[aa,Nat.reduceEqDiff,↓reduceIte],?_,?_⟩
  ·rw[List.range_succ,List.map_append,List.flatMap_append]
   exact q7
  ·have f45:=f4.trans f5
   refine⟨k7,by omega,fun j hj hne=> ?_,es,cl,by rw[g7' m (by omega) mvo,gz mlt];exact em,mm⟩
   rw[g7' j (by omega) (fun e=>by have:=(so.blk_lt f4.ok e).1;omega),gz (by omega)]
   exact f45.get j hj hne
 ·rintro g h4 ag g9 ⟨vo,g3,so,f4⟩
  have lo:=SL.ls (xs:=(List.range B.strokes.length).map fun n=>fR B plan n 1) aP (by simpa using so)
  have lb:=Rg f4.ok lo (by simp;omega)
  obtain⟨pv',cv',rfl⟩:=so.value
  simp(maxDischargeDepth:=30)only[AA,↓reduceIte,Q1,Q2,Q3,Q4,reduceCtorEq,Q5,Q6,Q7,XH,wH,ag.r,NE,g9,g3,f4.ok,dL,lb]
  exact⟨rfl,(f1.frK hk hm).trans f4⟩
end Go.Am

namespace Go.Am
open Go Go.Proofs
def eK:=A2 @eF<|A2 @Lr<|A2 @kR<|A2 @V5<|A2 @cG<|A2 @vB<|A2 @By<|A2 @cS<|A2 @vA<|A2 @Ju<|A2 @cA<|A2 @xj<|A2 @bJ<|A2 @kM<|A2 @aV<|A2 @ba<|A2 @kI<|A2 @gq<|A2 @bm<|A2 @jC<|A2 @bh @ky
structure GR {β:Type} (g:GH β) (F:Nat ->Prop) (D:List β) (h:Heap):Prop where
 base:Gr g.F1 g.h1 h
 pos:0<h.next
 j:g.J F D h
 sub: ∀i,F i ->g.F1 i \/g.h1.next<=i
 rY:h.get g.pY=some (.row [g.vY] 0 true)
 rF:h.get g.pF=some (.row [g.vF] 0 true)
 priv: ∀i,i=g.pY \/i=g.pF -> ¬F i/\ g.h1.next<=i
section
variable {β:Type} {g:GH β} {F F':Nat ->Prop} {D:List β} {h h':Heap}
variable (stay: ∀F D h h',g.J F D h ->HOK h' ->h.next<=h'.next ->(∀i,F i ->h'.get i=h.get i) ->g.J F D h') (low: ∀F D h,g.J F D h -> ∀i,F i ->i<h.next)
include stay low in
theorem GR.fr (q:GR g F D h) (fr:Fr h h'):GR g F D h':=by
 have hk:=q.base.ok
 exact⟨q.base.trans fr.gr,Nat.lt_of_lt_of_le q.pos fr.next,stay _ _ _ _ q.j fr.ok fr.next fun i hi=>fr.get i (low _ _ _ q.j i hi),q.sub,fr.get' hk q.rY,fr.get' hk q.rF,q.priv⟩
theorem GR.yield {Item:Nat ->Heap ->β ->Value ->Prop} {Bk:Value ->Nat ->Prop} {S:List β ->Heap ->Prop} {l M:Nat} {h0:Heap} (E:Eats Item Bk g.J S l h0 M) (q:GR g F D h) (f0:Fr h0 g.h1) (hF: ∀i,g.F1 i ->h0.next<=i) {v:Value} {p:β} (hi:Item h0.next h p v) (hbk: ∀i,Bk v i -> ¬F i/\ i≠g.pY/\ i≠g.pF/\ g.h1.next<=i) (hM:D.length+1<=M):
  ∃b h2,jO (bH CC) l [v] h=some (.ret (.bool b) h2 none)/\ Gr F h h2/\ ((b=true/\ ∃F',GR g F' (D++[p]) h2/\ ∀i,F' i ->F i \/Bk v i \/h.next<=i) \/(b=false/\ S (D++[p]) h2)):=by
 have hk:=q.base.ok
 have n1:g.h1.next<=h.next:=q.base.next
 obtain⟨b,h2,e,gr,hb⟩:=E.round F D h v p hk q.pos (q.base.fr f0 hF) q.j hi (fun i hb=>(hbk i hb).1) hM
 have base2:Gr g.F1 g.h1 h2:=q.base.trans' gr q.sub
 refine⟨b,h2,e,gr,?_⟩
 rcases hb with⟨rfl,F',hs,hj⟩|⟨rfl,hs⟩
 ·left
  have ly:=aF hk q.rY
  have lf:=aF hk q.rF
  refine⟨rfl,F',⟨base2,Nat.lt_of_lt_of_le q.pos gr.next,hj,fun i hf=> ?_,?_,?_,fun i hi=>⟨fun hf=> ?_,(q.priv i hi).2⟩⟩,hs⟩
  ·rcases hs i hf with a|a|a
   ·exact q.sub i a
   ·exact .inr (hbk i a).2.2.2
   ·exact .inr (by omega)
  ·rw[gr.get _ ly (q.priv _ (.inl rfl)).1];exact q.rY
  ·rw[gr.get _ lf (q.priv _ (.inr rfl)).1];exact q.rF
  ·rcases hs i hf with a|a|a
   ·exact(q.priv i hi).1 a
   ·rcases hi with rfl|rfl
    ·exact(hbk _ a).2.1 rfl
    ·exact(hbk _ a).2.2.1 rfl
   ·rcases hi with rfl|rfl<;>omega
 ·exact .inr ⟨rfl,hs⟩
end
def Ur (n N:Nat) (h:Heap) (q:List Int) (v:Value):Prop:=gZ N h q v/\ q.length=n
def I6 (B:Bench) (n:Nat):Bool:=match B.strokes[n]? with
 |some w=>w.round
 |none=>false
def kq (B:Bench) (n:Nat):List Nat:=if I6 B n=true then[0]else List.range (B.app.toNat+1)
def gh (B:Bench):Nat ->List Int ->List (List Int)
 |0,now=>[now]
 |d+1,now=>(kq B now.length).flatMap fun (k:Nat)=>gh B d (now++[(k:Int)])
set_option maxRecDepth 10000 in
set_option maxHeartbeats 4000000 in
theorem Qr {B:Bench} (ok:B.ok=true) {bo st:Value} {h0:Heap} {pT:Nat} {S:List (List Int) ->Heap ->Prop} {l MX:Nat} {g:GH (List Int)} (E:Eats (Ur B.strokes.length) IE g.J S l h0 MX)
  (hk1:HOK g.h1) (q1: ∀h,Gr g.F1 g.h1 h ->IsBenchV h bo st B/\ rowAt h pT=some [.int .i64 B.app,bo,st]) (f0:Fr h0 g.h1) (hF: ∀i,g.F1 i ->h0.next<=i) (hY:g.vY= .func (.yield l) ⟨[]⟩ ⟨[]⟩)
  (hVF:g.vF= .func (.func 229) ⟨[]⟩ ⟨[.pointer (some ⟨pT,0,none⟩), .pointer (some ⟨g.pY,0,none⟩), .pointer (some ⟨g.pF,0,none⟩)]⟩):
  ∀(d:Nat) {F:Nat ->Prop} {D:List (List Int)} {now:List Int} {v:Value} {h:Heap},GR g F D h ->now.length+d=B.strokes.length ->SL g.h1.next h v (now.flatMap aQ) 1 now.length ->(∀b,ay v=some b -> ¬F b) ->D.length+(gh B d now).length<=MX ->
   CW CC 229 [v, .pointer (some ⟨pT,0,none⟩), .pointer (some ⟨g.pY,0,none⟩), .pointer (some ⟨g.pF,0,none⟩)] h fun r h'=>Gr F h h'/\
    ((r= .bool true/\ ∃F',GR g F' (D++gh B d now) h'/\ ∀i,F' i ->F i \/ay v=some i \/h.next<=i) \/(r= .bool false/\ ∃l1 l2,gh B d now=l1++l2/\ S (D++l1) h')):=by
 have stay:=E.stay
 have low: ∀F D h,g.J F D h -> ∀i,F i ->i<h.next:=fun F D h j i hi=>(E.low F D h j i hi).2
 have okk:=Bench.ok_at ok
 intro d
 induction d with
 |zero=>
  intro F D now v h q hnd hv hb hMX
  have hk:=q.base.ok
  obtain⟨qb,rT⟩:=q1 h q.base
  obtain⟨pb,cb,rfl⟩:=qb.bo.len
  obtain⟨ps,cs,rfl⟩:=qb.len
  obtain⟨pn,cn,rfl⟩:=hv.value
  have nT:=af hk rT
  have rY:rowAt h g.pY=some [.func (.yield l) ⟨[]⟩ ⟨[]⟩]:=by unfold rowAt;rw[q.rY,hY];rfl
  have nY:=af hk rY
  have eb:((now.length:Int)==(B.strokes.length:Int))=true:=by simp;omega
  obtain⟨b,h3,eY,gr3,hb3⟩:=q.yield E f0 hF (v:= .slice pn now.length cn) (p:=now) ⟨hv.low f0.next,by omega⟩ (fun i hi=>⟨hb i hi,fun e=>by
    rcases hv with⟨e0,_⟩|⟨b',e0,_,_,g',_⟩
    ·rw[e0]at hi;simp[IE,ay]at hi
    ·rw[e0]at hi;simp[IE,ay]at hi;subst hi;rw[e,q.rY]at g';simp at g',fun e=>by
    rcases hv with⟨e0,_⟩|⟨b',e0,_,_,g',_⟩
    ·rw[e0]at hi;simp[IE,ay]at hi
    ·rw[e0]at hi;simp[IE,ay]at hi;subst hi;rw[e,q.rF]at g';simp at g',(hv.blk_lt hk hi).1⟩) (by simp[gh]at hMX;omega)
  refine aw Tryz.f229 (by kernel_rfl) (by kernel_rfl) rfl rfl ?_
  simp only[Tryz.f229]
  simp(maxDischargeDepth:=30)only[AA,↓reduceIte,Q1,Q2,Q3,Q4,reduceCtorEq,Q5,Q6,Q7,XH,eK,hk,rT,nT,rY,nY,eb,zQ,eY]
  refine⟨gr3,?_⟩
  rcases hb3 with⟨rfl,F',q',hs⟩|⟨rfl,hs⟩
  ·exact .inl ⟨rfl,F',q',hs⟩
  ·exact .inr ⟨rfl,[now],[],rfl,hs⟩
 |succ d ihd=>
  intro F D now v h q hnd hv hb hMX
  have hk:=q.base.ok
  obtain⟨qb,rT⟩:=q1 h q.base
  obtain⟨pb,cb,rfl⟩:=qb.bo.len
  obtain⟨ps,cs,rfl⟩:=qb.len
  obtain⟨pn,cn,rfl⟩:=hv.value
  have nT:=af hk rT
  have eb:((now.length:Int)==(B.strokes.length:Int))=false:=by simp;omega
  obtain⟨w,hw⟩: ∃w,B.strokes[now.length]? =some w:=⟨_,List.getElem?_eq_getElem (by omega)⟩
  have eR:I6 B now.length=w.round:=by unfold I6;rw[hw]
  obtain⟨A,hA⟩: ∃A:Nat,B.app=A:=⟨B.app.toNat,by omega⟩
  have wA:IntKind.i64.wrap (B.app+1)=((A+1:Nat):Int):=by rw[bG (by omega) (by omega)];omega
  refine aw Tryz.f229 (by kernel_rfl) (by kernel_rfl) rfl rfl ?_
  simp only[Tryz.f229]
  simp(maxDischargeDepth:=30)only[AA,↓reduceIte,Q1,Q2,Q3,Q4,reduceCtorEq,Q5,Q6,Q7,XH,eK,hk,rT,nT,eb,wA]
  obtain⟨Bf,hBf,hBe⟩: ∃Bf:Nat ->List (List Int),(∀k,Bf k=gh B d (now++[(k:Int)]))/\ gh B (d+1) now=(kq B now.length).flatMap Bf:=⟨_,fun _=>rfl,rfl⟩
  rw[hBe]at hMX⊢
  have hH:kq B now.length=if w.round=true then[0]else List.range (A+1):=by
   unfold kq;rw[eR,hA];rfl
  have fl: ∀i,F i ->i<h.next:=low _ _ _ q.j
  have part: ∀i,i<=A+1 ->(i<=1 \/w.round=false) ->((List.range i).flatMap Bf).length<=((kq B now.length).flatMap Bf).length:=by
   intro i hi hr
   rw[hH]
   by_cases hw':w.round=true
   ·rw[if_pos hw']
    have:i<=1:=hr.elim id fun h=>by rw[h]at hw';simp at hw'
    rcases(by omega:i=0 \/i=1)with rfl|rfl
    ·simp
    ·simp[List.range_succ]
   ·rw[if_neg hw']
    conv=>rhs;rw[<-List.take_append_drop i (List.range (A+1))]
    rw[List.take_range,Nat.min_eq_left hi,List.flatMap_append,List.length_append]
    omega
  refine dN [5,6,19,20,21,22,23,24,25,26,27,28,29,30,31,32,33,34,35,36,37,38,39,40,41] 19 (A+1) (fun i gg h'=> ∃F':Nat ->Prop,GR g F' (D++(List.range i).flatMap Bf) h'/\ (∀j,F' j ->F j \/h.next<=j)/\ Gr F h h'/\ (i<=1 \/w.round=false)) (by simp only[aa,↓reduceIte]) ⟨F,by simpa using q,fun j hj=> .inl hj,Gr.refl hk, .inl (by omega)⟩ ?_ ?_
  ·rintro i gg h' hi ag g19 ⟨F',q',hs',gr,hri⟩ ih
   have k':=q'.base.ok
   have n':=gr.next
   obtain⟨qb',rT'⟩:=q1 h' q'.base
   have nT':=af k' rT'
   obtain⟨b,o,sp,c,row,nv,est,hr,hi5,_,_,_,_,c1,_⟩:=qb'.at hw
   simp only[Value.slice.injEq]at est
   obtain⟨rfl,_,rfl⟩:=est
   have nb:=af k' hr
   have hv':SL g.h1.next h' (.slice pn now.length cn) (now.flatMap aQ) 1 now.length:=hv.keep fun j hj=>gr.get j (hv.blk_lt hk hj).2 (hb j hj)
   have stop:decide ((i:Int)>0)=true ->w.round=true ->i=1:=fun h1 h2=>by
    have:=of_decide_eq_true h1
    rcases hri with h|h
    ·omega
    ·rw[h]at h2;simp at h2
   by_cases hgo:decide ((i:Int)>0)=true/\ w.round=true
   ·obtain⟨z,hrd⟩:=hgo
    have i1:=stop z hrd
    subst i1
    rw[hrd]at c1
    simp(maxDischargeDepth:=30)only[AA,↓reduceIte,Q1,Q2,Q3,Q4,reduceCtorEq,Q5,Q6,Q7,XH,eK,ag.r,NE,g19,k',cX hi,z,rT',nT',hi5,hr,nb,c1]
    refine⟨gr, .inl ⟨trivial,F',?_,fun j hj=>(hs' j hj).elim .inl fun h=> .inr (.inr h)⟩⟩
    rw[hH,if_pos hrd];simpa[List.range_succ]using q'
   ·have f1:=aI [.row [.int .i64 (i:Int)] 1 true] (Fr.refl k')
    have rx1:rowAt (h'.ex [.row [.int .i64 (i:Int)] 1 true]) h'.next=some [.int .i64 (i:Int)]:=aZ rfl
    have nx1:(h'.ex [.row [.int .i64 (i:Int)] 1 true]).next=h'.next+1:=by rw[bc];rfl
    have rF':rowAt h' g.pF=some [g.vF]:=by unfold rowAt;rw[q'.rF];rfl
    have nF':=af k' rF'
    obtain⟨rest,hrest⟩: ∃rest,(kq B now.length).flatMap Bf=(List.range i).flatMap Bf++(Bf i++rest):=by
     rw[hH]
     by_cases hw':w.round=true
     ·rw[if_pos hw']
      have i0:i=0:=by
       by_cases h0:i=0
       ·exact h0
       ·exact absurd ⟨decide_eq_true (by omega),hw'⟩ hgo
      subst i0
      exact⟨[],by simp⟩
     ·rw[if_neg hw']
      refine⟨((List.range (A+1)).drop (i+1)).flatMap Bf,?_⟩
      conv=>lhs;rw[<-List.take_append_drop (i+1) (List.range (A+1))]
      rw[List.take_range,Nat.min_eq_left (by omega),List.range_succ,List.flatMap_append,List.flatMap_append]
      simp
    cases z:decide ((i:Int)>0)with
    |false=>
     have i0:i=0:=by have:=of_decide_eq_false z;omega
     simp(maxDischargeDepth:=30)only[AA,↓reduceIte,Q1,Q2,Q3,Q4,reduceCtorEq,Q5,Q6,Q7,XH,eK,ag.r,NE,g19,k',cX hi,z]
     refine bR [(true,0),(true,1),(true,3),(true,4),(true,2),(false,0),(false,4),(true,5),(false,0),(true,6),(true,7)] (by kernel_rfl) ?_
     simp(maxDischargeDepth:=30)only[AA,↓reduceIte,Q1,Q2,Q3,Q4,reduceCtorEq,Q5,Q6,Q7,dk,XH,eK,ag.r,NE,g19,k',rF',nF',eF (dE _ _),aG]
     refine bk (clone_ints.clone aP f1.ok (by rw[nx1];omega) ((SL.ls aP hv').fr k' f1) (fun x _=>dW x) (by omega)) ?_
     rintro cv h2 ⟨hcv,_,f2⟩
     have n2:=f2.next
     have rx2:=f2.row' f1.ok rx1
     have rF2:=(f1.trans f2).row' k' rF'
     have gx2:h2.get h'.next=some (.row [.int .i64 (i:Int)] 1 true):=f2.get' f1.ok (by simp[Heap.ex,Heap.get_alloc_self])
     have nF2:=af f2.ok rF2
     obtain⟨h3,e3,q3,k3,n3,g3⟩:=dI (ts:=[]) kr (N:=h'.next) f2.ok (by omega) (by omega) (hcv.low (by omega)) (x:= .slice (some ⟨h'.next,0,some 1⟩) 1 1) (m:=0) (new:=[.int .i64 (i:Int)]) rfl (by
      show ae (rowAt _ h'.next) (fun cells=>aA cells 0 ((0+1)*1))=_
      rw[rx2];rfl) rfl rfl (by omega)
     simp only[XH,aG,Nat.zero_add]at e3 q3
     have f13:Fr h' h3:=⟨k3,by omega,fun j hj=>by rw[g3 j (by omega) (fun e=>by have:=(hcv.blk_lt f2.ok e).1;omega)];exact(f1.trans f2).get j hj⟩
     have q3':=q'.fr stay low f13
     have svf:dq (.func (.func 229) ⟨[]⟩ ⟨[.pointer (some ⟨pT,0,none⟩), .pointer (some ⟨g.pY,0,none⟩), .pointer (some ⟨g.pF,0,none⟩)]⟩) (.func (.func 229) ⟨[]⟩ ⟨[.pointer (some ⟨pT,0,none⟩), .pointer (some ⟨g.pY,0,none⟩), .pointer (some ⟨g.pF,0,none⟩)]⟩)=true:=lK rfl rfl
     obtain⟨pc,cc,rfl⟩:=hcv.value
     have q3c:SL g.h1.next h3 (.slice (some ⟨h2.next,0,some 1⟩) (now.length+1) (now.length+1)) ((now++[(i:Int)]).flatMap aQ) 1 (now++[(i:Int)]).length:=by
      rw[List.flatMap_append,List.length_append]
      exact SL.low q3 (by have:=q'.base.next;omega)
     simp(maxDischargeDepth:=30)only[AA,↓reduceIte,Q1,Q2,Q3,Q4,reduceCtorEq,Q5,Q6,Q7,dk,XH,eK,ag.r,NE,g19,f2.ok,k3,rF2,nF2,svf,e3,hVF,ff,gx2,f13.row' k' rF',af k3 (f13.row' k' rF')]
     refine bk (ihd q3' (by simp;omega) q3c (fun j hj hf=>by simp[ay]at hj;have:=low _ _ _ q'.j j hf;omega) (by
      rw[<-hBf];simp only[List.length_append]
      have:=part (i+1) (by omega) ((.inl (by omega)))
      rw[List.range_succ,List.flatMap_append,List.length_append]at this
      simp only[List.flatMap_cons,List.flatMap_nil,List.append_nil]at this;omega)) ?_
     rintro R h5 ⟨gr5,hR⟩
     have GG:Gr F h h5:=gr.trans' (f13.gr.trans' gr5 (fun j hj=> .inl hj)) hs'
     rcases hR with⟨rfl,F5,q5,hs5⟩|⟨rfl,l1,l2,el,hS⟩
     ·simp(maxDischargeDepth:=30)only[AA,↓reduceIte,Q1,Q2,Q3,Q4,reduceCtorEq,Q5,Q6,Q7,dk,XH,eK,ag.r,NE,g19,gr5.ok,bp hi (by omega)]
      refine ih _ _ (by simp only[AG,Nat.reduceEqDiff,ag]) (by simp only[aa,↓reduceIte]) ⟨F5,?_,fun j hj=> ?_,GG,(.inl (by omega))⟩
      ·rw[List.range_succ,List.flatMap_append,<-List.append_assoc];simpa[hBf]using q5
      ·rcases hs5 j hj with a|a|a
       ·exact hs' j a
       ·right;simp[ay]at a;omega
       ·right;omega
     ·simp(maxDischargeDepth:=30)only[AA,↓reduceIte,Q1,Q2,Q3,Q4,reduceCtorEq,Q5,Q6,Q7,dk,XH,eK,ag.r,NE,g19,gr5.ok]
      refine⟨GG, .inr ⟨trivial,(List.range i).flatMap Bf++l1,l2++rest,?_,by rw[<-List.append_assoc];exact hS⟩⟩
      rw[hrest,hBf,el];simp[List.append_assoc]
    |true=>
     have hrf:w.round=false:=by
      cases e:w.round with
      |false=>rfl
      |true=>exact absurd ⟨z,e⟩ hgo
     rw[hrf]at c1
     simp(maxDischargeDepth:=30)only[AA,↓reduceIte,Q1,Q2,Q3,Q4,reduceCtorEq,Q5,Q6,Q7,XH,eK,ag.r,NE,g19,k',cX hi,z,rT',nT',hi5,hr,nb,c1]
     refine bR [(true,0),(true,1),(true,3),(true,4),(true,2),(false,0),(false,4),(true,5),(false,0),(true,6),(true,7)] (by kernel_rfl) ?_
     simp(maxDischargeDepth:=30)only[AA,↓reduceIte,Q1,Q2,Q3,Q4,reduceCtorEq,Q5,Q6,Q7,dk,XH,eK,ag.r,NE,g19,k',rF',nF',eF (dE _ _),aG]
     refine bk (clone_ints.clone aP f1.ok (by rw[nx1];omega) ((SL.ls aP hv').fr k' f1) (fun x _=>dW x) (by omega)) ?_
     rintro cv h2 ⟨hcv,_,f2⟩
     have n2:=f2.next
     have rx2:=f2.row' f1.ok rx1
     have rF2:=(f1.trans f2).row' k' rF'
     have gx2:h2.get h'.next=some (.row [.int .i64 (i:Int)] 1 true):=f2.get' f1.ok (by simp[Heap.ex,Heap.get_alloc_self])
     have nF2:=af f2.ok rF2
     obtain⟨h3,e3,q3,k3,n3,g3⟩:=dI (ts:=[]) kr (N:=h'.next) f2.ok (by omega) (by omega) (hcv.low (by omega)) (x:= .slice (some ⟨h'.next,0,some 1⟩) 1 1) (m:=0) (new:=[.int .i64 (i:Int)]) rfl (by
      show ae (rowAt _ h'.next) (fun cells=>aA cells 0 ((0+1)*1))=_
      rw[rx2];rfl) rfl rfl (by omega)
     simp only[XH,aG,Nat.zero_add]at e3 q3
     have f13:Fr h' h3:=⟨k3,by omega,fun j hj=>by rw[g3 j (by omega) (fun e=>by have:=(hcv.blk_lt f2.ok e).1;omega)];exact(f1.trans f2).get j hj⟩
     have q3':=q'.fr stay low f13
     have svf:dq (.func (.func 229) ⟨[]⟩ ⟨[.pointer (some ⟨pT,0,none⟩), .pointer (some ⟨g.pY,0,none⟩), .pointer (some ⟨g.pF,0,none⟩)]⟩) (.func (.func 229) ⟨[]⟩ ⟨[.pointer (some ⟨pT,0,none⟩), .pointer (some ⟨g.pY,0,none⟩), .pointer (some ⟨g.pF,0,none⟩)]⟩)=true:=lK rfl rfl
     obtain⟨pc,cc,rfl⟩:=hcv.value
     have q3c:SL g.h1.next h3 (.slice (some ⟨h2.next,0,some 1⟩) (now.length+1) (now.length+1)) ((now++[(i:Int)]).flatMap aQ) 1 (now++[(i:Int)]).length:=by
      rw[List.flatMap_append,List.length_append]
      exact SL.low q3 (by have:=q'.base.next;omega)
     simp(maxDischargeDepth:=30)only[AA,↓reduceIte,Q1,Q2,Q3,Q4,reduceCtorEq,Q5,Q6,Q7,dk,XH,eK,ag.r,NE,g19,f2.ok,k3,rF2,nF2,svf,e3,hVF,ff,gx2,f13.row' k' rF',af k3 (f13.row' k' rF')]
     refine bk (ihd q3' (by simp;omega) q3c (fun j hj hf=>by simp[ay]at hj;have:=low _ _ _ q'.j j hf;omega) (by
      rw[<-hBf];simp only[List.length_append]
      have:=part (i+1) (by omega) ((.inr hrf))
      rw[List.range_succ,List.flatMap_append,List.length_append]at this
      simp only[List.flatMap_cons,List.flatMap_nil,List.append_nil]at this;omega)) ?_
     rintro R h5 ⟨gr5,hR⟩
     have GG:Gr F h h5:=gr.trans' (f13.gr.trans' gr5 (fun j hj=> .inl hj)) hs'
     rcases hR with⟨rfl,F5,q5,hs5⟩|⟨rfl,l1,l2,el,hS⟩
     ·simp(maxDischargeDepth:=30)only[AA,↓reduceIte,Q1,Q2,Q3,Q4,reduceCtorEq,Q5,Q6,Q7,dk,XH,eK,ag.r,NE,g19,gr5.ok,bp hi (by omega)]
      refine ih _ _ (by simp only[AG,Nat.reduceEqDiff,ag]) (by simp only[aa,↓reduceIte]) ⟨F5,?_,fun j hj=> ?_,GG,(.inr hrf)⟩
      ·rw[List.range_succ,List.flatMap_append,<-List.append_assoc];simpa[hBf]using q5
      ·rcases hs5 j hj with a|a|a
       ·exact hs' j a
       ·right;simp[ay]at a;omega
       ·right;omega
     ·simp(maxDischargeDepth:=30)only[AA,↓reduceIte,Q1,Q2,Q3,Q4,reduceCtorEq,Q5,Q6,Q7,dk,XH,eK,ag.r,NE,g19,gr5.ok]
      refine⟨GG, .inr ⟨trivial,(List.range i).flatMap Bf++l1,l2++rest,?_,by rw[<-List.append_assoc];exact hS⟩⟩
      rw[hrest,hBf,el];simp[List.append_assoc]
  ·rintro gg h' ag g19 ⟨F',q',hs',gr,hri⟩
   have k':=q'.base.ok
   simp(maxDischargeDepth:=30)only[AA,↓reduceIte,Q1,Q2,Q3,Q4,reduceCtorEq,Q5,Q6,Q7,XH,eK,ag.r,NE,g19,k',dL]
   refine⟨gr, .inl ⟨trivial,F',?_,fun j hj=>(hs' j hj).elim .inl fun h=> .inr (.inr h)⟩⟩
   have e:(kq B now.length).flatMap Bf=(List.range (A+1)).flatMap Bf:=by
    rw[hH]
    split
    ·next hw'=>
     have:A=0:=by
      rcases hri with h|h
      ·omega
      ·rw[h]at hw';simp at hw'
     subst this;simp
    ·rfl
   rw[e];exact q'
end Go.Am
