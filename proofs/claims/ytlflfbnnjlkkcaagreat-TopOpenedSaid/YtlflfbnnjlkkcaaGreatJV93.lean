/- Parts V93, V94, V95, V96 of the abstract machine over this program, joined: what each part says stands at its head. -/
import Derived.Test.YtlflfbnnjlkkcaaGreatJV87
set_option linter.unusedSimpArgs false
set_option linter.unusedVariables false
set_option linter.defProp false
open Nat renaming reduceLT→Q1,reduceEqDiff→Q2,reduceAdd→Q3,reduceMul→Q4,reduceLeDiff→Q5
open Int renaming reduceNe→Q6,reduceEq→Q7
namespace Go.Am
open Go Go.Proofs
def iK:=A2 @WH<|A2 @WF<|A2 @xy<|A2 @xx<|A2 @xq<|A2 @xp<|A2 @iH<|A2 @pI<|A2 @RU<|A2 @RS<|A2 @BO<|A2 @Wd<|A2 @mC<|A2 @pC<|A2 @tO<|A2 @Ri<|A2 @JB<|A2 @Dy<|A2 @cM<|A2 @Bx<|A2 @cS<|A2 @Q9<|A2 @Jx<|A2 @Jw<|A2 @vz<|A2 @cA<|A2 @pk<|A2 @nK<|A2 @G2<|A2 @A8<|A2 @jS<|A2 @jR<|A2 @iG<|A2 @Gq<|A2 @AK<|A2 @qN<|A2 @mW<|A2 @sI<|A2 @gv<|A2 @O4<|A2 @O3<|A2 @O1<|A2 @O0<|A2 @ji<|A2 @zn<|A2 @uT<|A2 @lv<|A2 @jN<|A2 @Ad<|A2 @FE<|A2 @Ac<|A2 @Ab<|A2 @uL @sq
def Bp (u:Value×Bool):List Value:=[u.1, .bool u.2]
theorem QX (u:Value×Bool):(Bp u).length=2:=rfl
def Kx (N:Nat) (h:Heap) (u:Value×Bool) (l:List (Nat×Nat)×Bool):Prop:=SL N h u.1 (l.1.flatMap bV) 2 l.1.length/\ u.2=l.2
theorem TU:AppT CC 315 315 2:=qE (by kernel_rfl)
theorem LF (a b:Value):bn CC 315 1 [(0, .agg ⟨[a,b]⟩)]=some (.new (.row [a,b] 2 true) (aG 2 1 1)):=by kernel_rfl
theorem DZ:AppT CC 317 317 2:=qE (by kernel_rfl)
theorem Ig (a b:Value):bn CC 317 1 [(0, .agg ⟨[a,b]⟩)]=some (.new (.row [a,b] 2 true) (aG 2 1 1)):=by kernel_rfl
def vb (ev:Value):List Value:=[.slice none 0 0,ev]
theorem LSheet.lenW_at {S:LSheet} {w:Nat} {x:LWord} (h:S.words[w]? =some x):S.lenW w=x.signs.length:=by unfold LSheet.lenW;rw[h]
set_option maxRecDepth 10000 in
set_option maxHeartbeats 4000000 in
theorem VN {h:Heap} (hk:HOK h) (hp:0<h.next) {u:LetV} {S:LSheet} {m:Nat} (q:IsLet h u S) (f:S.Fine) {ev:Value} {es:List (Nat×Nat)} (he:LS h ev es bV 2) (hE: ∀e∈es,S.EndOK e) (hn:es.length<=100):
  CW CC 209 [.agg ⟨S.frontC u m⟩, .agg ⟨vb ev⟩] h fun r h'=>(∃us,SL h.next h' r (us.flatMap Bp) 2 us.length/\ LR (Kx h.next) h' us (S.linesG es (0,0)))/\ Fr h h':=by
 obtain⟨pw,cw,pp,cp,pd,cd,F,ew,ed,_⟩:=q.front m
 have WX:=fun {h':Heap} (g:Fr h h') {i:Nat} {w:LWord} (hw:S.words[i]? =some w)=>(q.fr hk g).at hw
 rw[ed]at WX
 obtain⟨R,hR⟩: ∃R,R=S.frontC u m:=⟨_,rfl⟩
 rw[<-hR]at F⊢
 obtain⟨pv,cv,rfl,hx⟩:=he.open
 refine aw Tryz.f209 (by kernel_rfl) (by kernel_rfl) rfl rfl ?_
 simp only[Tryz.f209,vb]
 have f1:=aI [.row R 0 true, .row [.slice none 0 0, .slice pv es.length cv] 0 true] (Fr.refl hk)
 have r1:rowAt (h.ex [.row R 0 true, .row [.slice none 0 0, .slice pv es.length cv] 0 true]) h.next=some R:=aZ rfl
 have r2:rowAt (h.ex [.row R 0 true, .row [.slice none 0 0, .slice pv es.length cv] 0 true]) (h.next+1)=some [.slice none 0 0, .slice pv es.length cv]:=by rw[jy rfl (by simp)];rfl
 simp(maxDischargeDepth:=30)only[AA,↓reduceIte,Q1,Q2,Q3,Q4,reduceCtorEq,Q5,Q6,Q7,XH,iK,hk,F.ro,F.rl]
 generalize(h.ex [.row R 0 true, .row [.slice none 0 0, .slice pv es.length cv] 0 true])=H at f1 r1 r2⊢
 have m1:=af f1.ok r1
 have m2:=af f1.ok r2
 have nH:=f1.next
 refine dN [5,6,7,9,10,14,15,16,17,18,19,20,21,22,23,24,25,26,27,28,29,30,31,32,33,34,35,36,37,38,39,40,41,42,43,44,45,46,47,48,49,50,51,52,53,54,55,56,57,58,59,60,61,62,63,64,65,66,67,68,69,70,71,72,73,74,75,76,77,78,79] 14 es.length (fun i g h'=> ∃(p:Nat×Nat) (vo:Value) (us:List (Value×Bool)),S.At 100 p/\ g 6= .int .i64 p.1/\ g 7= .int .i64 p.2/\ g 5=vo/\ SL H.next h' vo (us.flatMap Bp) 2 us.length/\ us.length=i/\
  (∃L,LR (Kx h.next) h' us L/\ S.linesG es (0,0)=L++S.linesG (es.drop i) p)/\ (∀x,x∈us -> ∀b,ay x.1=some b ->ay vo≠some b)/\ Fr H h') (by simp only[aa,↓reduceIte])
  ⟨(0,0),_,[],LSheet.At.start f,by simp only[aa,Nat.reduceEqDiff,↓reduceIte];rfl,by simp only[aa,Nat.reduceEqDiff,↓reduceIte];rfl,by simp only[aa,Nat.reduceEqDiff,↓reduceIte],SL.nil _ _ _,rfl,⟨[],⟨rfl,fun j x y hx=>by simp at hx⟩,rfl⟩,fun x hx=>by simp at hx,Fr.refl f1.ok⟩ ?_ ?_
 ·rintro i g h2 hi ag g14 ⟨p,vo,us,at0,g6,g7,g5,so,ul,⟨L,lr,eL⟩,nd,f2⟩ ih
  obtain⟨e,ge⟩: ∃e,es[i]? =some e:=⟨_,List.getElem?_eq_getElem hi⟩
  have eOK:=hE e (List.mem_of_getElem? ge)
  rcases hx with hx|⟨b,o,sp,row,rfl,hr,hy⟩
  ·rw[hx]at hi;simp at hi
  have ct:=(hy i _ ge).1
  simp only[bV]at ct
  have fh2:=f1.trans f2
  have r12:=f2.row' f1.ok r1
  have m12:=af f2.ok r12
  have hr2:=fh2.row' hk hr
  have mr2:=af f2.ok hr2
  have n2:=f2.next
  obtain⟨w,hw⟩: ∃w,S.words[e.1]? =some w:=⟨_,List.getElem?_eq_getElem eOK.1⟩
  have elw:=LSheet.lenW_at hw
  simp(maxDischargeDepth:=30)only[AA,↓reduceIte,Q1,Q2,Q3,Q4,reduceCtorEq,Q5,Q6,Q7,XH,iK,ag.r,NE,g14,f2.ok,cX hi,hi,hr2,mr2,ct]
  have f3:=aI [.row [.int .i64 e.1, .int .i64 e.2] 0 true] (Fr.refl f2.ok)
  have rx:rowAt (h2.ex [.row [.int .i64 e.1, .int .i64 e.2] 0 true]) h2.next=some [.int .i64 e.1, .int .i64 e.2]:=aZ rfl
  have nx:(h2.ex [.row [.int .i64 e.1, .int .i64 e.2] 0 true]).next=h2.next+1:=by rw[bc];rfl
  generalize(h2.ex [.row [.int .i64 e.1, .int .i64 e.2] 0 true])=h3 at f3 rx nx⊢
  have r13:=f3.row' f2.ok r12
  have m13:=af f3.ok r13
  have mx:=af f3.ok rx
  have fh3:=fh2.trans f3
  obtain⟨bw,ow,sw,cww,roww,sv,cuv,e1,hrw,hwl,ls,_,cw0,_⟩:=WX fh3 hw
  simp only[Value.slice.injEq]at e1
  obtain⟨rfl,_,rfl⟩:=e1
  obtain⟨ps,cs,rfl⟩:=ls.len
  have mrw:=af f3.ok hrw
  refine bR [(true,0),(true,1),(true,2),(true,3),(true,4),(true,5),(true,6),(true,7),(true,8),(true,9),(true,10),(true,11),(true,12),(true,13),(true,14)] (by kernel_rfl) ?_
  have edash:decide ((e.2:Int)<(w.signs.length:Int))=decide (e.2<S.lenW e.1):=by rw[elw];simp
  obtain⟨dash,hdash⟩: ∃dash,dash=decide (e.2<S.lenW e.1):=⟨_,rfl⟩
  rw[<-hdash]at edash
  have f4:=aI [.row [.slice none 0 0, .bool dash] 0 true] (Fr.refl f3.ok)
  have g4:(h3.ex [.row [.slice none 0 0, .bool dash] 0 true]).get h3.next=some (.row [.slice none 0 0, .bool dash] 0 true):=dG rfl
  have n4:(h3.ex [.row [.slice none 0 0, .bool dash] 0 true]).next=h3.next+1:=by rw[bc];rfl
  simp(maxDischargeDepth:=30)only[AA,↓reduceIte,Q1,Q2,Q3,Q4,reduceCtorEq,Q5,Q6,Q7,dk,XH,iK,ag.r,NE,g14,f3.ok,r13,m13,rx,mx,F.r7,hwl,hrw,mrw,cw0,edash]
  clear hrw mrw cw0 ls hwl
  generalize(h3.ex [.row [.slice none 0 0, .bool dash] 0 true])=h4 at f4 g4 n4⊢
  have fh4:=fh3.trans f4
  have f24:=f3.trans f4
  have r14:=f4.row' f3.ok r13
  have r24:=(f2.trans f24).row' f1.ok r2
  have rx4:=f4.row' f3.ok rx
  obtain⟨res,hres⟩: ∃res,res=S.stepG e 100 p []:=⟨_,rfl⟩
  have at2:=(LSheet.stepG_at' eOK at0).1
  rw[<-hres]at at2
  have ed':es.drop i=e::es.drop (i+1):=by
   rw[List.drop_eq_getElem_cons hi]
   rw[List.getElem?_eq_getElem hi]at ge
   rw[Option.some.inj ge]
  have eL2:S.linesG es (0,0)=(L++[(res.1,dash)])++S.linesG (es.drop (i+1)) res.2:=by
   rw[eL,ed',List.append_assoc]
   show L++(((S.stepG e 100 p []).1,decide (e.2<S.lenW e.1))::S.linesG (es.drop (i+1)) (S.stepG e 100 p []).2)=_
   rw[<-hres,<-hdash];rfl
  refine Kr [6,7,31,32,33,34,35,36,37,38,39,40,41,42,43,44,45,46,47,48,49,50,51,52,53,54,55,56,57,58,59,60,61,62,63,64,65,66,67,68,69,70,71,72,73,74] 100 (fun n g' h'=> ∃(p:Nat×Nat) (vo:Value) (acc:List (Nat×Nat)),S.At n p/\ g' 6= .int .i64 p.1/\ g' 7= .int .i64 p.2/\ h'.get h3.next=some (.row [vo, .bool dash] 0 true)/\ SL h4.next h' vo (acc.flatMap bV) 2 acc.length/\ acc.length+n<=100/\ S.stepG e n p acc=res/\ Gr (fun j=>j=h3.next) h4 h')
   ⟨p, .slice none 0 0,[],at0,by simp only[aa,Nat.reduceEqDiff,↓reduceIte,g6],by simp only[aa,Nat.reduceEqDiff,↓reduceIte,g7],g4,SL.nil _ _ _,by simp,hres.symm,Gr.refl f4.ok⟩ ?_
  clear at0 g6 g7 hres g4 eL
  rintro n g' h' ag' ⟨p,vo1,acc,at0,g6,g7,gc,so1,an,hres,gr⟩ ih'
  have k':=gr.ok
  have n':=gr.next
  have fh':Fr h h':=gr.fr fh4 (fun j hj=>by have:=fh3.next;omega)
  have fHH:Fr H h':=gr.fr (f2.trans f24) (fun j hj=>by have:=f3.next;omega)
  have f2':Fr h2 h':=gr.fr f24 (fun j hj=>by have:=f3.next;omega)
  have r1':rowAt h' h.next=some R:=fHH.row' f1.ok r1
  have m1':=af k' r1'
  have r2':rowAt h' (h.next+1)=some _:=fHH.row' f1.ok r2
  have m2':=af k' r2'
  have re':rowAt h' h2.next=some [.int .i64 e.1, .int .i64 e.2]:=by unfold rowAt;rw[gr.get _ (by omega) (by omega)];exact rx4
  have me':=af k' re'
  have rc':rowAt h' h3.next=some [vo1, .bool dash]:=by unfold rowAt;rw[gc];rfl
  have mc':=af k' rc'
  by_cases h1:p.1<e.1
  ·have c1:decide ((p.1:Int)<(e.1:Int))=true:=decide_eq_true (by omega)
   have hgo:mM e p=true:=by unfold mM;simp[h1]
   obtain⟨n1,en,hpw⟩:=at0.pos eOK hgo
   subst en
   unfold LSheet.stepG at hres
   rw[if_pos hgo]at hres
   obtain⟨w',hw'⟩: ∃w',S.words[p.1]? =some w':=⟨_,List.getElem?_eq_getElem hpw⟩
   have elw':=LSheet.lenW_at hw'
   obtain⟨bw',ow',sw',cww',roww',sv',cuv',e1',hrw',hwl',ls',_,cw0',_⟩:=WX fh' hw'
   simp only[Value.slice.injEq,Option.some.injEq,Addr.mk.injEq]at e1'
   obtain⟨⟨rfl,rfl,rfl⟩,_,rfl⟩:=e1'
   obtain⟨ps',cs',rfl⟩:=ls'.len
   have mrw':=af k' hrw'
   have cn:=pK k' (p.1:Int) (xs:=[]) (.inl ⟨rfl,none,0,rfl⟩:LS h' (.slice none 0 0) ([]:List Int) aQ 1) (by simp)
   have i6:=S.lenW_le f p.1
   have i4:=f.nw
   have hpi:=at0.i
   have ep2:(p.2:Int)+1=((p.2+1:Nat):Int):=by omega
   have wp2:IntKind.i64.wrap ((p.2:Int)+1)=((p.2+1:Nat):Int):=by rw[bG (by omega) (by omega)];omega
   have wp1:IntKind.i64.wrap ((p.1:Int)+1)=((p.1+1:Nat):Int):=by rw[bG (by omega) (by omega)];omega
   by_cases hend:p.2=S.lenW p.1
   ·have ce:((p.2:Int)==(w'.signs.length:Int))=true:=by rw[elw']at hend;simp[hend]
    have wz:IntKind.i64.wrap ((-1:Int)+1)=((0:Nat):Int):=by decide
    rw[if_pos hend]at hres
    simp(maxDischargeDepth:=30)only[AA,↓reduceIte,Q1,Q2,Q3,Q4,reduceCtorEq,Q5,Q6,Q7,XH,iK,ag'.r,ag.r,NE,g6,g7,k',r1',m1',r2',m2',re',me',rc',mc',c1,aj,cn,List.contains_nil,F.r7,hwl',hrw',mrw',cw0',ce,wp1,wz]
    exact ih' n1 _ _ (by omega) (by simp only[AG,Nat.reduceEqDiff,ag']) ⟨(p.1+1,0),vo1,acc,at0.next hend,by simp only[aa,Nat.reduceEqDiff,↓reduceIte],by simp only[aa,Nat.reduceEqDiff,↓reduceIte],gc,so1,by omega,hres,gr⟩
   ·have ce:((p.2:Int)==(w'.signs.length:Int))=false:=by rw[elw']at hend;simp;omega
    rw[if_neg hend]at hres
    have f6:=aI [.row [.int .i64 p.1, .int .i64 p.2] 2 true] (Fr.refl k')
    have n6:(h'.ex [.row [.int .i64 p.1, .int .i64 p.2] 2 true]).next=h'.next+1:=by rw[bc];rfl
    obtain⟨h7,e7,q7,k7,n7,g7'⟩:=dI (ts:=[]) DZ (N:=h4.next) f6.ok (by omega) (by omega) (so1.fr k' f6) (x:= .slice (some ⟨h'.next,0,some 2⟩) 1 1) (m:=0) (new:=bV p) rfl (by
     show ae (rowAt _ h'.next) (fun cells=>aA cells 0 ((0+1)*2))=_
     rw[aZ rfl];rfl) rfl rfl (by omega)
    rw[n6]at e7 q7 n7 g7'
    simp only[XH,aG,Nat.zero_add]at e7 q7
    have nb1:ay vo1≠some h3.next:=fun hb=>by have:=(so1.blk_lt k' hb).1;omega
    have gc7:h7.get h3.next=some (.row [vo1, .bool dash] 0 true):=by rw[g7' _ (by omega) nb1,gz (by omega)];exact gc
    have k8:=k7.set (i:=h3.next) (by omega) (.row [.slice (some ⟨h'.next+1,0,some 2⟩) (acc.length+1) (acc.length+1), .bool dash] 0 true)
    obtain⟨po1,co1,rfl⟩:=so1.value
    simp(maxDischargeDepth:=30)only[AA,↓reduceIte,Q1,Q2,Q3,Q4,reduceCtorEq,Q5,Q6,Q7,XH,iK,ag'.r,ag.r,NE,g6,g7,k',r1',m1',r2',m2',re',me',rc',mc',c1,aj,cn,List.contains_nil,F.r7,hwl',hrw',mrw',cw0',ce,Ig,aG,e7,k7,gc7,k8,wp2]
    refine ih' n1 _ _ (by omega) (by simp only[AG,Nat.reduceEqDiff,ag']) ⟨(p.1,p.2+1), .slice (some ⟨h'.next+1,0,some 2⟩) (acc.length+1) (acc.length+1),acc++[p],at0.inner hend,by simp only[aa,Nat.reduceEqDiff,↓reduceIte,g6],by simp only[aa,Nat.reduceEqDiff,↓reduceIte],am _ _ _,?_,by simp;omega,hres,?_⟩
    ·rw[List.flatMap_append,List.length_append]
     refine SL.keep (l:=acc.flatMap bV++bV p) q7 fun b hb=> ?_
     simp[ay]at hb;subst hb
     rw[Heap.get_set_ne _ _ (by omega)]
    ·refine⟨k8,by simp;omega,fun j hj hne=> ?_⟩
     rw[Heap.get_set_ne _ _ hne,g7' j (by omega) (fun hb=>by have:=(so1.blk_lt k' hb).1;omega),gz (by omega)]
     exact gr.get j hj hne
  ·have c1:decide ((p.1:Int)<(e.1:Int))=false:=decide_eq_false (by omega)
   by_cases h2:p.1=e.1/\ p.2<e.2
   ·have c2:((p.1:Int)==(e.1:Int))=true:=by simp[h2.1]
    have c3:decide ((p.2:Int)<(e.2:Int))=true:=decide_eq_true (by omega)
    have hgo:mM e p=true:=by unfold mM;simp[h2.1,h2.2]
    obtain⟨n1,en,hpw⟩:=at0.pos eOK hgo
    subst en
    unfold LSheet.stepG at hres
    rw[if_pos hgo]at hres
    obtain⟨w',hw'⟩: ∃w',S.words[p.1]? =some w':=⟨_,List.getElem?_eq_getElem hpw⟩
    have elw':=LSheet.lenW_at hw'
    obtain⟨bw',ow',sw',cww',roww',sv',cuv',e1',hrw',hwl',ls',_,cw0',_⟩:=WX fh' hw'
    simp only[Value.slice.injEq,Option.some.injEq,Addr.mk.injEq]at e1'
    obtain⟨⟨rfl,rfl,rfl⟩,_,rfl⟩:=e1'
    obtain⟨ps',cs',rfl⟩:=ls'.len
    have mrw':=af k' hrw'
    have cn:=pK k' (p.1:Int) (xs:=[]) (.inl ⟨rfl,none,0,rfl⟩:LS h' (.slice none 0 0) ([]:List Int) aQ 1) (by simp)
    have i6:=S.lenW_le f p.1
    have i4:=f.nw
    have hpi:=at0.i
    have ep2:(p.2:Int)+1=((p.2+1:Nat):Int):=by omega
    have wp2:IntKind.i64.wrap ((p.2:Int)+1)=((p.2+1:Nat):Int):=by rw[bG (by omega) (by omega)];omega
    have wp1:IntKind.i64.wrap ((p.1:Int)+1)=((p.1+1:Nat):Int):=by rw[bG (by omega) (by omega)];omega
    by_cases hend:p.2=S.lenW p.1
    ·have ce:((p.2:Int)==(w'.signs.length:Int))=true:=by rw[elw']at hend;simp[hend]
     have wz:IntKind.i64.wrap ((-1:Int)+1)=((0:Nat):Int):=by decide
     rw[if_pos hend]at hres
     simp(maxDischargeDepth:=30)only[AA,↓reduceIte,Q1,Q2,Q3,Q4,reduceCtorEq,Q5,Q6,Q7,XH,iK,ag'.r,ag.r,NE,g6,g7,k',r1',m1',r2',m2',re',me',rc',mc',c1,c2,c3,aj,cn,List.contains_nil,F.r7,hwl',hrw',mrw',cw0',ce,wp1,wz]
     exact ih' n1 _ _ (by omega) (by simp only[AG,Nat.reduceEqDiff,ag']) ⟨(p.1+1,0),vo1,acc,at0.next hend,by simp only[aa,Nat.reduceEqDiff,↓reduceIte],by simp only[aa,Nat.reduceEqDiff,↓reduceIte],gc,so1,by omega,hres,gr⟩
    ·have ce:((p.2:Int)==(w'.signs.length:Int))=false:=by rw[elw']at hend;simp;omega
     rw[if_neg hend]at hres
     have f6:=aI [.row [.int .i64 p.1, .int .i64 p.2] 2 true] (Fr.refl k')
     have n6:(h'.ex [.row [.int .i64 p.1, .int .i64 p.2] 2 true]).next=h'.next+1:=by rw[bc];rfl
     obtain⟨h7,e7,q7,k7,n7,g7'⟩:=dI (ts:=[]) DZ (N:=h4.next) f6.ok (by omega) (by omega) (so1.fr k' f6) (x:= .slice (some ⟨h'.next,0,some 2⟩) 1 1) (m:=0) (new:=bV p) rfl (by
      show ae (rowAt _ h'.next) (fun cells=>aA cells 0 ((0+1)*2))=_
      rw[aZ rfl];rfl) rfl rfl (by omega)
     rw[n6]at e7 q7 n7 g7'
     simp only[XH,aG,Nat.zero_add]at e7 q7
     have nb1:ay vo1≠some h3.next:=fun hb=>by have:=(so1.blk_lt k' hb).1;omega
     have gc7:h7.get h3.next=some (.row [vo1, .bool dash] 0 true):=by rw[g7' _ (by omega) nb1,gz (by omega)];exact gc
     have k8:=k7.set (i:=h3.next) (by omega) (.row [.slice (some ⟨h'.next+1,0,some 2⟩) (acc.length+1) (acc.length+1), .bool dash] 0 true)
     obtain⟨po1,co1,rfl⟩:=so1.value
     simp(maxDischargeDepth:=30)only[AA,↓reduceIte,Q1,Q2,Q3,Q4,reduceCtorEq,Q5,Q6,Q7,XH,iK,ag'.r,ag.r,NE,g6,g7,k',r1',m1',r2',m2',re',me',rc',mc',c1,c2,c3,aj,cn,List.contains_nil,F.r7,hwl',hrw',mrw',cw0',ce,Ig,aG,e7,k7,gc7,k8,wp2]
     refine ih' n1 _ _ (by omega) (by simp only[AG,Nat.reduceEqDiff,ag']) ⟨(p.1,p.2+1), .slice (some ⟨h'.next+1,0,some 2⟩) (acc.length+1) (acc.length+1),acc++[p],at0.inner hend,by simp only[aa,Nat.reduceEqDiff,↓reduceIte,g6],by simp only[aa,Nat.reduceEqDiff,↓reduceIte],am _ _ _,?_,by simp;omega,hres,?_⟩
     ·rw[List.flatMap_append,List.length_append]
      refine SL.keep (l:=acc.flatMap bV++bV p) q7 fun b hb=> ?_
      simp[ay]at hb;subst hb
      rw[Heap.get_set_ne _ _ (by omega)]
     ·refine⟨k8,by simp;omega,fun j hj hne=> ?_⟩
      rw[Heap.get_set_ne _ _ hne,g7' j (by omega) (fun hb=>by have:=(so1.blk_lt k' hb).1;omega),gz (by omega)]
      exact gr.get j hj hne
   ·have hgo:mM e p=false:=by
     unfold mM
     simp only[Bool.or_eq_false_iff,Bool.and_eq_false_iff,decide_eq_false_iff_not]
     omega
    have er:S.stepG e n p acc=(acc,p):=by
     cases n with
     |zero=>rfl
     |succ n=>unfold LSheet.stepG;rw[hgo];rfl
    rw[er]at hres
    subst hres
    have ov1:jx vo1=true:=by obtain⟨po1,co1,e⟩:=so1.value;rw[e];rfl
    have f6:=aI [.row [vo1, .bool dash] 2 true] (Fr.refl k')
    have n6:(h'.ex [.row [vo1, .bool dash] 2 true]).next=h'.next+1:=by rw[bc];rfl
    have so':=so.fr f2.ok f2'
    obtain⟨h7,e7,q7,k7,n7,g7'⟩:=dI (ts:=[]) TU (N:=H.next) f6.ok (by omega) (by omega) (so'.fr k' f6) (x:= .slice (some ⟨h'.next,0,some 2⟩) 1 1) (m:=0) (new:=Bp (vo1,dash)) rfl (by
     show ae (rowAt _ h'.next) (fun cells=>aA cells 0 ((0+1)*2))=_
     rw[aZ rfl];rfl) (by simp[Bp,da,ov1,ja];rfl) rfl (by omega)
    rw[n6]at e7 q7 n7 g7'
    simp only[XH,aG,Nat.zero_add]at e7 q7
    have f7:Fr H h7:=⟨k7,by omega,fun j hj=>by rw[g7' j (by omega) (fun e=>by have:=(so.blk_lt f2.ok e).1;omega),gz (by omega)];exact fHH.get j hj⟩
    have lr7:LR (Kx h.next) h7 (us++[(vo1,dash)]) (L++[(acc,dash)]):=by
     refine⟨by simp[lr.1],fun j x y hx' hy'=> ?_⟩
     by_cases hj:j<us.length
     ·rw[List.getElem?_append_left hj]at hx'
      rw[List.getElem?_append_left (by rw[<-lr.1];exact hj)]at hy'
      have a:=lr.2 j x y hx' hy'
      refine⟨SL.keep (SL.fr a.1 f2.ok f2') fun b hb=> ?_,a.2⟩
      have hbl:=(SL.blk_lt a.1 f2.ok hb).2
      rw[g7' b (by omega) (nd x (List.mem_of_getElem? hx') b hb),gz (by omega)]
     ·rw[List.getElem?_append_right (by omega)]at hx'
      rw[List.getElem?_append_right (by rw[<-lr.1];omega)]at hy'
      have:j -us.length=0:=by
       cases e:j -us.length with
       |zero=>rfl
       |succ n=>rw[e]at hx';simp at hx'
      rw[this]at hx'
      rw[show j -L.length=0 by rw[<-lr.1];exact this]at hy'
      simp at hx' hy'
      subst hx';subst hy'
      refine⟨SL.keep (so1.weak (by omega)) fun b hb=> ?_,rfl⟩
      have hbl:=so1.blk_lt k' hb
      rw[g7' b (by omega) (fun e=>by have:=(so.blk_lt f2.ok e).2;omega),gz (by omega)]
    have nd7: ∀x,x∈us++[(vo1,dash)] -> ∀b,ay x.1=some b ->ay (.slice (some ⟨h'.next+1,0,some 2⟩) (us.length+1) (us.length+1))≠some b:=by
     intro x hx' b hb
     have hbl:b<h'.next:=by
      rcases List.mem_append.1 hx' with hx'|hx'
      ·obtain⟨j,hj⟩:=List.mem_iff_getElem?.1 hx'
       obtain⟨y,hy',a⟩:=lr.get' hj
       have:=(SL.blk_lt a.1 f2.ok hb).2
       omega
      ·simp at hx';subst hx';exact(so1.blk_lt k' hb).2
     simp[ay];omega
    have q7':SL H.next h7 (.slice (some ⟨h'.next+1,0,some 2⟩) (us.length+1) (us.length+1)) ((us++[(vo1,dash)]).flatMap Bp) 2 (us++[(vo1,dash)]).length:=by
     rw[List.flatMap_append,List.length_append];exact q7
    obtain⟨po,co,rfl⟩:=so.value
    obtain⟨po1,co1,rfl⟩:=so1.value
    by_cases h3':p.1=e.1
    ·have c2:((p.1:Int)==(e.1:Int))=true:=by simp[h3']
     have c3:decide ((p.2:Int)<(e.2:Int))=false:=decide_eq_false (by omega)
     simp(maxDischargeDepth:=30)only[AA,↓reduceIte,Q1,Q2,Q3,Q4,reduceCtorEq,Q5,Q6,Q7,XH,iK,ag'.r,ag.r,g6,g7,k',r1',m1',r2',m2',re',me',rc',mc',g5,c1,c2,c3,aj,LF,aG,e7,k7,bp hi (by omega),NE,g14]
     refine ih _ _ (by simp only[AG,Nat.reduceEqDiff];exact ag'.thru rfl (by simp only[AG,Nat.reduceEqDiff,ag])) (by simp only[aa,↓reduceIte]) ⟨p, .slice (some ⟨h'.next+1,0,some 2⟩) (us.length+1) (us.length+1),us++[(_,dash)],at2,by simp only[aa,Nat.reduceEqDiff,↓reduceIte,g6],by simp only[aa,Nat.reduceEqDiff,↓reduceIte,g7],by simp only[aa,Nat.reduceEqDiff,↓reduceIte],q7',by simp[ul],⟨_,lr7,eL2⟩,nd7,f7⟩
    ·have c2:((p.1:Int)==(e.1:Int))=false:=by simp;omega
     simp(maxDischargeDepth:=30)only[AA,↓reduceIte,Q1,Q2,Q3,Q4,reduceCtorEq,Q5,Q6,Q7,XH,iK,ag'.r,ag.r,g6,g7,k',r1',m1',r2',m2',re',me',rc',mc',g5,c1,c2,aj,LF,aG,e7,k7,bp hi (by omega),NE,g14]
     refine ih _ _ (by simp only[AG,Nat.reduceEqDiff];exact ag'.thru rfl (by simp only[AG,Nat.reduceEqDiff,ag])) (by simp only[aa,↓reduceIte]) ⟨p, .slice (some ⟨h'.next+1,0,some 2⟩) (us.length+1) (us.length+1),us++[(_,dash)],at2,by simp only[aa,Nat.reduceEqDiff,↓reduceIte,g6],by simp only[aa,Nat.reduceEqDiff,↓reduceIte,g7],by simp only[aa,Nat.reduceEqDiff,↓reduceIte],q7',by simp[ul],⟨_,lr7,eL2⟩,nd7,f7⟩
 ·rintro g h2 ag g14 ⟨p,vo,us,at0,g6,g7,g5,so,ul,⟨L,lr,eL⟩,nd,f2⟩
  have e0:S.linesG es (0,0)=L:=by rw[eL,List.drop_length];simp[LSheet.linesG]
  have nh:=f1.next
  obtain⟨po,co,rfl⟩:=so.value
  simp(maxDischargeDepth:=30)only[AA,↓reduceIte,Q1,Q2,Q3,Q4,reduceCtorEq,Q5,Q6,Q7,XH,iK,ag.r,NE,g14,g5,f2.ok,dL]
  exact⟨⟨us,so.weak nh,by rw[e0];exact lr⟩,f1.trans f2⟩
end Go.Am

namespace Go.Am
open Go Go.Proofs
def wC:=A2 @QY<|A2 @sJ<|A2 @wO @sr
def ma:=A2 @WG<|A2 @DI<|A2 @iH<|A2 @Ls<|A2 @Ri<|A2 @jq<|A2 @cS<|A2 @Jw<|A2 @tJ<|A2 @VP<|A2 @Yo<|A2 @G2<|A2 @Gq<|A2 @qN<|A2 @Gp<|A2 @O2<|A2 @zn<|A2 @FE<|A2 @Ab @Aa
def CB:=A2 @Gp<|A2 @PI<|A2 @sJ<|A2 @wO<|A2 @Aa<|A2 @N5 @sr
theorem WY (v:Value):gW CC (.iface 322 v) 322 true=some (.tuple ⟨[v, .bool true]⟩):=by kernel_rfl
set_option maxRecDepth 10000 in
theorem vy (p:Nat) (h:Heap) (hk:HOK h): ∃v h',eo CC (bH CC) 261 [.pointer (some ⟨p,0,none⟩)] h none=some (.ret v h' none)/\ h'=h:=by
 refine nI Tryz.f261 (Q:=fun _ h'=>h'=h) (by kernel_rfl) rfl rfl ?_
 simp only[Tryz.f261]
 simp(maxDischargeDepth:=30)only[AA,↓reduceIte,Q1,Q2,Q3,Q4,reduceCtorEq,Q5,Q6,Q7,XH,CB,hk,uJ,EQ,kc]
set_option maxRecDepth 10000 in
theorem tw (p:Nat) (i:Int) (y:Value) (h:Heap) (hk:HOK h) (hp:h.get p=some (.row [y] 0 true)):
  ∃v h',eo CC (bH CC) 261 [.pointer (some ⟨p,0,none⟩)] h (some (.iface 322 (.agg ⟨[.int .i64 i]⟩)))=some (.ret v h' none)/\
   rowAt h' p=some [.int .i64 5]/\ HOK h'/\ h.next<=h'.next/\ ∀j,j<h.next ->j≠p ->h'.get j=h.get j:=by
 have ml:=aF hk hp
 refine nI Tryz.f261 (Q:=fun _ h'=>rowAt h' p=some [.int .i64 5]/\ HOK h'/\ h.next<=h'.next/\ ∀j,j<h.next ->j≠p ->h'.get j=h.get j) (by kernel_rfl) rfl rfl ?_
 simp only[Tryz.f261]
 have f1:=aI [.row [.int .i64 i] 0 true] (Fr.refl hk)
 have p1:=f1.get' hk hp
 simp(maxDischargeDepth:=30)only[AA,↓reduceIte,Q1,Q2,Q3,Q4,reduceCtorEq,Q5,Q6,Q7,XH,CB,hk,yu,JV,WY]
 generalize(h.ex [.row [.int .i64 i] 0 true])=h1 at f1 p1⊢
 have n1:=f1.next
 simp(maxDischargeDepth:=30)only[AA,↓reduceIte,Q1,Q2,Q3,Q4,reduceCtorEq,Q5,Q6,Q7,XH,CB,f1.ok,p1,List.set_cons_zero,kc]
 refine⟨trivial,f1.ok.set (by omega) _,by omega,fun j hj a=> ?_⟩
 rw[Heap.get_set_ne _ _ a];exact f1.get j hj
set_option maxRecDepth 10000 in
theorem NH {g:FuncId} {caps:List Value} {P R:Heap ->Prop} {X:Nat ->Prop} {h:Heap} (hk:HOK h) (hX: ∀i,X i ->i<h.next)
  (hP: ∀h1 h',P h1 ->HOK h' ->h1.next<=h'.next ->(∀j,(∀x,h1.get j=some (.row x 0 true) ->j≠h.next) ->h'.get j=h1.get j) ->P h')
  (hg: ∀h1,Fr h h1 ->CX CC g caps h1 (fun _ h'=>P h'/\ Gr X h1 h') fun e h'=>(R h1/\ ∃i:Int,e= .iface 322 (.agg ⟨[.int .i64 i]⟩))/\ Gr X h1 h'):
  CW CC 207 [.func (.func g) ⟨[]⟩ ⟨caps⟩] h fun r h'=>((P h'/\ r= .int .i64 0) \/((∃h1,R h1)/\ r= .int .i64 5))/\ Gr X h h':=by
 have key:W (bH CC none [.code Tryz.f207.body.get!] ⟨T 6 (jt [.func (.func g) ⟨[]⟩ ⟨caps⟩]),[],none⟩ h) fun r s h'=>
   s.defers=[{target:= .fn (.func 261) ⟨[.pointer (some ⟨h.next,0,none⟩)]⟩,args:=⟨[]⟩}]/\ s.pan=none/\ (∃f,s.tmps=T 6 f/\ f 2= .pointer (some ⟨h.next,0,none⟩))/\
   h'.get h.next=some (.row [.int .i64 0] 0 true)/\ Gr X h h'/\
   ((r= .ended (some .ret)/\ P h') \/ ∃i:Int,r= .panic (.iface 322 (.agg ⟨[.int .i64 i]⟩))/\ ∃h1,R h1):=by
  simp only[Tryz.f207,Option.get!]
  have f0:=aI [.row [.int .i64 0] 0 true] (Fr.refl hk)
  have z1:(h.ex [.row [.int .i64 0] 0 true]).get h.next=some (.row [.int .i64 0] 0 true):=dG rfl
  have n0:(h.ex [.row [.int .i64 0] 0 true]).next=h.next+1:=by rw[bc];rfl
  simp(maxDischargeDepth:=30)only[AA,↓reduceIte,Q1,Q2,Q3,Q4,reduceCtorEq,Q5,Q6,Q7,XH,wC,hk,Fu,yq,ff]
  generalize(h.ex [.row [.int .i64 0] 0 true])=h1 at f0 z1 n0⊢
  refine tu (hg h1 f0) ?_ ?_
  ·rintro v h2 ⟨p0,gr⟩
   have y1:=gr.get' f0.ok (fun hx=>by have:=hX _ hx;omega) z1
   have l2:=aF gr.ok y1
   simp(maxDischargeDepth:=30)only[AA,↓reduceIte,Q1,Q2,Q3,Q4,reduceCtorEq,Q5,Q6,Q7,XH,wC,gr.ok,y1,List.set_cons_zero]
   refine⟨trivial,trivial,⟨_,rfl,by simp[aa]⟩,trivial,?_, .inl ⟨trivial,?_⟩⟩
   ·refine⟨gr.ok.set l2 _,by have:=gr.next;simp;omega,fun i hi hn=> ?_⟩
    rw[Heap.get_set_ne _ _ (by omega),gr.get i (by omega) hn];exact f0.get i hi
   ·refine hP h2 _ p0 (gr.ok.set l2 _) (by simp) fun j hj=>Heap.get_set_ne _ _ ?_
    rintro rfl
    exact hj _ y1 rfl
  ·rintro e h2 ⟨⟨hr,i,rfl⟩,gr⟩
   have y1:=gr.get' f0.ok (fun hx=>by have:=hX _ hx;omega) z1
   exact⟨rfl,rfl,⟨_,rfl,by simp[aa]⟩,y1,⟨gr.ok,by have:=gr.next;omega,fun i hi hn=>by rw[gr.get i (by omega) hn];exact f0.get i hi⟩, .inr ⟨i,rfl,_,hr⟩⟩
 obtain⟨r,s,h1,e,hd,hp,⟨f,ht,f2⟩,z1,gr,hc⟩:=key
 have l1:=aF gr.ok z1
 rcases hc with⟨rfl,p0⟩|⟨i,rfl,hr0⟩
 ·obtain⟨v,h2,e2,rfl⟩:=vy h.next h1 gr.ok
  have w1:rowAt h2 h.next=some [.int .i64 0]:=by unfold rowAt;rw[z1];rfl
  have hr:aR CC s.tmps h2 Tryz.f207.results.toList=some [.int .i64 0]:=by
   rw[ht];simp only[Tryz.f207];simp(maxDischargeDepth:=30)only[AA,↓reduceIte,Q1,Q2,Q3,Q4,reduceCtorEq,Q5,Q6,Q7,wC,f2,w1]
  exact⟨_,h2,jf (fn:=Tryz.f207) (c:=Tryz.f207.body.get!) (by kernel_rfl) (by kernel_rfl) rfl rfl e rfl hd hp (by kernel_rfl) e2 hr, .inl ⟨p0,rfl⟩,gr⟩
 ·obtain⟨v,h2,e2,w1,k2,n2,g2⟩:=tw h.next i (.int .i64 0) h1 gr.ok z1
  have hr:aR CC s.tmps h2 Tryz.f207.results.toList=some [.int .i64 5]:=by
   rw[ht];simp only[Tryz.f207];simp(maxDischargeDepth:=30)only[AA,↓reduceIte,Q1,Q2,Q3,Q4,reduceCtorEq,Q5,Q6,Q7,wC,f2,w1]
  refine⟨_,h2,jf (fn:=Tryz.f207) (c:=Tryz.f207.body.get!) (by kernel_rfl) (by kernel_rfl) rfl rfl e rfl hd hp (by kernel_rfl) e2 hr, .inr ⟨hr0,rfl⟩,k2,by have:=gr.next;omega,fun j hj hn=> ?_⟩
  rw[g2 j (by have:=gr.next;omega) (by omega)]
  exact gr.get j hj hn
def LSheet.lineOK (S:LSheet) (s:Int) (l:List (Nat×Nat)×Bool):Bool:= !(decide (S.wideP s l.1 l.2>S.wide))
def LSheet.fitsL (S:LSheet) (es:List (Nat×Nat)) (s:Int):Bool:=(S.linesG es (0,0)).all (S.lineOK s)
def LSheet.fitsP (S:LSheet) (es:List (Nat×Nat)) (s:Int):Bool:=decide ((es.length:Int)<=S.rows)&&S.fitsL es s
set_option maxRecDepth 10000 in
set_option maxHeartbeats 2000000 in
theorem Wi {h:Heap} (hk:HOK h) (hp:0<h.next) {u:LetV} {S:LSheet} {m:Nat} (q:IsLet h u S) (qm:HasP S h m) (f:S.Fine) {ev:Value} {es:List (Nat×Nat)} (he:LS h ev es bV 2) (hE: ∀e∈es,S.EndOK e) (hn:es.length<=100) {s:Int} (hs:0<=s/\ s<=10) {a b c:Nat} (ra:rowAt h a=some (S.frontC u m)) (rb:rowAt h b=some (vb ev)) (rc:rowAt h c=some [.int .i64 s]):
  CX CC 208 [.pointer (some ⟨a,0,none⟩), .pointer (some ⟨b,0,none⟩), .pointer (some ⟨c,0,none⟩)] h (fun _ h'=>S.fitsL es s=true/\ Fr h h') fun e h'=>(S.fitsL es s=false/\ ∃i:Int,e= .iface 322 (.agg ⟨[.int .i64 i]⟩))/\ Fr h h':=by
 obtain⟨pw,cw,pp,cp,pd,cd,F,ew,ed,_⟩:=q.front m
 have LX:=VN hk hp (m:=m) q f he hE hn
 have WX:=fun {h':Heap} (g:Fr h h') {v:Value} {l:List (Nat×Nat)} (hv:LS h' v l bV 2) (hl: ∀p∈l,S.SpotOK p) (hn:l.length<=500) (dash:Bool)=>XN g.ok (Nat.lt_of_lt_of_le hp g.next) (m:=m) (q.fr hk g) (qm.fr hk g) f hv hl hn dash hs
 obtain⟨R,hR⟩: ∃R,R=S.frontC u m:=⟨_,rfl⟩
 rw[<-hR]at F LX WX ra
 have lOK:=LSheet.linesG_ok es (0,0) hE (LSheet.At.start f)
 have lln:=S.linesG_len es (0,0)
 obtain⟨pv,cv,rfl⟩:=he.len
 simp only[vb]at rb LX
 have na:=af hk ra
 have nb:=af hk rb
 have nc:=af hk rc
 refine CG Tryz.f208 (by kernel_rfl) (by kernel_rfl) rfl rfl ?_
 simp only[Tryz.f208]
 have t2:aA [Value.slice none 0 0,Value.slice pv es.length cv] 0 2=some [Value.slice none 0 0,Value.slice pv es.length cv]:=rfl
 simp(maxDischargeDepth:=30)only[AA,↓reduceIte,Q1,Q2,Q3,Q4,reduceCtorEq,Q5,Q6,Q7,XH,ma,hk,ra,rb,F.ra,na,nb]
 refine aC LX ?_
 rintro r h2 ⟨⟨us,so,lr⟩,f2⟩
 have ul:us.length=es.length:=by rw[lr.1,lln]
 have sl:=SL.ls QX so
 obtain⟨pr,cr,rfl,hx⟩:=sl.open
 have ra2:=f2.row' hk ra
 have rb2:=f2.row' hk rb
 have rc2:=f2.row' hk rc
 have ns: ∀i l,(S.linesG es (0,0))[i]? =some l ->S.lineOK s l=false ->S.fitsL es s=false:=fun i l hi e=>by
  unfold LSheet.fitsL;rw[List.all_eq_false];exact⟨l,List.mem_of_getElem? hi,by rw[e];simp⟩
 simp(maxDischargeDepth:=30)only[AA,↓reduceIte,Q1,Q2,Q3,Q4,reduceCtorEq,Q5,Q6,Q7,XH,ma,f2.ok]
 refine dN [3,4,9,10,11,12,13,14,15,16,17,18,19,20,21,22,23,24,25] 9 us.length (fun i g h'=>Fr h2 h'/\ ∀j l,j<i ->(S.linesG es (0,0))[j]? =some l ->S.lineOK s l=true) (by simp only[aa,↓reduceIte]) ⟨Fr.refl f2.ok,fun j l hj=>by omega⟩ ?_ ?_
 ·rintro i g h3 hi ag g9 ⟨f3,hall⟩ ih
  obtain⟨x,gx⟩: ∃x,us[i]? =some x:=⟨_,List.getElem?_eq_getElem hi⟩
  obtain⟨l,gl,il⟩:=lr.get' gx
  obtain⟨xv,xd⟩:=x
  obtain⟨ix,ed'⟩:=il
  simp only at ix ed'
  subst ed'
  obtain⟨px,cx,rfl⟩:=SL.value ix
  rcases hx with hx|⟨bb,o,sp,row,rfl,hr,hy⟩
  ·rw[hx]at hi;simp at hi
  have ct:=(hy i _ gx).1
  simp only[Bp]at ct
  have hr3:=f3.row' f2.ok hr
  have mr3:=af f3.ok hr3
  have ra3:=f3.row' f2.ok ra2
  have rb3:=f3.row' f2.ok rb2
  have rc3:=f3.row' f2.ok rc2
  have na3:=af f3.ok ra3
  have nb3:=af f3.ok rb3
  have nc3:=af f3.ok rc3
  have f23:=f2.trans f3
  have lo:=lOK l (List.mem_of_getElem? gl)
  have f4:=aI [.row [.slice px l.1.length cx, .bool l.2] 0 true] (Fr.refl f3.ok)
  have rx:rowAt (h3.ex [.row [.slice px l.1.length cx, .bool l.2] 0 true]) h3.next=some [.slice px l.1.length cx, .bool l.2]:=aZ rfl
  simp(maxDischargeDepth:=30)only[AA,↓reduceIte,Q1,Q2,Q3,Q4,reduceCtorEq,Q5,Q6,Q7,XH,ma,ag.r,NE,g9,f3.ok,cX hi,hi,hr3,mr3,ct]
  generalize(h3.ex [.row [.slice px l.1.length cx, .bool l.2] 0 true])=h4 at f4 rx⊢
  have ra4:=f4.row' f3.ok ra3
  have rc4:=f4.row' f3.ok rc3
  have na4:=af f4.ok ra4
  have nc4:=af f4.ok rc4
  have nx4:=af f4.ok rx
  have f24:=f23.trans f4
  have W1:=WX f24 (SL.ls fN ((SL.fr ix f2.ok f3).fr f3.ok f4)) lo.1 (by omega) l.2
  refine bR [(true,0),(true,1),(true,2),(true,4),(true,5),(true,6),(true,3),(false,6),(true,7)] (by kernel_rfl) ?_
  simp(maxDischargeDepth:=30)only[AA,↓reduceIte,Q1,Q2,Q3,Q4,reduceCtorEq,Q5,Q6,Q7,dk,XH,ma,ag.r,NE,g9,f4.ok,ra4,rc4,na4,nc4,nx4,rx,F.ra,F.r8]
  refine bk W1 ?_
  rintro _ h5 ⟨rfl,f5⟩
  have ra5:=f5.row' f4.ok ra4
  have rc5:=f5.row' f4.ok rc4
  have rx5:=f5.row' f4.ok rx
  have na5:=af f5.ok ra5
  have nc5:=af f5.ok rc5
  have nx5:=af f5.ok rx5
  have FF:=f3.trans (f4.trans f5)
  cases z:decide (S.wideP s l.1 l.2>S.wide)with
  |true=>
   simp(maxDischargeDepth:=30)only[AA,↓reduceIte,Q1,Q2,Q3,Q4,reduceCtorEq,Q5,Q6,Q7,dk,XH,ma,ag.r,NE,g9,f5.ok,ra5,rc5,na5,nc5,nx5,rx5,F.ra,F.r8,F.sf,z,tv,la,eJ]
   exact⟨⟨ns i l gl (by unfold LSheet.lineOK;rw[z];rfl),_,rfl⟩,f2.trans FF⟩
  |false=>
   simp(maxDischargeDepth:=30)only[AA,↓reduceIte,Q1,Q2,Q3,Q4,reduceCtorEq,Q5,Q6,Q7,dk,XH,ma,ag.r,NE,g9,f5.ok,ra5,rc5,na5,nc5,nx5,rx5,F.ra,F.r8,F.sf,z,bp hi (by omega)]
   refine ih _ _ (by simp only[AG,Nat.reduceEqDiff,ag]) (by simp only[aa,↓reduceIte]) ⟨FF,fun j l' hj hl'=> ?_⟩
   by_cases hji:j<i
   ·exact hall j l' hji hl'
   ·obtain rfl:j=i:=by omega
    rw[gl]at hl';simp at hl';subst hl'
    unfold LSheet.lineOK;rw[z];rfl
 ·rintro g h3 ag g9 ⟨f3,hall⟩
  have e:S.fitsL es s=true:=by
   unfold LSheet.fitsL;rw[List.all_eq_true]
   intro l hl
   obtain⟨j,hj⟩:=List.mem_iff_getElem?.1 hl
   exact hall j l (by have:=(List.getElem?_eq_some_iff.1 hj).1;rw[ul];omega) hj
  simp(maxDischargeDepth:=30)only[AA,↓reduceIte,Q1,Q2,Q3,Q4,reduceCtorEq,Q5,Q6,Q7,XH,ma,ag.r,NE,g9,f3.ok,dL,jg]
  exact⟨e,f2.trans f3⟩
end Go.Am

namespace Go.Am
open Go Go.Proofs
def wK:=A2 @iH<|A2 @EJ<|A2 @mC<|A2 @cS<|A2 @vz @pk
set_option maxRecDepth 10000 in
set_option maxHeartbeats 2000000 in
theorem Tc {h:Heap} (hk:HOK h) (hp:0<h.next) {u:LetV} {S:LSheet} {m:Nat} (q:IsLet h u S) (qm:HasP S h m) (f:S.Fine) {ev:Value} {es:List (Nat×Nat)} (he:LS h ev es bV 2) (hE: ∀e∈es,S.EndOK e) (hn:es.length<=100) {s:Int} (hs:0<=s/\ s<=10):
  CW CC 111 [.agg ⟨S.frontC u m⟩, .agg ⟨vb ev⟩, .int .i64 s] h fun r h'=>r= .bool (S.fitsP es s)/\ Fr h h':=by
 obtain⟨pw,cw,pp,cp,pd,cd,F,ew,ed,_⟩:=q.front m
 have FX:=fun {h':Heap} (g:Fr h h') {a b c:Nat} (ra:rowAt h' a=some (S.frontC u m)) (rb:rowAt h' b=some (vb ev)) (rc:rowAt h' c=some [.int .i64 s])=>Wi g.ok (Nat.lt_of_lt_of_le hp g.next) (q.fr hk g) (qm.fr hk g) f (he.fr hk g) hE hn hs ra rb rc
 obtain⟨R,hR⟩: ∃R,R=S.frontC u m:=⟨_,rfl⟩
 rw[<-hR]at F FX⊢
 obtain⟨pv,cv,rfl⟩:=he.len
 simp only[vb]at FX⊢
 refine aw Tryz.f111 (by kernel_rfl) (by kernel_rfl) rfl rfl ?_
 simp only[Tryz.f111]
 have f1:=aI [.row R 0 true, .row [.slice none 0 0, .slice pv es.length cv] 0 true, .row [.int .i64 s] 0 true] (Fr.refl hk)
 have r1:rowAt (h.ex [.row R 0 true, .row [.slice none 0 0, .slice pv es.length cv] 0 true, .row [.int .i64 s] 0 true]) h.next=some R:=aZ rfl
 have r2:rowAt (h.ex [.row R 0 true, .row [.slice none 0 0, .slice pv es.length cv] 0 true, .row [.int .i64 s] 0 true]) (h.next+1)=some [.slice none 0 0, .slice pv es.length cv]:=by rw[jy rfl (by simp)];rfl
 have r3:rowAt (h.ex [.row R 0 true, .row [.slice none 0 0, .slice pv es.length cv] 0 true, .row [.int .i64 s] 0 true]) (h.next+2)=some [.int .i64 s]:=by rw[jy rfl (by simp)];rfl
 unfold LSheet.fitsP
 cases z:decide ((es.length:Int)<=S.rows)with
 |false=>
  simp(maxDischargeDepth:=30)only[AA,↓reduceIte,Q1,Q2,Q3,Q4,reduceCtorEq,Q5,Q6,Q7,XH,wK,hk,F.ro,F.rl,F.r9,z,aj]
  exact⟨by simp,f1⟩
 |true=>
  simp(maxDischargeDepth:=30)only[AA,↓reduceIte,Q1,Q2,Q3,Q4,reduceCtorEq,Q5,Q6,Q7,XH,wK,hk,F.ro,F.rl,F.r9,z,aj]
  generalize(h.ex [.row R 0 true, .row [.slice none 0 0, .slice pv es.length cv] 0 true, .row [.int .i64 s] 0 true])=H at f1 r1 r2 r3⊢
  refine aC (NH (P:=fun _=>S.fitsL es s=true) (R:=fun _=>S.fitsL es s=false) (X:=fun _=>False) f1.ok (fun i hi=>hi.elim) (fun _ _ h _ _ _=>h) (fun h2 f2=> ?_)) ?_
  ·have:=FX (f1.trans f2) (f2.row' f1.ok r1) (f2.row' f1.ok r2) (f2.row' f1.ok r3)
   rcases this with⟨v,h3,e,hf,f3⟩|⟨v,h3,e,hf,f3⟩
   ·exact .inl ⟨v,h3,e,hf,f3.gr⟩
   ·exact .inr ⟨v,h3,e,hf,f3.gr⟩
  rintro r h2 ⟨hr,gr⟩
  have f2:Fr H h2:=⟨gr.ok,gr.next,fun i hi=>gr.get i hi (fun h=>h)⟩
  rcases hr with⟨e,rfl⟩|⟨⟨_,e⟩,rfl⟩
  ·rw[e]
   simp(maxDischargeDepth:=30)only[AA,↓reduceIte,Q1,Q2,Q3,Q4,reduceCtorEq,Q5,Q6,Q7,XH,wK,f2.ok]
   exact⟨by simp,f1.trans f2⟩
  ·rw[e]
   simp(maxDischargeDepth:=30)only[AA,↓reduceIte,Q1,Q2,Q3,Q4,reduceCtorEq,Q5,Q6,Q7,XH,wK,f2.ok,show((5:Int)==0)=false from rfl]
   exact⟨by simp,f1.trans f2⟩
def LSheet.stretchN (S:LSheet) (es:List (Nat×Nat)):Nat ->Int
 |0=> -1
 |n+1=>if S.fitsP es n=true then n else S.stretchN es n
def LSheet.stretchP (S:LSheet) (es:List (Nat×Nat)):Int:=S.stretchN es 11
set_option maxRecDepth 10000 in
set_option maxHeartbeats 2000000 in
theorem wR {h:Heap} (hk:HOK h) (hp:0<h.next) {u:LetV} {S:LSheet} {m:Nat} (q:IsLet h u S) (qm:HasP S h m) (f:S.Fine) {ev:Value} {es:List (Nat×Nat)} (he:LS h ev es bV 2) (hE: ∀e∈es,S.EndOK e) (hn:es.length<=100):
  CW CC 39 [.agg ⟨S.frontC u m⟩, .agg ⟨vb ev⟩] h fun r h'=>r= .int .i64 (S.stretchP es)/\ Fr h h':=by
 obtain⟨pw,cw,pp,cp,pd,cd,F,ew,ed,_⟩:=q.front m
 have FX:=fun {h':Heap} (g:Fr h h') {s:Int} (hs:0<=s/\ s<=10)=>Tc g.ok (Nat.lt_of_lt_of_le hp g.next) (q.fr hk g) (qm.fr hk g) f (he.fr hk g) hE hn hs
 obtain⟨R,hR⟩: ∃R,R=S.frontC u m:=⟨_,rfl⟩
 rw[<-hR]at F FX⊢
 obtain⟨pv,cv,rfl⟩:=he.len
 simp only[vb]at FX⊢
 have t2:aA [Value.slice none 0 0,Value.slice pv es.length cv] 0 2=some [Value.slice none 0 0,Value.slice pv es.length cv]:=rfl
 refine aw Tryz.f39 (by kernel_rfl) (by kernel_rfl) rfl rfl ?_
 simp only[Tryz.f39]
 have f1:=aI [.row R 0 true, .row [.slice none 0 0, .slice pv es.length cv] 0 true] (Fr.refl hk)
 have r1:rowAt (h.ex [.row R 0 true, .row [.slice none 0 0, .slice pv es.length cv] 0 true]) h.next=some R:=aZ rfl
 have r2:rowAt (h.ex [.row R 0 true, .row [.slice none 0 0, .slice pv es.length cv] 0 true]) (h.next+1)=some [.slice none 0 0, .slice pv es.length cv]:=by rw[jy rfl (by simp)];rfl
 simp(maxDischargeDepth:=30)only[AA,↓reduceIte,Q1,Q2,Q3,Q4,reduceCtorEq,Q5,Q6,Q7,XH,jq,tJ,hk,F.ro,F.rl]
 generalize(h.ex [.row R 0 true, .row [.slice none 0 0, .slice pv es.length cv] 0 true])=H at f1 r1 r2⊢
 refine Kr [5,6,7,8,9,10,11,12,13,14,15,16] 11 (fun n g h'=>n<=11/\ g 5= .int .i64 ((n:Int) -1)/\ S.stretchN es n=S.stretchP es/\ Fr H h') ⟨Nat.le_refl _,by simp only[aa,Nat.reduceEqDiff,↓reduceIte];rfl,rfl,Fr.refl f1.ok⟩ ?_
 rintro n g h2 ag ⟨n11,g5,es0,f2⟩ ih
 have ra:=f2.row' f1.ok r1
 have rb:=f2.row' f1.ok r2
 have na:=af f2.ok ra
 have nb:=af f2.ok rb
 have fh2:=f1.trans f2
 cases n with
 |zero=>
  have z:decide (((0:Nat):Int) -1>=0)=false:=rfl
  simp(maxDischargeDepth:=30)only[AA,↓reduceIte,Q1,Q2,Q3,Q4,reduceCtorEq,Q5,Q6,Q7,XH,jq,tJ,ag.r,NE,g5,f2.ok,z,aj]
  refine⟨?_,fh2⟩
  rw[<-es0];rfl
 |succ n=>
  have en:(((n+1:Nat):Int) -1)=(n:Int):=by omega
  rw[en]at g5
  have z:decide ((n:Int)>=0)=true:=decide_eq_true (by omega)
  have wn:IntKind.i64.wrap ((n:Int) -1)=(n:Int) -1:=bG (by omega) (by omega)
  simp(maxDischargeDepth:=30)only[AA,↓reduceIte,Q1,Q2,Q3,Q4,reduceCtorEq,Q5,Q6,Q7,XH,jq,tJ,ag.r,NE,g5,f2.ok,z,aj,ra,rb,na,nb,F.ra]
  refine aC (FX fh2 (s:=n) (by omega)) ?_
  rintro _ h3 ⟨rfl,f3⟩
  unfold LSheet.stretchN at es0
  cases y:S.fitsP es n with
  |true=>
   rw[y,if_pos rfl]at es0
   simp(maxDischargeDepth:=30)only[AA,↓reduceIte,Q1,Q2,Q3,Q4,reduceCtorEq,Q5,Q6,Q7,XH,jq,tJ,ag.r,NE,g5,f3.ok,aj]
   exact⟨by rw[es0],fh2.trans f3⟩
  |false=>
   rw[y,if_neg (by simp)]at es0
   simp(maxDischargeDepth:=30)only[AA,↓reduceIte,Q1,Q2,Q3,Q4,reduceCtorEq,Q5,Q6,Q7,XH,jq,tJ,ag.r,NE,g5,f3.ok,aj,wn]
   exact ih n _ _ (by omega) (by simp only[AG,Nat.reduceEqDiff,ag]) ⟨by omega,by simp only[aa,Nat.reduceEqDiff,↓reduceIte],es0,f2.trans f3⟩
end Go.Am

namespace Go.Am
open Go Go.Proofs
def pZ:=A2 @mC<|A2 @jq<|A2 @vz<|A2 @tJ @pk
def LSheet.betterP (S:LSheet) (a b:List (Nat×Nat)):Bool:=decide ((a.length:Int)<b.length)||(((a.length:Int)==b.length)&&decide (S.stretchP a>S.stretchP b))
set_option maxRecDepth 10000 in
set_option maxHeartbeats 2000000 in
theorem TG {h:Heap} (hk:HOK h) (hp:0<h.next) {u:LetV} {S:LSheet} {m:Nat} (q:IsLet h u S) (qm:HasP S h m) (f:S.Fine) {ev dv:Value} {es ds:List (Nat×Nat)} (he:LS h ev es bV 2) (hE: ∀e∈es,S.EndOK e) (hn:es.length<=100) (hd:LS h dv ds bV 2) (hD: ∀e∈ds,S.EndOK e) (dn:ds.length<=100) {a:Nat} (ra:rowAt h a=some (S.frontC u m)):
  CW CC 38 [.agg ⟨vb ev⟩, .agg ⟨vb dv⟩, .pointer (some ⟨a,0,none⟩)] h fun r h'=>r= .bool (S.betterP es ds)/\ Fr h h':=by
 obtain⟨pw,cw,pp,cp,pd,cd,F,ew,ed,_⟩:=q.front m
 have X1:=fun {h':Heap} (g:Fr h h')=>wR g.ok (Nat.lt_of_lt_of_le hp g.next) (q.fr hk g) (qm.fr hk g) f (he.fr hk g) hE hn
 have X2:=fun {h':Heap} (g:Fr h h')=>wR g.ok (Nat.lt_of_lt_of_le hp g.next) (q.fr hk g) (qm.fr hk g) f (hd.fr hk g) hD dn
 obtain⟨R,hR⟩: ∃R,R=S.frontC u m:=⟨_,rfl⟩
 rw[<-hR]at F X1 X2 ra
 obtain⟨pv,cv,rfl⟩:=he.len
 obtain⟨pu,cu,rfl⟩:=hd.len
 simp only[vb]at X1 X2⊢
 have t2: ∀x:Value,aA [Value.slice none 0 0,x] 0 2=some [Value.slice none 0 0,x]:=fun _=>rfl
 have na:=af hk ra
 refine aw Tryz.f38 (by kernel_rfl) (by kernel_rfl) rfl rfl ?_
 simp only[Tryz.f38]
 have f1:=aI [.row [.slice none 0 0, .slice pv es.length cv] 0 true, .row [.slice none 0 0, .slice pu ds.length cu] 0 true] (Fr.refl hk)
 have r1:rowAt (h.ex [.row [.slice none 0 0, .slice pv es.length cv] 0 true, .row [.slice none 0 0, .slice pu ds.length cu] 0 true]) h.next=some [.slice none 0 0, .slice pv es.length cv]:=aZ rfl
 have r2:rowAt (h.ex [.row [.slice none 0 0, .slice pv es.length cv] 0 true, .row [.slice none 0 0, .slice pu ds.length cu] 0 true]) (h.next+1)=some [.slice none 0 0, .slice pu ds.length cu]:=by rw[jy rfl (by simp)];rfl
 simp(maxDischargeDepth:=30)only[AA,↓reduceIte,Q1,Q2,Q3,Q4,reduceCtorEq,Q5,Q6,Q7,XH,pZ,hk]
 generalize(h.ex [.row [.slice none 0 0, .slice pv es.length cv] 0 true, .row [.slice none 0 0, .slice pu ds.length cu] 0 true])=H at f1 r1 r2⊢
 have r3:=f1.row' hk ra
 have m1:=af f1.ok r1
 have m2:=af f1.ok r2
 have m3:=af f1.ok r3
 refine bR [(true,0),(true,1),(true,2),(true,3),(true,4),(true,5),(true,6),(true,7)] (by kernel_rfl) ?_
 simp(maxDischargeDepth:=30)only[AA,↓reduceIte,Q1,Q2,Q3,Q4,reduceCtorEq,Q5,Q6,Q7,dk,XH,pZ,f1.ok,r1,r2,m1,m2]
 refine bR [(true,0),(true,1),(true,2),(true,3),(true,4),(true,5),(true,6),(true,7),(true,8),(true,9),(true,11),(true,12),(true,10),(false,11),(false,12),(true,13),(true,14),(true,15),(true,16),(true,17)] (by kernel_rfl) ?_
 unfold LSheet.betterP
 cases c1:decide ((es.length:Int)<(ds.length:Int))with
 |true=>
  simp(maxDischargeDepth:=30)only[AA,↓reduceIte,Q1,Q2,Q3,Q4,reduceCtorEq,Q5,Q6,Q7,dk,XH,pZ,f1.ok,c1,aj]
  exact⟨by simp,f1⟩
 |false=>
 cases c2:((es.length:Int)==(ds.length:Int))with
 |false=>
  simp(maxDischargeDepth:=30)only[AA,↓reduceIte,Q1,Q2,Q3,Q4,reduceCtorEq,Q5,Q6,Q7,dk,XH,pZ,f1.ok,c1,c2,aj]
  exact⟨by simp,f1⟩
 |true=>
  simp(maxDischargeDepth:=30)only[AA,↓reduceIte,Q1,Q2,Q3,Q4,reduceCtorEq,Q5,Q6,Q7,dk,XH,pZ,f1.ok,c1,c2,aj,r1,r2,r3,m1,m2,m3,F.ra]
  refine bk (X1 f1) ?_
  rintro _ h4 ⟨rfl,f4⟩
  have r14:=f4.row' f1.ok r1
  have r24:=f4.row' f1.ok r2
  have r34:=f4.row' f1.ok r3
  have m14:=af f4.ok r14
  have m24:=af f4.ok r24
  have m34:=af f4.ok r34
  simp(maxDischargeDepth:=30)only[AA,↓reduceIte,Q1,Q2,Q3,Q4,reduceCtorEq,Q5,Q6,Q7,dk,XH,pZ,f4.ok,c1,c2,aj,r14,r24,r34,m14,m24,m34,F.ra,F.sf]
  refine bk (X2 (f1.trans f4)) ?_
  rintro _ h5 ⟨rfl,f5⟩
  have r15:=f5.row' f4.ok r14
  have r25:=f5.row' f4.ok r24
  have r35:=f5.row' f4.ok r34
  have m15:=af f5.ok r15
  have m25:=af f5.ok r25
  have m35:=af f5.ok r35
  simp(maxDischargeDepth:=30)only[AA,↓reduceIte,Q1,Q2,Q3,Q4,reduceCtorEq,Q5,Q6,Q7,dk,XH,pZ,f5.ok,c1,c2,aj,r15,r25,r35,m15,m25,m35,F.ra,F.sf]
  exact⟨by simp,(f1.trans f4).trans f5⟩
def kK (u:Value):List Value:=[.slice none 0 0,u]
theorem P5 (u:Value):(kK u).length=2:=rfl
def oz (N:Nat) (h:Heap) (u:Value) (l:List (Nat×Nat)):Prop:=SL N h u (l.flatMap bV) 2 l.length
def LSheet.bestS (S:LSheet):List (List (Nat×Nat)) ->List (Nat×Nat) ->List (Nat×Nat)
 |[],b=>b
 |x::l,b=>S.bestS l (if S.betterP x b=true then x else b)
theorem LSheet.bestS_snoc (S:LSheet): ∀(l:List (List (Nat×Nat))) (b x:List (Nat×Nat)),S.bestS (l++[x]) b=if S.betterP x (S.bestS l b)=true then x else S.bestS l b
 |[],b,x=>rfl
 |y::l,b,x=>S.bestS_snoc l _ x
theorem LSheet.bestS_mem (S:LSheet): ∀(l:List (List (Nat×Nat))) (b:List (Nat×Nat)),S.bestS l b=b \/S.bestS l b∈l
 |[],b=> .inl rfl
 |y::l,b=>by
  rcases S.bestS_mem l (if S.betterP y b=true then y else b)with h|h
  ·by_cases e:S.betterP y b=true
   ·right;show S.bestS l _∈_;rw[h,if_pos e];simp
   ·left;show S.bestS l _=_;rw[h,if_neg e]
  ·right;show S.bestS l _∈_;simp[h]
end Go.Am
