/- Parts V97, V98, V99, V100, V101 of the abstract machine over this program, joined: what each part says stands at its head. -/
import Derived.Test.YtlflfbnnjlkkcaaGreatJV93
set_option linter.unusedSimpArgs false
set_option linter.unusedVariables false
set_option linter.defProp false
open Nat renaming reduceLT→Q1,reduceEqDiff→Q2,reduceAdd→Q3,reduceMul→Q4,reduceLeDiff→Q5
open Int renaming reduceNe→Q6,reduceEq→Q7
namespace Go.Am
open Go Go.Proofs
def wm:=A2 @JC<|A2 @tJ<|A2 @Lb<|A2 @K0<|A2 @GC<|A2 @ia<|A2 @uV<|A2 @FS @jM
set_option maxRecDepth 10000 in
set_option maxHeartbeats 2000000 in
theorem NF {h:Heap} (hk:HOK h) (hp:0<h.next) {N:Nat} {u:LetV} {S:LSheet} {m:Nat} (q:IsLet h u S) (qm:HasP S h m) (f:S.Fine) {v:Value} {us:List Value} {x0:List (Nat×Nat)} {sets:List (List (Nat×Nat))} (hv:SL N h v (us.flatMap kK) 2 us.length) (lr:LR (oz N) h us (x0::sets))
  (hE: ∀l∈x0::sets,(∀e∈l,S.EndOK e)/\ l.length<=100) (hn:sets.length<=900) {a:Nat} (ra:rowAt h a=some (S.frontC u m)):
  CW CC 37 [v, .func (.func 38) ⟨[]⟩ ⟨[.pointer (some ⟨a,0,none⟩)]⟩] h fun r h'=>(∃ur,r= .agg ⟨kK ur⟩/\ oz N h' ur (S.bestS sets x0))/\ Fr h h':=by
 have BX:=fun {h':Heap} (g:Fr h h') {ev dv:Value} {es ds:List (Nat×Nat)} (he:LS h' ev es bV 2) (hE: ∀e∈es,S.EndOK e) (hn:es.length<=100) (hd:LS h' dv ds bV 2) (hD: ∀e∈ds,S.EndOK e) (dn:ds.length<=100)=>TG g.ok (Nat.lt_of_lt_of_le hp g.next) (q.fr hk g) (qm.fr hk g) f he hE hn hd hD dn (g.row' hk ra)
 simp only[vb]at BX
 have ul:=lr.1
 simp only[List.length_cons]at ul
 obtain⟨u0,h0⟩: ∃u0,us[0]? =some u0:=⟨_,List.getElem?_eq_getElem (by omega)⟩
 have i0:=lr.2 0 u0 x0 h0 rfl
 have hx:=SL.ls P5 hv
 rcases hv with⟨rfl,_,hz⟩|⟨b,rfl,b0,bN,gb,_⟩
 ·omega
 obtain⟨b1,rfl⟩: ∃b1,b=b1+1:=⟨b -1,by omega⟩
 obtain⟨_,_,e0,hx⟩:=hx.open
 simp only[Value.slice.injEq]at e0
 obtain⟨rfl,_,rfl⟩:=e0
 rcases hx with hx|⟨b',o,sp,row,e0,hr,hy⟩
 ·rw[hx]at ul;simp at ul
 simp only[Option.some.injEq,Addr.mk.injEq]at e0
 obtain⟨rfl,rfl,rfl⟩:=e0
 have c0:=(hy 0 _ h0).1
 obtain⟨p0,k0,rfl⟩:=SL.value i0
 simp only[kK,Nat.zero_mul,Nat.add_zero]at c0
 have mb:=af hk hr
 refine aw Tryz.f37 (by kernel_rfl) (by kernel_rfl) rfl rfl ?_
 simp only[Tryz.f37]
 have ix0: ∀(b o:Nat) (sp:Option Nat) (len cap:Nat) (hi:0<len),aD CC 116 (.slice (some ⟨b,o,sp⟩) len cap) (.int .i64 0)=some (.pointer (some ⟨b,o,none⟩)):=fun b o sp len cap hi=>by
  have:=JC b o sp len cap 0 hi
  simpa using this
 have esl:jb CC 116 (.slice (some ⟨b1+1,0,some 2⟩) us.length us.length) (some (.int .i64 1)) none none=some (.slice (some ⟨b1+1,2,eA 2 (some 2)⟩) sets.length sets.length):=by
  have:jb CC 116 (.slice (some ⟨b1+1,0,some 2⟩) us.length us.length) (some (.int .i64 ((1:Nat):Int))) none none=some (.slice (some ⟨b1+1,0+1*2,eA 2 (some 2)⟩) (us.length -1) (us.length -1)):=by
   rw[jK uV ia]
   unfold kG
   rw[Nat.ble_eq_true_of_le (Nat.le_refl _),aK]
   simp only[jJ,ot,nM,Nat.ble_eq_true_of_le (Nat.zero_le 1),Nat.ble_eq_true_of_le (show 1<=us.length by omega),Bool.and_self,aK,au,ib]
  rw[show us.length -1=sets.length by omega]at this
  exact this
 have f1:=aI [.row [.slice none 0 0, .slice none 0 0] 0 true, .row [.slice none 0 0, .slice p0 x0.length k0] 0 true] (Fr.refl hk)
 have g1:(h.ex [.row [.slice none 0 0, .slice none 0 0] 0 true, .row [.slice none 0 0, .slice p0 x0.length k0] 0 true]).get h.next=some (.row [.slice none 0 0, .slice none 0 0] 0 true):=dG rfl
 have g2:(h.ex [.row [.slice none 0 0, .slice none 0 0] 0 true, .row [.slice none 0 0, .slice p0 x0.length k0] 0 true]).get (h.next+1)=some (.row [.slice none 0 0, .slice p0 x0.length k0] 0 true):=by rw[jd rfl (by simp)];rfl
 have n1:(h.ex [.row [.slice none 0 0, .slice none 0 0] 0 true, .row [.slice none 0 0, .slice p0 x0.length k0] 0 true]).next=h.next+2:=by rw[bc];rfl
 simp(maxDischargeDepth:=30)only[AA,↓reduceIte,Q1,Q2,Q3,Q4,reduceCtorEq,Q5,Q6,Q7,XH,wm,hk,ix0 _ _ _ _ _ (show 0<us.length by omega),hr,mb,c0,Option.map_some,Option.map_none,esl]
 generalize(h.ex [.row [.slice none 0 0, .slice none 0 0] 0 true, .row [.slice none 0 0, .slice p0 x0.length k0] 0 true])=H at f1 g1 g2 n1⊢
 have t2: ∀x:Value,aA [Value.slice none 0 0,x] 0 2=some [Value.slice none 0 0,x]:=fun _=>rfl
 refine dN [7,14,15,16,17,18,19,20,21,22,23] 14 sets.length (fun i g h'=> ∃ub,h'.get (h.next+1)=some (.row [.slice none 0 0,ub] 0 true)/\ oz N h' ub (S.bestS (sets.take i) x0)/\ ay ub≠some (h.next+1)/\ (∀b,ay ub=some b ->b<h.next)/\ Gr (fun j=>j=h.next+1) H h') (by simp only[aa,↓reduceIte]) ⟨_,g2,SL.fr i0 hk f1,fun e=>by have:=(SL.blk_lt i0 hk e).2;omega,fun b hb=>(SL.blk_lt i0 hk hb).2,Gr.refl f1.ok⟩ ?_ ?_
 ·rintro i g h2 hi ag g14 ⟨ub,gu,iu,nu,lu,gr⟩ ih
  have k2:=gr.ok
  have n2:=gr.next
  have fh2:Fr h h2:=gr.fr f1 (fun j hj=>by omega)
  obtain⟨l,hl⟩: ∃l,sets[i]? =some l:=⟨_,List.getElem?_eq_getElem hi⟩
  obtain⟨x,gx⟩: ∃x,us[i+1]? =some x:=⟨_,List.getElem?_eq_getElem (by omega)⟩
  have ix:=lr.2 (i+1) x l gx (by simpa using hl)
  obtain⟨px,cx,rfl⟩:=SL.value ix
  have ct:=(hy _ _ gx).1
  rw[show 0+(i+1)*2=2+i*2 by omega]at ct
  simp only[kK]at ct
  have hr2:=fh2.row' hk hr
  have mr2:=af k2 hr2
  have ix2:oz N h2 (.slice px l.length cx) l:=SL.fr ix hk fh2
  have rb2:rowAt h2 (h.next+1)=some [.slice none 0 0,ub]:=by unfold rowAt;rw[gu];rfl
  have lb:=af k2 rb2
  obtain⟨pu,cu,eu⟩:=SL.value iu
  obtain⟨best,hbest⟩: ∃best,best=S.bestS (sets.take i) x0:=⟨_,rfl⟩
  rw[<-hbest]at eu iu
  subst eu
  have bOK:(∀e∈best,S.EndOK e)/\ best.length<=100:=by
   rcases S.bestS_mem (sets.take i) x0 with e|e
   ·rw[hbest,e];exact hE _ (by simp)
   ·rw[hbest];exact hE _ (List.mem_cons_of_mem _ (List.mem_of_mem_take e))
  have lOK:=hE l (List.mem_cons_of_mem _ (List.mem_of_getElem? hl))
  have f3:=aI [.row [.slice none 0 0, .slice px l.length cx] 0 true] (Fr.refl k2)
  have rx:rowAt (h2.ex [.row [.slice none 0 0, .slice px l.length cx] 0 true]) h2.next=some [.slice none 0 0, .slice px l.length cx]:=aZ rfl
  have g3:=f3.get' k2 gu
  have enext:S.bestS (sets.take (i+1)) x0=if S.betterP l best=true then l else best:=by rw[bI hl,S.bestS_snoc,<-hbest]
  simp(maxDischargeDepth:=30)only[AA,↓reduceIte,Q1,Q2,Q3,Q4,reduceCtorEq,Q5,Q6,Q7,XH,wm,ag.r,NE,g14,k2,cX hi,hi,hr2,mr2,ct,rb2,lb]
  generalize(h2.ex [.row [.slice none 0 0, .slice px l.length cx] 0 true])=h3 at f3 rx g3⊢
  refine aC (BX (fh2.trans f3) (SL.ls fN (SL.fr ix2 k2 f3)) lOK.1 lOK.2 (SL.ls fN (SL.fr iu k2 f3)) bOK.1 bOK.2) ?_
  rintro _ h4 ⟨rfl,f4⟩
  have rx4:=f4.row' f3.ok rx
  have g4:=f4.get' f3.ok g3
  have m4:=aF f4.ok g4
  have f24:=f3.trans f4
  have n4:=f24.next
  cases z:S.betterP l best with
  |false=>
   rw[z,if_neg (by simp)]at enext
   simp(maxDischargeDepth:=30)only[AA,↓reduceIte,Q1,Q2,Q3,Q4,reduceCtorEq,Q5,Q6,Q7,XH,wm,ag.r,NE,g14,f4.ok,bp hi (by omega)]
   refine ih _ _ (by simp only[AG,Nat.reduceEqDiff,ag]) (by simp only[aa,↓reduceIte]) ⟨_,g4,by rw[enext];exact SL.fr iu k2 f24,nu,lu,gr.trans' f24.gr (fun j hj=> .inl hj)⟩
  |true=>
   rw[z,if_pos rfl]at enext
   have k5:=f4.ok.set m4 (.row [.slice none 0 0, .slice px l.length cx] 0 true)
   simp(maxDischargeDepth:=30)only[AA,↓reduceIte,Q1,Q2,Q3,Q4,reduceCtorEq,Q5,Q6,Q7,XH,wm,ag.r,NE,g14,f4.ok,rx4,g4,k5,bp hi (by omega)]
   refine ih _ _ (by simp only[AG,Nat.reduceEqDiff,ag]) (by simp only[aa,↓reduceIte]) ⟨_,am _ _ _,?_,fun e=> ?_,fun b hb=>(SL.blk_lt ix hk hb).2,?_⟩
   ·rw[enext]
    exact SL.keep (SL.fr ix2 k2 f24) fun b hb=>Heap.get_set_ne _ _ (by have:=(SL.blk_lt ix hk hb).2;omega)
   ·have:=(SL.blk_lt ix hk e).2;omega
   ·refine⟨k5,by simp;omega,fun j hj hn=> ?_⟩
    rw[Heap.get_set_ne _ _ hn,f24.get j (by omega)];exact gr.get j hj hn
 ·rintro g h2 ag g14 ⟨ub,gu,iu,nu,lu,gr⟩
  have k2:=gr.ok
  have n2:=gr.next
  have fh2:Fr h h2:=gr.fr f1 (fun j hj=>by omega)
  have rb2:rowAt h2 (h.next+1)=some [.slice none 0 0,ub]:=by unfold rowAt;rw[gu];rfl
  have g12:h2.get h.next=some (.row [.slice none 0 0, .slice none 0 0] 0 true):=by rw[gr.get _ (by omega) (by omega)];exact g1
  obtain⟨pu,cu,eu⟩:=SL.value iu
  rw[List.take_length]at eu iu
  subst eu
  simp(maxDischargeDepth:=30)only[AA,↓reduceIte,Q1,Q2,Q3,Q4,reduceCtorEq,Q5,Q6,Q7,XH,wm,ag.r,NE,g14,k2,dL,rb2,g12]
  refine⟨⟨_,rfl,SL.keep iu fun b hb=>Heap.get_set_ne _ _ (by have:=lu b hb;omega)⟩,fh2.set (Nat.le_refl _) (by omega) _⟩
end Go.Am

namespace Go.Am
open Go Go.Proofs
def sb:=A2 @WI<|A2 @xB<|A2 @xz<|A2 @pI<|A2 @pC<|A2 @zF<|A2 @cG<|A2 @tO<|A2 @Dy<|A2 @cM<|A2 @Bx<|A2 @cS<|A2 @cA<|A2 @Bu<|A2 @bJ<|A2 @nK<|A2 @jS<|A2 @aV<|A2 @jR<|A2 @ba<|A2 @iG<|A2 @sI<|A2 @gv<|A2 @O6<|A2 @O5<|A2 @bm<|A2 @ji<|A2 @lv<|A2 @bh<|A2 @jN<|A2 @Ad @sq
theorem LQ:AppT CC 56 56 2:=qE (by kernel_rfl)
theorem Ke (a b:Value):bn CC 56 1 [(0, .agg ⟨[a,b]⟩)]=some (.new (.row [a,b] 2 true) (aG 2 1 1)):=by kernel_rfl
def LSheet.endsW (S:LSheet) (w:Nat):List (Nat×Nat):=match S.words[w]? with
 |some x=>(x.cuts.map fun c=>(w,c.toNat))++[(w,x.signs.length)]
 |none=>[]
def LSheet.endsP (S:LSheet):List (Nat×Nat):=(List.range S.words.length).flatMap S.endsW
theorem LSheet.endsW_ok {S:LSheet} (f:S.Fine) {w:Nat}:(∀e∈S.endsW w,S.EndOK e)/\ (S.endsW w).length<=6:=by
 unfold LSheet.endsW
 split
 ·next x hx=>
  have a:=f.word (List.mem_of_getElem? hx)
  have hl:=(List.getElem?_eq_some_iff.1 hx).1
  refine⟨fun e he=> ?_,by simp;omega⟩
  rcases List.mem_append.1 he with h|h
  ·obtain⟨c,hc,rfl⟩:=List.mem_map.1 h
   obtain⟨i,hi⟩:=List.mem_iff_getElem?.1 hc
   have:=a.2.2.1 i c hi
   refine⟨hl,?_⟩
   rw[LSheet.lenW_at hx]
   show c.toNat<=_
   omega
  ·simp at h;subst h
   exact⟨hl,by rw[LSheet.lenW_at hx];exact Nat.le_refl _⟩
 ·exact⟨fun e he=>by simp at he,by simp⟩
theorem LSheet.endsP_ok {S:LSheet} (f:S.Fine):(∀e∈S.endsP,S.EndOK e)/\ S.endsP.length<=24:=by
 refine⟨fun e he=> ?_,?_⟩
 ·obtain⟨w,_,h⟩:=List.mem_flatMap.1 he
  exact(S.endsW_ok f).1 e h
 ·have:=sY S.endsW 6 (List.range S.words.length) fun w _=>(S.endsW_ok f).2
  rw[List.length_range]at this
  have:=f.nw
  unfold LSheet.endsP;omega
set_option maxRecDepth 10000 in
set_option maxHeartbeats 4000000 in
theorem Y4 {h:Heap} (hk:HOK h) (hp:0<h.next) {u:LetV} {S:LSheet} (q:IsLet h u S) (f:S.Fine):
  CW CC 204 [.agg ⟨S.cells u⟩, .slice none 0 0] h fun r h'=>SL h.next h' r (S.endsP.flatMap bV) 2 S.endsP.length/\ Fr h h':=by
 obtain⟨pd,cd,ed⟩:=q.len
 obtain⟨pw,cw,ew⟩:=q.w.len
 obtain⟨pp,cp,ep⟩:=q.pr.len
 have WX:=fun {h':Heap} (g:Fr h h') {i:Nat} {w:LWord} (hw:S.words[i]? =some w)=>(q.fr hk g).at hw
 obtain⟨R,hR⟩: ∃R,R=S.cells u:=⟨_,rfl⟩
 have R7:R[7]? =some (.slice pd S.words.length cd):=by rw[hR,LSheet.cells,ed];rfl
 have Rl:R.length=10:=by rw[hR];rfl
 have Ro:bF R=true:=by rw[hR,LSheet.cells,ew,ep,ed];rfl
 rw[<-hR]
 refine aw Tryz.f204 (by kernel_rfl) (by kernel_rfl) rfl rfl ?_
 simp only[Tryz.f204]
 have f1:=aI [.row R 0 true] (Fr.refl hk)
 have r1:rowAt (h.ex [.row R 0 true]) h.next=some R:=aZ rfl
 simp(maxDischargeDepth:=30)only[AA,↓reduceIte,Q1,Q2,Q3,Q4,reduceCtorEq,Q5,Q6,Q7,XH,sb,hk,Ro,Rl,R7]
 generalize(h.ex [.row R 0 true])=H at f1 r1⊢
 have m1:=af f1.ok r1
 have nH:=f1.next
 have i4:=f.nw
 have app: ∀{g:Heap} {acc:List (Nat×Nat)} {vo:Value} (e:Nat×Nat),Fr H g ->acc.length<=1000 ->SL H.next g vo (acc.flatMap bV) 2 acc.length -> ∃h4,ck CC [56,56] vo (.slice (some ⟨g.next,0,some 2⟩) 1 1) (g.ex [.row [.int .i64 e.1, .int .i64 e.2] 2 true])=some (.slice (some ⟨g.next+1,0,some 2⟩) (acc.length+1) (acc.length+1),h4)/\
   SL H.next h4 (.slice (some ⟨g.next+1,0,some 2⟩) (acc.length+1) (acc.length+1)) ((acc++[e]).flatMap bV) 2 (acc++[e]).length/\ Fr H h4:=by
  intro g acc vo e f3 hc so3
  have f6:=aI [.row [.int .i64 e.1, .int .i64 e.2] 2 true] (Fr.refl f3.ok)
  have n6:(g.ex [.row [.int .i64 e.1, .int .i64 e.2] 2 true]).next=g.next+1:=by rw[bc];rfl
  have nf:=f3.next
  obtain⟨hC,eC,qC,kC,nC,gC⟩:=dI (ts:=[]) LQ (N:=H.next) f6.ok (by omega) (by omega) (so3.fr f3.ok f6) (x:= .slice (some ⟨g.next,0,some 2⟩) 1 1) (m:=0) (new:=bV e) rfl (by
   show ae (rowAt _ g.next) (fun cells=>aA cells 0 ((0+1)*2))=_
   rw[aZ rfl];rfl) rfl rfl (by omega)
  rw[n6]at eC qC nC gC
  simp only[aG,Nat.zero_add]at eC qC
  refine⟨hC,eC,?_,kC,by omega,fun j hj=> ?_⟩
  ·rw[List.length_append,List.flatMap_append];exact qC
  ·rw[gC j (by omega) (fun e=>by have:=(so3.blk_lt f3.ok e).1;omega),gz (by omega)];exact f3.get j hj
 refine dN [5,6,8,12,13,14,15,16,17,18,19,20,21,22,23,24,25,26,27,28,29,30,31,32,33,34,35,36,37,38,39,40,41,42,43,44,45,46,47,48] 12 S.words.length (fun i g h'=> ∃vo,g 5=vo/\ SL H.next h' vo (((List.range i).flatMap S.endsW).flatMap bV) 2 ((List.range i).flatMap S.endsW).length/\ Fr H h') (by simp only[aa,↓reduceIte]) ⟨_,by simp only[aa,Nat.reduceEqDiff,↓reduceIte],SL.nil _ _ _,Fr.refl f1.ok⟩ ?_ ?_
 ·rintro i g h2 hi ag g12 ⟨vo,g5,so,f2⟩ ih
  have fh2:=f1.trans f2
  have r2:=f2.row' f1.ok r1
  have m2:=af f2.ok r2
  obtain⟨w,hw⟩: ∃w,S.words[i]? =some w:=⟨_,List.getElem?_eq_getElem hi⟩
  obtain⟨b,o,sp,c,row,sv,cv,e1,hr,hl,ls,lc,c0,c1,_⟩:=q.at hw
  rw[ed]at e1
  simp only[Value.slice.injEq]at e1
  obtain⟨rfl,_,rfl⟩:=e1
  obtain⟨ps,cs,rfl⟩:=ls.len
  obtain⟨pc,cc,rfl,hx⟩:=lc.open
  have hr2:=fh2.row' hk hr
  have mr:=af f2.ok hr2
  have fw:=f.word (List.mem_of_getElem? hw)
  have al:((List.range i).flatMap S.endsW).length<=100:=by
   have:=sY S.endsW 6 (List.range i) fun w _=>(S.endsW_ok f).2
   rw[List.length_range]at this;omega
  obtain⟨A,hA⟩: ∃A,A=(List.range i).flatMap S.endsW:=⟨_,rfl⟩
  rw[<-hA]at so al
  have cn:=pK f2.ok (i:Int) (xs:=[]) (.inl ⟨rfl,none,0,rfl⟩:LS h2 (.slice none 0 0) ([]:List Int) aQ 1) (by simp)
  simp(maxDischargeDepth:=30)only[AA,↓reduceIte,Q1,Q2,Q3,Q4,reduceCtorEq,Q5,Q6,Q7,XH,sb,ag.r,NE,g12,f2.ok,cX hi,hi,cn,List.contains_nil,r2,m2,R7,hr2,mr,c1]
  refine dN [5,8,25,26,27,28,29,30,31,32,33,34,35] 25 w.cuts.length (fun j g' h'=> ∃vo,g' 5=vo/\ SL H.next h' vo ((A++(w.cuts.take j).map fun c=>(i,c.toNat)).flatMap bV) 2 (A++(w.cuts.take j).map fun c=>(i,c.toNat)).length/\ Fr H h') (by simp only[aa,↓reduceIte]) ⟨vo,by simp only[aa,Nat.reduceEqDiff,↓reduceIte,g5],by simpa using so,f2⟩ ?_ ?_
  ·rintro j g' h3 hj ag' g25 ⟨vo3,g5',so3,f3⟩ ih'
   obtain⟨x,gx⟩: ∃x,w.cuts[j]? =some x:=⟨_,List.getElem?_eq_getElem hj⟩
   have xb:=fw.2.2.1 j x gx
   have ex:x=((x.toNat:Nat):Int):=by omega
   rcases hx with hx|⟨bb,oo,ss,rr,rfl,hrr,hy⟩
   ·rw[hx]at hj;simp at hj
   have cc1:rr[oo+j]? =some (.int .i64 ((x.toNat:Nat):Int)):=by
    have:=(hy _ x gx).2 0 (by omega)
    rw[<-ex];simpa[aQ]using this
   have hr3:=(f1.trans f3).row' hk hrr
   have mr3:=af f3.ok hr3
   obtain⟨h4,e4,q4,f4⟩:=app (i,x.toNat) f3 (by rw[List.length_append,List.length_map,List.length_take];omega) so3
   simp only at e4
   obtain⟨po,co,rfl⟩:=so3.value
   simp(maxDischargeDepth:=30)only[AA,↓reduceIte,Q1,Q2,Q3,Q4,reduceCtorEq,Q5,Q6,Q7,XH,sb,ag'.r,ag.r,NE,g25,g5',f3.ok,cX hj,hj,hr3,mr3,Nat.mul_one,cc1,Ke,aG,e4,f4.ok,bp hj (by omega)]
   refine ih' _ _ (by simp only[AG,Nat.reduceEqDiff,ag']) (by simp only[aa,↓reduceIte]) ⟨.slice (some ⟨h3.next+1,0,some 2⟩) ((A++(w.cuts.take j).map fun c=>(i,c.toNat)).length+1) ((A++(w.cuts.take j).map fun c=>(i,c.toNat)).length+1),by simp only[aa,Nat.reduceEqDiff,↓reduceIte],?_,f4⟩
   have et:(A++(w.cuts.take (j+1)).map fun c=>(i,c.toNat))=(A++(w.cuts.take j).map fun c=>(i,c.toNat))++[(i,x.toNat)]:=by rw[bI gx,List.map_append,<-List.append_assoc];rfl
   rw[et]
   exact q4
  ·rintro g' h3 ag' g25 ⟨vo3,g5',so3,f3⟩
   rw[List.take_length]at so3
   have fh3:=f1.trans f3
   have r3:=f3.row' f1.ok r1
   have m3:=af f3.ok r3
   have hr3:=fh3.row' hk hr
   have mr3:=af f3.ok hr3
   obtain⟨h4,e4,q4,f4⟩:=app (i,w.signs.length) f3 (by rw[List.length_append,List.length_map];omega) so3
   simp only at e4
   obtain⟨po,co,rfl⟩:=so3.value
   simp(maxDischargeDepth:=30)only[AA,↓reduceIte,Q1,Q2,Q3,Q4,reduceCtorEq,Q5,Q6,Q7,XH,sb,ag'.r,ag.r,NE,g12,g25,g5',f3.ok,dL,hi,r3,m3,R7,hr3,mr3,c0,Ke,aG,e4,f4.ok,bp hi (by omega)]
   have et:(List.range (i+1)).flatMap S.endsW=(A++w.cuts.map fun c=>(i,c.toNat))++[(i,w.signs.length)]:=by
    rw[List.range_succ,List.flatMap_append,<-hA,List.append_assoc]
    congr 1
    simp only[List.flatMap_cons,List.flatMap_nil,List.append_nil]
    unfold LSheet.endsW;rw[hw]
   refine ih _ _ (by simp only[AG,Nat.reduceEqDiff];exact ag'.thru rfl (by simp only[AG,Nat.reduceEqDiff,ag])) (by simp only[aa,↓reduceIte]) ⟨.slice (some ⟨h3.next+1,0,some 2⟩) ((A++w.cuts.map fun c=>(i,c.toNat)).length+1) ((A++w.cuts.map fun c=>(i,c.toNat)).length+1),by simp only[aa,Nat.reduceEqDiff,↓reduceIte],?_,f4⟩
   rw[et]
   exact q4
 ·rintro g h2 ag g12 ⟨vo,g5,so,f2⟩
  obtain⟨po,co,rfl⟩:=so.value
  simp(maxDischargeDepth:=30)only[AA,↓reduceIte,Q1,Q2,Q3,Q4,reduceCtorEq,Q5,Q6,Q7,XH,sb,ag.r,NE,g12,g5,f2.ok,dL]
  exact⟨so.weak nH,f1.trans f2⟩
end Go.Am

namespace Go.Am
open Go Go.Proofs
theorem Gf (p:Nat×Nat):bF (bV p)=true:=rfl
theorem clone_ends:CloneT 206 56 56 2:=by
 refine⟨fun n c h hk=> ?_,fun a n c h Q hk hQ=> ?_,qE (by kernel_rfl)⟩
 ·refine aw Tryz.f206 (by kernel_rfl) (by kernel_rfl) rfl rfl ?_
  simp only[Tryz.f206]
  simp(maxDischargeDepth:=30)only[AA,↓reduceIte,Q1,Q2,Q3,Q4,reduceCtorEq,Q5,Q6,Q7,XH,Dy,nK,iG,sI,lv,sq,hk,gT lv]
 ·obtain⟨v,h',e,k',q⟩:=hQ
  refine aw Tryz.f206 (by kernel_rfl) (by kernel_rfl) rfl rfl ?_
  simp only[Tryz.f206]
  simp(maxDischargeDepth:=30)only[AA,↓reduceIte,Q1,Q2,Q3,Q4,reduceCtorEq,Q5,Q6,Q7,XH,Dy,nK,iG,sI,lv,sq,hk,gQ lv,show bn CC 56 0 []=some (.new (.row [] 2 true) (aG 2 0 0))by kernel_rfl,e,k']
  exact q
def jz (rows:Nat):List (Nat×Nat) ->List (Nat×Nat) ->List (List (Nat×Nat))
 |[],_=>[]
 |e::es,now=>(if es=[]then[now++[e]]else if now.length+1<rows then jz rows es (now++[e])else[])++jz rows es now
def jZ (rows:Nat) (rest now:List (Nat×Nat)):List (List (Nat×Nat)):=if rest=[]then[now]else if now.length<rows then jz rows rest now else[]
theorem pj (rows:Nat) (e:Nat×Nat) (es now:List (Nat×Nat)):jz rows (e::es) now=jZ rows es (now++[e])++jz rows es now:=by
 show(if es=[]then[now++[e]]else if now.length+1<rows then jz rows es (now++[e])else[])++jz rows es now=_
 unfold jZ
 rw[List.length_append];rfl
theorem Bn (rows:Nat): ∀(rest now:List (Nat×Nat)) (r:Nat),now.length+(r+1)=rows ->(jz rows rest now).length<=rest.length ^ r
 |[],now,r,h=>by simp[jz]
 |e::es,now,r,h=>by
  have a:=Bn rows es now r h
  rw[pj,List.length_append,List.length_cons]
  have b:(jZ rows es (now++[e])).length<=if es=[]then 1 else if r=0 then 0 else es.length ^ (r -1):=by
   unfold jZ
   by_cases he:es=[]
   ·simp[he]
   ·rw[if_neg he,if_neg he]
    by_cases hr:r=0
    ·rw[if_neg (by simp;omega),if_pos hr];simp
    ·rw[if_pos (by simp;omega),if_neg hr]
     exact Bn rows es (now++[e]) (r -1) (by simp;omega)
  by_cases he:es=[]
  ·subst he
   rw[if_pos rfl]at b
   have:(jz rows [] now).length=0:=rfl
   have h1:(0+1) ^ r=1:=by simp
   simp only[List.length_nil]
   omega
  ·rw[if_neg he]at b
   have n1:1<=es.length:=by
    cases es with
    |nil=>exact absurd rfl he
    |cons _ _=>simp
   cases r with
   |zero=>
    rw[if_pos rfl]at b
    simp only[Nat.pow_zero]at a⊢
    omega
   |succ r=>
    rw[if_neg (by omega),Nat.add_sub_cancel]at b
    have c:es.length ^ r*(es.length+1)<=(es.length+1) ^ (r+1):=by
     rw[Nat.pow_succ]
     exact Nat.mul_le_mul_right _ (Nat.pow_le_pow_left (by omega) r)
    have d:es.length ^ (r+1)=es.length ^ r*es.length:=Nat.pow_succ ..
    rw[Nat.mul_add,Nat.mul_one]at c
    omega
theorem wU (rows:Nat) (P:Nat×Nat ->Prop): ∀(rest now:List (Nat×Nat)),(∀e∈rest,P e) ->(∀e∈now,P e) -> ∀l∈jz rows rest now,∀e∈l,P e
 |[],now,_,_,l,hl=>by simp[jz]at hl
 |e::es,now,hr,hn,l,hl=>by
  have hr': ∀x∈es,P x:=fun x hx=>hr x (by simp[hx])
  have hn': ∀x∈now++[e],P x:=fun x hx=>by
   rcases List.mem_append.1 hx with h|h
   ·exact hn x h
   ·simp at h;subst h;exact hr x (by simp)
  rw[pj]at hl
  rcases List.mem_append.1 hl with h|h
  ·unfold jZ at h
   split at h
   ·simp at h;subst h;exact hn'
   ·split at h
    ·exact wU rows P es _ hr' hn' l h
    ·simp at h
  ·exact wU rows P es now hr' hn l h
def LSheet.settings (S:LSheet):List (List (Nat×Nat)):=jZ S.rows.toNat S.endsP []
def LSheet.fitting (S:LSheet):List (List (Nat×Nat)):=S.settings.filter fun l=>S.fitsP l 0
def LSheet.setP (S:LSheet):List (Nat×Nat)×Int×Int:=if S.ok=false then([],0,2)else match S.fitting with
 |[]=>([],0,5)
 |x::l=>(S.bestS l x,S.stretchP (S.bestS l x),0)
theorem LSheet.settings_le {S:LSheet} (f:S.Fine):S.settings.length<=576:=by
 have h1:=f.rows
 have h2:=(S.endsP_ok f).2
 unfold LSheet.settings jZ
 split
 ·simp
 ·split
  ·have:=Bn S.rows.toNat S.endsP [] (S.rows.toNat -1) (by simp;omega)
   have h3:S.endsP.length ^ (S.rows.toNat -1)<=24 ^ (S.rows.toNat -1):=Nat.pow_le_pow_left h2 _
   have h4:24 ^ (S.rows.toNat -1)<=24 ^ 2:=Nat.pow_le_pow_right (by omega) (by omega)
   have:(24:Nat) ^ 2=576:=by decide
   omega
  ·simp
end Go.Am

namespace Go.Am
open Go Go.Proofs
def fh:=A2 @TF<|A2 @vO<|A2 @vN<|A2 @iH<|A2 @EJ<|A2 @Dy<|A2 @Rd<|A2 @cM<|A2 @cS<|A2 @YA<|A2 @Q9<|A2 @vz<|A2 @pk<|A2 @nK<|A2 @iG<|A2 @sI<|A2 @ia<|A2 @KR<|A2 @KQ<|A2 @lv<|A2 @sq @jM
def Uq (S:LSheet) (N:Nat) (h:Heap) (q:List (Nat×Nat)) (v:Value):Prop:=(∃u,v= .agg ⟨kK u⟩/\ SL N h u (q.flatMap bV) 2 q.length)/\ (∀e∈q,S.EndOK e)/\ q.length<=24
def BkS (v:Value) (i:Nat):Prop:= ∃u,v= .agg ⟨kK u⟩/\ ay u=some i
set_option maxRecDepth 10000 in
set_option maxHeartbeats 4000000 in
theorem Vt {S:LSheet} {R:List Value} {m:Nat} {pw pp pd:Option Addr} {cw cp cd:Nat} (F:FrontF S R m pw pp pd cw cp cd) (f:S.Fine) {E0:List (Nat×Nat)} (hE: ∀e∈E0,S.EndOK e) (hl0:E0.length<=24) {pE pB pT:Nat} {ev:Value} {h0:Heap} {Sx:List (List (Nat×Nat)) ->Heap ->Prop} {l MX:Nat} {g:GH (List (Nat×Nat))} (E:Eats (Uq S) BkS g.J Sx l h0 MX)
  (q1: ∀h,Gr g.F1 g.h1 h ->rowAt h pE=some [ev]/\ LS h ev E0 bV 2/\ rowAt h pB=some [.slice none 0 0]/\ rowAt h pT=some R) (f0:Fr h0 g.h1) (hF: ∀i,g.F1 i ->h0.next<=i) (hd:g.pN≠g.pY/\ g.pN≠g.pF) (hpE:pE<g.h1.next) (hY:g.vY= .func (.yield l) ⟨[]⟩ ⟨[]⟩)
  (hVF:g.vF= .func (.func 205) ⟨[]⟩ ⟨[.pointer (some ⟨pE,0,none⟩), .pointer (some ⟨g.pY,0,none⟩), .pointer (some ⟨pB,0,none⟩), .pointer (some ⟨g.pN,0,none⟩), .pointer (some ⟨pT,0,none⟩), .pointer (some ⟨g.pF,0,none⟩)]⟩):
  ∀(d:Nat) {F:Nat ->Prop} {D:List (List (Nat×Nat))} {now:List (Nat×Nat)} {k:Nat} {h:Heap},GQ bV 2 g F D now h ->now.length+d=S.rows.toNat ->k<=E0.length ->(∀e∈now,S.EndOK e) ->D.length+(jZ S.rows.toNat (E0.drop k) now).length<=MX ->
   CW CC 205 [.int .i64 k, .pointer (some ⟨pE,0,none⟩), .pointer (some ⟨g.pY,0,none⟩), .pointer (some ⟨pB,0,none⟩), .pointer (some ⟨g.pN,0,none⟩), .pointer (some ⟨pT,0,none⟩), .pointer (some ⟨g.pF,0,none⟩)] h fun r h'=>Gr g.F1 g.h1 h'/\ h.next<=h'.next/\
    ((r= .bool true/\ ∃F',GQ bV 2 g F' (D++jZ S.rows.toNat (E0.drop k) now) now h'/\ ∀i,F' i ->F i \/h.next<=i) \/(r= .bool false/\ ∃l1 l2,jZ S.rows.toNat (E0.drop k) now=l1++l2/\ Sx (D++l1) h')):=by
 have stay:=E.stay
 have low: ∀F D h,g.J F D h -> ∀i,F i ->i<h.next:=fun F D h j i hi=>(E.low F D h j i hi).2
 have rw3:=f.rows
 obtain⟨rwn,hrw⟩: ∃rwn:Nat,S.rows=rwn:=⟨S.rows.toNat,by omega⟩
 have hrt:S.rows.toNat=rwn:=by omega
 rw[hrt]
 intro d
 induction d using Nat.strongRecOn with
 |_ d IH=>
 intro F' D now k h q hnd hk0 hnow hMX
 have hk:=q.base.ok
 obtain⟨aE,lE,aB,aT⟩:=q1 h q.base
 obtain⟨pe,ce,rfl⟩:=lE.len
 have mE:=af hk aE
 have mB:=af hk aB
 obtain⟨v,e1,e2,e3⟩:=q.ex
 obtain⟨p,c,rfl,hL⟩:=e2.ls fN
 have rN:rowAt h g.pN=some [.slice p now.length c]:=by unfold rowAt;rw[e1];rfl
 have rY:rowAt h g.pY=some [.func (.yield l) ⟨[]⟩ ⟨[]⟩]:=by unfold rowAt;rw[q.rY,hY];rfl
 have nN:=af hk rN
 have nY:=af hk rY
 by_cases hke:k=E0.length
 ·have eb:((k:Int)==(E0.length:Int))=true:=by simp[hke]
  have es:jZ rwn (E0.drop k) now=[now]:=by rw[hke,List.drop_length];rfl
  rw[es]at hMX⊢
  refine aw Tryz.f205 (by kernel_rfl) (by kernel_rfl) rfl rfl ?_
  simp only[Tryz.f205]
  simp(maxDischargeDepth:=30)only[AA,↓reduceIte,Q1,Q2,Q3,Q4,reduceCtorEq,Q5,Q6,Q7,XH,fh,hk,aE,mE,eb]
  refine bR [(true,0),(true,1),(true,3),(true,2),(false,0),(false,3),(true,4),(false,0),(true,5),(true,6),(true,7)] (by kernel_rfl) ?_
  simp(maxDischargeDepth:=30)only[AA,↓reduceIte,Q1,Q2,Q3,Q4,reduceCtorEq,Q5,Q6,Q7,dk,XH,fh,hk,aB,mB,rY,nY,rN,nN]
  refine bk (clone_ints.nil 0 0 h hk) ?_
  rintro _ _ ⟨rfl,rfl⟩
  have sy:=mi l
  simp(maxDischargeDepth:=30)only[AA,↓reduceIte,Q1,Q2,Q3,Q4,reduceCtorEq,Q5,Q6,Q7,dk,XH,fh,hk,aB,mB,rY,nY,rN,nN,sy]
  refine bk (clone_ends.clone fN hk q.pos hL (fun x _=>Gf x) (by omega)) ?_
  rintro cv h2 ⟨hcv,_,f2⟩
  have rY2:=f2.row' hk rY
  have aB2:=f2.row' hk aB
  have rN2:=f2.row' hk rN
  have nY2:=af f2.ok rY2
  have ov:jx cv=true:=by obtain⟨a1,a2,a3⟩:=hcv.value;rw[a3];rfl
  obtain⟨b,h3,eY,base3,gr3,hb⟩:=q.yield E f2 f0 hF (v:= .agg ⟨kK cv⟩) (p:=now) ⟨⟨cv,rfl,hcv.low (by have:=f0.next;have:=q.base.next;omega)⟩,hnow,by omega⟩ (fun i hi=>by
   obtain⟨u',e,hb⟩:=hi
   simp[kK]at e
   subst e
   exact hcv.blk_lt f2.ok hb) (by simpa using hMX)
  simp only[kK]at eY
  obtain⟨pcv,ccv,rfl⟩:=hcv.value
  simp(maxDischargeDepth:=30)only[AA,↓reduceIte,Q1,Q2,Q3,Q4,reduceCtorEq,Q5,Q6,Q7,dk,XH,fh,f2.ok,rY2,aB2,rN2,nY2,sy,zQ,eY]
  refine⟨base3,Nat.le_trans f2.next gr3.next,?_⟩
  rcases hb with⟨rfl,F2,q',hs⟩|⟨rfl,hs⟩
  ·exact .inl ⟨rfl,F2,q',hs⟩
  ·exact .inr ⟨rfl,[now],[],rfl,hs⟩
 ·have eb:((k:Int)==(E0.length:Int))=false:=by simp;omega
  refine aw Tryz.f205 (by kernel_rfl) (by kernel_rfl) rfl rfl ?_
  simp only[Tryz.f205]
  simp(maxDischargeDepth:=30)only[AA,↓reduceIte,Q1,Q2,Q3,Q4,reduceCtorEq,Q5,Q6,Q7,XH,fh,hk,aE,mE,eb]
  have fl: ∀i,F' i ->i<h.next:=low _ _ _ q.j
  have hnw: ∀{e:Nat×Nat},e∈E0 -> ∀x∈now++[e],S.EndOK x:=fun {e} he x hx=>by
   rcases List.mem_append.1 hx with hx|hx
   ·exact hnow x hx
   ·simp at hx;subst hx;exact hE _ he
  have eset:jZ rwn (E0.drop k) now=if now.length<rwn then jz rwn (E0.drop k) now else[]:=by
   unfold jZ
   rw[if_neg (by intro e;have:=congrArg List.length e;simp at this;omega)]
  refine Kr [8,9,22,23,24,25,26,27,28,29,30,31,32,33,34,35,36,37,38,39,40,41,42,43,44,45,46,47,48,49,50,51,52] (E0.length -k) (fun n gg h'=> ∃(F2:Nat ->Prop) (j:Nat) (D2:List (List (Nat×Nat))),j+n=E0.length/\ gg 9= .int .i64 j/\ GQ bV 2 g F2 (D++D2) now h'/\ (∀i,F2 i ->F' i \/h.next<=i)/\ h.next<=h'.next/\ jZ rwn (E0.drop k) now=D2++if now.length<rwn then jz rwn (E0.drop j) now else[])
   ⟨F',k,[],by omega,by simp only[aa,Nat.reduceEqDiff,↓reduceIte],by simpa using q,fun i hi=> .inl hi,Nat.le_refl _,by rw[eset];rfl⟩ ?_
  clear aE lE aB aT mE mB e1 e2 e3 hL rN rY nN nY
  rintro n gg h' ag ⟨F2,j,D2,hj,g9,q',hs',hle,eD⟩ ih
  have k':=q'.base.ok
  obtain⟨aE,lE,aB,aT⟩:=q1 h' q'.base
  have mE:=af k' aE
  have mT:=af k' aT
  obtain⟨v,e1,e2,e3⟩:=q'.ex
  obtain⟨p,c,rfl,hL⟩:=e2.ls fN
  have rN:rowAt h' g.pN=some [.slice p now.length c]:=by unfold rowAt;rw[e1];rfl
  have nN:=af k' rN
  by_cases hjl:j<E0.length
  ·have c1:decide ((j:Int)<(E0.length:Int))=true:=decide_eq_true (by omega)
   by_cases hnl:now.length<rwn
   ·have c2:decide ((now.length:Int)<S.rows)=true:=decide_eq_true (by omega)
    simp(maxDischargeDepth:=30)only[AA,↓reduceIte,Q1,Q2,Q3,Q4,reduceCtorEq,Q5,Q6,Q7,XH,fh,ag.r,NE,g9,k',aE,mE,aT,mT,rN,nN,c1,c2,F.r9,aj]
    obtain⟨e,ge⟩: ∃e,E0[j]? =some e:=⟨_,List.getElem?_eq_getElem hjl⟩
    have em:=List.mem_of_getElem? ge
    obtain⟨_,_,ee,hx⟩:=lE.open
    simp only[Value.slice.injEq]at ee
    obtain⟨rfl,_,rfl⟩:=ee
    rcases hx with hx|⟨bb,o,sp,row,rfl,hr,hy⟩
    ·rw[hx]at hjl;simp at hjl
    have ct:=(hy j _ ge).1
    simp only[bV]at ct
    have mr:=af k' hr
    have pNl:=(q'.priv g.pN (by simp)).2 hd.1
    obtain⟨h3,ea,e3n,k3,n3,kp3,q3⟩:=q'.push stay low fN Gf (by omega) LQ hd e1 e (by omega)
    have ea2:ck CC [56,56] (.slice p now.length c) (.slice (some ⟨h'.next,0,some 2⟩) 1 1) (h'.ex [.row [.int .i64 e.1, .int .i64 e.2] 2 true])=some (.slice (some ⟨h'.next+1,0,some 2⟩) (now.length+1) (now.length+1),h3):=ea
    obtain⟨aE3,_,_,aT3⟩:=q1 _ q3.base
    have aE3':rowAt h3 pE=some [.slice (some ⟨bb,o,sp⟩) E0.length ce]:=by
     unfold rowAt at aE3⊢
     rw[Heap.get_set_ne _ _ (by omega)]at aE3;exact aE3
    have mE3:=af k3 aE3'
    have rF3:rowAt (h3.set g.pN (.row [.slice (some ⟨h'.next+1,0,some 2⟩) (now.length+1) (now.length+1)] 0 true)) g.pF=some [g.vF]:=by unfold rowAt;rw[q3.rF];rfl
    have nF3:=af q3.base.ok rF3
    have nN3:=aF k3 e3n
    have rN3:rowAt h3 g.pN=some [.slice p now.length c]:=by unfold rowAt;rw[e3n];rfl
    have wj:IntKind.i64.wrap ((j:Int)+1)=((j+1:Nat):Int):=by rw[bG (by omega) (by omega)];omega
    have k3':=q3.base.ok
    refine bR [(true,0),(true,1),(true,2),(true,3),(true,4),(true,5),(true,6),(true,7)] (by kernel_rfl) ?_
    simp(maxDischargeDepth:=30)only[AA,↓reduceIte,Q1,Q2,Q3,Q4,reduceCtorEq,Q5,Q6,Q7,dk,XH,fh,ag.r,NE,g9,k',aE,mE,rN,nN,hjl,hr,mr,ct,Ke,aG,ea2,k3,e3n,rN3,nN3,aE3',mE3,rF3,nF3,k3',hVF,ff,wj]
    have ed:E0.drop j=e::E0.drop (j+1):=by
     rw[List.drop_eq_getElem_cons hjl]
     rw[List.getElem?_eq_getElem hjl]at ge
     rw[Option.some.inj ge]
    rw[if_pos hnl,ed,pj,<-List.append_assoc]at eD
    have lenD:=congrArg List.length eD
    simp only[List.length_append]at lenD
    refine aC (IH (d -1) (by omega) q3 (by simp;omega) (by omega) (hnw em) (by simp only[List.length_append];omega)) ?_
    rintro Rv h5 ⟨base5,n5,hR⟩
    have n35:h'.next<=h5.next:=by rw[Heap.next_set]at n5;omega
    rcases hR with⟨rfl,F5,q5,hs5⟩|⟨rfl,l1,l2,el,hS⟩
    ·obtain⟨v5,e15,p15,nf5⟩:=q5.ex
     obtain⟨v6,esl,p16,bk6⟩:=De lv iG p15
     obtain⟨p6,c6,rfl,_⟩:=p15.ls fN
     obtain⟨p7,c7,rfl,_⟩:=p16.ls fN
     have rN5:rowAt h5 g.pN=some [.slice p6 (now++[e]).length c6]:=by unfold rowAt;rw[e15];rfl
     have nN5:=af base5.ok rN5
     have w1:IntKind.i64.wrap (((now++[e]).length:Int) -1)=(now.length:Int):=by
      have hl2:(now++[e]).length=now.length+1:=by simp
      rw[hl2,bG (by omega) (by omega)];omega
     have q6:=q5.put stay hd p16 (by omega) (fun b hb=>nf5 b (by rw[<-bk6];exact hb))
     simp(maxDischargeDepth:=30)only[AA,↓reduceIte,Q1,Q2,Q3,Q4,reduceCtorEq,Q5,Q6,Q7,XH,fh,ag.r,NE,g9,base5.ok,rN5,nN5,e15,w1,Option.map_some,Option.map_none,esl,wj]
     refine ih (n -1) _ _ (by omega) (by simp only[AG,Nat.reduceEqDiff,ag]) ⟨F5,j+1,D2++jZ rwn (E0.drop (j+1)) (now++[e]),by omega,by simp only[aa,Nat.reduceEqDiff,↓reduceIte],by rw[<-List.append_assoc];exact q6,fun i hi=> ?_,by rw[Heap.next_set];omega,by rw[if_pos hnl];exact eD⟩
     rcases hs5 i hi with a|a
     ·exact hs' i a
     ·right;rw[Heap.next_set]at a;omega
    ·simp(maxDischargeDepth:=30)only[AA,↓reduceIte,Q1,Q2,Q3,Q4,reduceCtorEq,Q5,Q6,Q7,XH,fh,ag.r,NE,g9,base5.ok]
     refine⟨base5,by omega, .inr ⟨trivial,D2++l1,l2++jz rwn (E0.drop (j+1)) now,?_,by rw[<-List.append_assoc];exact hS⟩⟩
     rw[eD,el];simp[List.append_assoc]
   ·have c2:decide ((now.length:Int)<S.rows)=false:=decide_eq_false (by omega)
    simp(maxDischargeDepth:=30)only[AA,↓reduceIte,Q1,Q2,Q3,Q4,reduceCtorEq,Q5,Q6,Q7,XH,fh,ag.r,NE,g9,k',aE,mE,aT,mT,rN,nN,c1,c2,F.r9,aj]
    rw[if_neg hnl,List.append_nil]at eD
    exact⟨q'.base,hle, .inl ⟨trivial,F2,by rw[eD];exact q',hs'⟩⟩
  ·have c1:decide ((j:Int)<(E0.length:Int))=false:=decide_eq_false (by omega)
   simp(maxDischargeDepth:=30)only[AA,↓reduceIte,Q1,Q2,Q3,Q4,reduceCtorEq,Q5,Q6,Q7,XH,fh,ag.r,NE,g9,k',aE,mE,c1,aj]
   have:E0.drop j=[]:=List.drop_eq_nil_iff.2 (by omega)
   rw[this]at eD
   have e0:(if now.length<rwn then jz rwn [] now else[])=[]:=by split<;>rfl
   rw[e0,List.append_nil]at eD
   exact⟨q'.base,hle, .inl ⟨trivial,F2,by rw[eD];exact q',hs'⟩⟩
end Go.Am

namespace Go.Am
open Go Go.Proofs
def yz:=A2 @iH<|A2 @Dy<|A2 @Rd<|A2 @cM<|A2 @mw<|A2 @nK<|A2 @PS<|A2 @iG<|A2 @sI<|A2 @lv<|A2 @Oa @sq
theorem XX (S:LSheet) (u:LetV) (m:Nat):(S.frontC u m).take 10=S.cells u:=rfl
set_option maxRecDepth 10000 in
set_option maxHeartbeats 2000000 in
theorem Vu {S:LSheet} {u:LetV} {m:Nat} (f:S.Fine) {pB pT:Nat}:
  Ky (Uq S) BkS 203 [.pointer (some ⟨pT,0,none⟩), .pointer (some ⟨pB,0,none⟩)] S.settings fun F h1=> ∀h,Gr F h1 h ->rowAt h pB=some [.slice none 0 0]/\ rowAt h pT=some (S.frontC u m)/\ IsLet h u S:=by
 rintro h0 J Sx l F h1 MX f01 hp E hMX hJ hK
 have hk:=f01.ok
 obtain⟨aB,aT,qL⟩:=hK h1 (Gr.refl hk)
 obtain⟨pw,cw,pp,cp,pd,cd,FF,_⟩:=qL.front m
 have EX:=fun {h':Heap} (g:Fr h1 h')=>Y4 g.ok (Nat.lt_of_lt_of_le hp g.next) (qL.fr hk g) f
 rw[<-XX S u m]at EX
 obtain⟨R,hR⟩: ∃R,R=S.frontC u m:=⟨_,rfl⟩
 rw[<-hR]at FF EX aT
 have mB:=af hk aB
 have mT:=af hk aT
 refine aw Tryz.f203 (by kernel_rfl) (by kernel_rfl) rfl rfl ?_
 simp only[Tryz.f203]
 have fY:=aI [.row [.func (.yield l) ⟨[]⟩ ⟨[]⟩] 0 true] (Fr.refl hk)
 have gY:(h1.ex [.row [.func (.yield l) ⟨[]⟩ ⟨[]⟩] 0 true]).get h1.next=some (.row [.func (.yield l) ⟨[]⟩ ⟨[]⟩] 0 true):=dG rfl
 have sy:=mi l
 have nY:(h1.ex [.row [.func (.yield l) ⟨[]⟩ ⟨[]⟩] 0 true]).next=h1.next+1:=by rw[bc];rfl
 have aBy:=fY.row' hk aB
 have aTy:=fY.row' hk aT
 simp(maxDischargeDepth:=30)only[AA,↓reduceIte,Q1,Q2,Q3,Q4,reduceCtorEq,Q5,Q6,Q7,XH,yz,hk,aB,mB,aT,mT,FF.rt]
 generalize(h1.ex [.row [.func (.yield l) ⟨[]⟩ ⟨[]⟩] 0 true])=hY at fY gY nY aBy aTy⊢
 have mBy:=af fY.ok aBy
 have mTy:=af fY.ok aTy
 refine aC (EX fY) ?_
 rintro ev h2 ⟨so,f2⟩
 have f12:=fY.trans f2
 have n2:=f2.next
 have gY2:=f2.get' fY.ok gY
 obtain⟨pe,ce,rfl⟩:=so.value
 have cl:cellsOf (.slice pe S.endsP.length ce)=[.slice pe S.endsP.length ce]:=rfl
 have fE:=aI [.row [.slice pe S.endsP.length ce] 0 true] (Fr.refl f2.ok)
 have gE:(h2.ex [.row [.slice pe S.endsP.length ce] 0 true]).get h2.next=some (.row [.slice pe S.endsP.length ce] 0 true):=dG rfl
 have nE:(h2.ex [.row [.slice pe S.endsP.length ce] 0 true]).next=h2.next+1:=by rw[bc];rfl
 simp(maxDischargeDepth:=30)only[AA,↓reduceIte,Q1,Q2,Q3,Q4,reduceCtorEq,Q5,Q6,Q7,XH,yz,f2.ok,ff]
 have e3:h2.ex [.row [.slice pe S.endsP.length ce] 0 true, .row [.slice none 0 0] 0 true, .row [.func (.func 205) ⟨[]⟩ ⟨[.pointer (some ⟨h2.next,0,none⟩), .pointer (some ⟨h1.next,0,none⟩), .pointer (some ⟨pB,0,none⟩), .pointer (some ⟨h2.next+1,0,none⟩), .pointer (some ⟨pT,0,none⟩), .pointer (some ⟨h2.next+2,0,none⟩)]⟩] 0 true]=(h2.ex [.row [.slice pe S.endsP.length ce] 0 true]).ex [.row [.slice none 0 0] 0 true, .row [.func (.func 205) ⟨[]⟩ ⟨[.pointer (some ⟨h2.next,0,none⟩), .pointer (some ⟨h1.next,0,none⟩), .pointer (some ⟨pB,0,none⟩), .pointer (some ⟨h2.next+1,0,none⟩), .pointer (some ⟨pT,0,none⟩), .pointer (some ⟨h2.next+2,0,none⟩)]⟩] 0 true]:=by rw[Tn];rfl
 rw[e3]
 clear e3
 have soE:=so.fr f2.ok fE
 have f1E:=f12.trans fE
 have gYE:=fE.get' f2.ok gY2
 generalize(h2.ex [.row [.slice pe S.endsP.length ce] 0 true])=H at fE gE nE soE f1E gYE⊢
 have fH:=aI [.row [.slice none 0 0] 0 true, .row [.func (.func 205) ⟨[]⟩ ⟨[.pointer (some ⟨h2.next,0,none⟩), .pointer (some ⟨h1.next,0,none⟩), .pointer (some ⟨pB,0,none⟩), .pointer (some ⟨h2.next+1,0,none⟩), .pointer (some ⟨pT,0,none⟩), .pointer (some ⟨h2.next+2,0,none⟩)]⟩] 0 true] (Fr.refl fE.ok)
 have gN:(H.ex [.row [.slice none 0 0] 0 true, .row [.func (.func 205) ⟨[]⟩ ⟨[.pointer (some ⟨h2.next,0,none⟩), .pointer (some ⟨h1.next,0,none⟩), .pointer (some ⟨pB,0,none⟩), .pointer (some ⟨h2.next+1,0,none⟩), .pointer (some ⟨pT,0,none⟩), .pointer (some ⟨h2.next+2,0,none⟩)]⟩] 0 true]).get (h2.next+1)=some (.row [.slice none 0 0] 0 true):=by rw[<-nE];exact dG rfl
 have gF:(H.ex [.row [.slice none 0 0] 0 true, .row [.func (.func 205) ⟨[]⟩ ⟨[.pointer (some ⟨h2.next,0,none⟩), .pointer (some ⟨h1.next,0,none⟩), .pointer (some ⟨pB,0,none⟩), .pointer (some ⟨h2.next+1,0,none⟩), .pointer (some ⟨pT,0,none⟩), .pointer (some ⟨h2.next+2,0,none⟩)]⟩] 0 true]).get (h2.next+2)=some (.row [.func (.func 205) ⟨[]⟩ ⟨[.pointer (some ⟨h2.next,0,none⟩), .pointer (some ⟨h1.next,0,none⟩), .pointer (some ⟨pB,0,none⟩), .pointer (some ⟨h2.next+1,0,none⟩), .pointer (some ⟨pT,0,none⟩), .pointer (some ⟨h2.next+2,0,none⟩)]⟩] 0 true):=by
  rw[show h2.next+2=H.next+1 by omega,jd rfl (by simp)];rfl
 generalize(H.ex [.row [.slice none 0 0] 0 true, .row [.func (.func 205) ⟨[]⟩ ⟨[.pointer (some ⟨h2.next,0,none⟩), .pointer (some ⟨h1.next,0,none⟩), .pointer (some ⟨pB,0,none⟩), .pointer (some ⟨h2.next+1,0,none⟩), .pointer (some ⟨pT,0,none⟩), .pointer (some ⟨h2.next+2,0,none⟩)]⟩] 0 true])=H3 at fH gN gF⊢
 have lF:=fun i hi=>(E.low F [] h1 hJ i hi)
 have nf2:=f12.next
 have q:GQ bV 2 ⟨J,F,H,h2.next+1,h1.next,h2.next+2, .func (.yield l) ⟨[]⟩ ⟨[]⟩, .func (.func 205) ⟨[]⟩ ⟨[.pointer (some ⟨h2.next,0,none⟩), .pointer (some ⟨h1.next,0,none⟩), .pointer (some ⟨pB,0,none⟩), .pointer (some ⟨h2.next+1,0,none⟩), .pointer (some ⟨pT,0,none⟩), .pointer (some ⟨h2.next+2,0,none⟩)]⟩⟩ F [] ([]:List (Nat×Nat)) H3:=
  ⟨fH.gr,Nat.lt_of_lt_of_le hp (f1E.trans fH).next,E.stay _ _ _ _ hJ fH.ok (f1E.trans fH).next fun i hi=>(f1E.trans fH).get i (lF i hi).2,fun i hi=> .inl hi,fH.get' fE.ok gYE,gF,⟨_,gN,PVf.nil _ _,fun b hb=>by simp[ay]at hb⟩,
   fun i hi=>⟨fun hf=>by have:=(lF i hf).2;simp at hi;have:=n2;omega,fun hne=>by simp at hi hne;show H.next<=i;omega⟩⟩
 have Q1: ∀h,Gr F H h ->rowAt h h2.next=some [.slice pe S.endsP.length ce]/\ LS h (.slice pe S.endsP.length ce) S.endsP bV 2/\ rowAt h pB=some [.slice none 0 0]/\ rowAt h pT=some R:=by
  intro h hg
  have n1:=fY.next
  have gr1:Gr F h1 h:=f1E.gr.trans' hg (fun i hi=> .inl hi)
  obtain⟨b1,b2,_⟩:=hK h gr1
  refine⟨?_,SL.ls fN (SL.keep soE fun b hb=> ?_),b1,by rw[hR];exact b2⟩
  ·unfold rowAt;rw[hg.get h2.next (by omega) (fun hf=>by have:=(lF _ hf).2;omega),gE];rfl
  ·have hbl:=so.blk_lt f2.ok hb
   exact hg.get b (by omega) (fun hf=>by have:=(lF _ hf).2;omega)
 have fr:=f.rows
 refine aC (Vt FF f (S.endsP_ok f).1 (S.endsP_ok f).2 E Q1 (f01.trans f1E) (fun i hi=>(lF i hi).1) ⟨by show h2.next+1≠h1.next;omega,by show h2.next+1≠h2.next+2;omega⟩ (by show h2.next<H.next;omega) rfl rfl S.rows.toNat q (k:=0) (by simp) (Nat.zero_le _) (by simp) (by simpa[LSheet.settings]using hMX)) ?_
 rintro Rr h5 ⟨base,le,hRR⟩
 simp(maxDischargeDepth:=30)only[AA,↓reduceIte,Q1,Q2,Q3,Q4,reduceCtorEq,Q5,Q6,Q7,XH,yz,base.ok,v7]
 refine⟨f1E.gr.trans' base (fun i hi=> .inl hi),?_⟩
 rcases hRR with⟨_,F',q',hs⟩|⟨_,l1,l2,el,hS⟩
 ·exact .inl ⟨F',by simpa[LSheet.settings]using q'.j,fun i hi=>(hs i hi).elim .inl fun h=> .inr (Nat.le_trans (f1E.trans fH).next h)⟩
 ·exact .inr ⟨l1,l2,by simpa[LSheet.settings]using el,by simpa using hS⟩
theorem IZ {h:Heap} (hk:HOK h) {R:List Value} {S:LSheet} {m:Nat} {pw pp pd:Option Addr} {cw cp cd:Nat} (F:FrontF S R m pw pp pd cw cp cd):
  CW CC 110 [.agg ⟨R⟩, .slice none 0 0] h fun r h'=>r= .func (.func 203) ⟨[]⟩ ⟨[.pointer (some ⟨h.next,0,none⟩), .pointer (some ⟨h.next+1,0,none⟩)]⟩/\ Fr h h'/\ rowAt h' h.next=some R/\ rowAt h' (h.next+1)=some [.slice none 0 0]:=by
 refine aw Tryz.f110 (by kernel_rfl) (by kernel_rfl) rfl rfl ?_
 simp only[Tryz.f110]
 simp(maxDischargeDepth:=30)only[AA,↓reduceIte,Q1,Q2,Q3,Q4,reduceCtorEq,Q5,Q6,Q7,XH,fT,hk,F.ro,F.rl]
 exact⟨trivial,aI _ (Fr.refl hk),trivial⟩
end Go.Am
