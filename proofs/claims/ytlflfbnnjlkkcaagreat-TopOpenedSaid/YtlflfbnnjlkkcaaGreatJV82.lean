/- Parts V82, V83 of the abstract machine over this program, joined: what each part says stands at its head. -/
import Derived.Test.YtlflfbnnjlkkcaaGreatJV120
set_option linter.unusedSimpArgs false
set_option linter.unusedVariables false
set_option linter.defProp false
open Nat renaming reduceLT→Q1,reduceEqDiff→Q2,reduceAdd→Q3,reduceMul→Q4,reduceLeDiff→Q5
open Int renaming reduceNe→Q6,reduceEq→Q7
namespace Go.Am
open Go Go.Proofs
theorem Ko (a b:List Value) (h1:bF a=true) (h2:bF b=true):bF (a++b)=true:=by
 induction a with
 |nil=>exact h2
 |cons x a ih=>
  rw[da]at h1
  rw[List.cons_append,da]
  cases hx:jx x with
  |false=>rw[hx]at h1;simp at h1
  |true=>rw[hx]at h1;exact ih h1
theorem y4 {α:Type} {f:α ->List Value}: ∀{xs:List α},(∀x,x∈xs ->bF (f x)=true) ->bF (xs.flatMap f)=true
 |[],_=>rfl
 |x::xs,h=>by
  rw[List.flatMap_cons]
  exact Ko _ _ (h x List.mem_cons_self) (y4 fun y hy=>h y (List.mem_cons_of_mem _ hy))
theorem Ir {C:Ctx} {t u:TypeId} {ts:List TypeId} {s:Nat} (ht:AppT C t u s) (a:Addr) (n c:Nat) (p:Option Addr) (d:Nat) (h:Heap):ck C (t::u::ts) (.slice (some a) n c) (.slice p 0 d) h=some (.slice (some a) n c,h):=by
 obtain⟨e,i,du,e1,e2,e3,e4,e5,e6,e7⟩:=ht.ex
 unfold ck
 simp only[e1,au,dy,e2,e5,e6,e7,Bool.and_self,aK,jQ,i8,rL,Bh]
structure CloneT (f t u s:Nat):Prop where
 nil: ∀n c h,HOK h ->CW CC f [.slice none n c] h fun r h'=>r= .slice none 0 0/\ h'=h
 app: ∀a n c h Q,HOK h ->(∃v h',ck CC [t,u] (.slice (some ⟨h.next,0,some s⟩) 0 0) (.slice (some a) n c) (h.ex [.row [] s true])=some (v,h')/\ HOK h'/\ Q v h') ->CW CC f [.slice (some a) n c] h Q
 ap:AppT CC t u s
theorem CloneT.clone {α:Type} {f t u s:Nat} (T:CloneT f t u s) {g:α ->List Value} (hg: ∀x,(g x).length=s) {h:Heap} (hk:HOK h) (hp:0<h.next) {v:Value} {xs:List α} (hv:LS h v xs g s) (ha: ∀x∈xs,bF (g x)=true) (hn:xs.length<=100000):
  CW CC f [v] h fun r h'=>SL h.next h' r (xs.flatMap g) s xs.length/\ (v= .slice none 0 0 ->r= .slice none 0 0)/\ Fr h h':=by
 have f1:=aI [.row [] s true] (Fr.refl hk)
 have q1:SL h.next (h.ex [.row [] s true]) (aG s 0 0 h.next) [] s 0:=SL.new (Nat.le_refl _) hp [] s 0 (by simp)
 cases xs with
 |nil=>
  obtain⟨p,c,rfl⟩:=hv.len
  cases p with
  |none=>
   obtain⟨r,h',e,rfl,rfl⟩:=T.nil 0 c h hk
   exact⟨_,_,e,SL.nil _ _ _,fun _=>rfl,Fr.refl hk⟩
  |some a=>exact T.app _ _ _ _ _ hk ⟨_,_,Ir T.ap _ _ _ _ _ _,f1.ok,q1,fun e=>(by simp at e),f1⟩
 |cons y ys=>
  rcases hv with⟨e,_⟩|⟨b,o,sp,c,row,rfl,hr,hx⟩
  ·simp at e
  have hv:LS h (.slice (some ⟨b,o,sp⟩) (y::ys).length c) (y::ys) g s:= .inr ⟨b,o,sp,c,row,rfl,hr,hx⟩
  obtain⟨h',e1,e2,e3,e4,e5⟩:=yn (ts:=[]) T.ap f1 (by simp[bc]) q1 (x:= .slice (some ⟨b,o,sp⟩) (y::ys).length c) (m:=ys.length) rfl (hv.fr hk f1).cells (y4 ha) (gP hg _) (by simp at hn;omega)
  rw[show 0+(ys.length+1)=ys.length+1 by omega]at e1 e2
  rw[List.nil_append]at e2
  simp only[aG,List.length_cons]at e1 e2
  exact T.app _ _ _ _ _ hk ⟨_,_,e1,e3.ok,e2,fun e=>(by simp at e),e3⟩
theorem gT {C:Ctx} {t e:Nat} (hu:C.und t=some (.slice e)) (c:Bool) (n m:Nat):eI C .eql t c (.slice none n m) (.slice none 0 0)=some (.bool true):=by
 show ae (Fz C t og true) LH=_
 unfold Fz;rw[hu];rfl
theorem gQ {C:Ctx} {t e:Nat} (hu:C.und t=some (.slice e)) (c:Bool) (a:Addr) (n m:Nat):eI C .eql t c (.slice (some a) n m) (.slice none 0 0)=some (.bool false):=by
 show ae (Fz C t og false) LH=_
 unfold Fz;rw[hu];rfl
theorem dW (n:Int):bF (aQ n)=true:=rfl
theorem clone_ints:CloneT 67 22 22 1:=by
 refine⟨fun n c h hk=> ?_,fun a n c h Q hk hQ=> ?_,qE (by kernel_rfl)⟩
 ·refine aw Tryz.f67 (by kernel_rfl) (by kernel_rfl) rfl rfl ?_
  simp only[Tryz.f67]
  simp(maxDischargeDepth:=30)only[AA,↓reduceIte,Q1,Q2,Q3,Q4,reduceCtorEq,Q5,Q6,Q7,XH,eF,cG,bJ,aV,ba,bm,bh,hk,gT bm]
 ·obtain⟨v,h',e,k',q⟩:=hQ
  refine aw Tryz.f67 (by kernel_rfl) (by kernel_rfl) rfl rfl ?_
  simp only[Tryz.f67]
  simp(maxDischargeDepth:=30)only[AA,↓reduceIte,Q1,Q2,Q3,Q4,reduceCtorEq,Q5,Q6,Q7,XH,eF,cG,bJ,aV,ba,bm,bh,hk,gQ bm,show bn CC 22 0 []=some (.new (.row [] 1 true) (aG 1 0 0))by kernel_rfl,e,k']
  exact q
theorem clone_rows:CloneT 197 33 33 1:=by
 refine⟨fun n c h hk=> ?_,fun a n c h Q hk hQ=> ?_,qE (by kernel_rfl)⟩
 ·refine aw Tryz.f197 (by kernel_rfl) (by kernel_rfl) rfl rfl ?_
  simp only[Tryz.f197]
  simp(maxDischargeDepth:=30)only[AA,↓reduceIte,Q1,Q2,Q3,Q4,reduceCtorEq,Q5,Q6,Q7,XH,LG,tM,kN,aV,kJ,jh,kD,hk,gT jh]
 ·obtain⟨v,h',e,k',q⟩:=hQ
  refine aw Tryz.f197 (by kernel_rfl) (by kernel_rfl) rfl rfl ?_
  simp only[Tryz.f197]
  simp(maxDischargeDepth:=30)only[AA,↓reduceIte,Q1,Q2,Q3,Q4,reduceCtorEq,Q5,Q6,Q7,XH,LG,tM,kN,aV,kJ,jh,kD,hk,gQ jh,show bn CC 33 0 []=some (.new (.row [] 1 true) (aG 1 0 0))by kernel_rfl,e,k']
  exact q
theorem clone_pairs:CloneT 89 23 23 4:=by
 refine⟨fun n c h hk=> ?_,fun a n c h Q hk hQ=> ?_,qE (by kernel_rfl)⟩
 ·refine aw Tryz.f89 (by kernel_rfl) (by kernel_rfl) rfl rfl ?_
  simp only[Tryz.f89]
  simp(maxDischargeDepth:=30)only[AA,↓reduceIte,Q1,Q2,Q3,Q4,reduceCtorEq,Q5,Q6,Q7,XH,Hr,qV,jX,u9,oN,uO,hk,gT oN]
 ·obtain⟨v,h',e,k',q⟩:=hQ
  refine aw Tryz.f89 (by kernel_rfl) (by kernel_rfl) rfl rfl ?_
  simp only[Tryz.f89]
  simp(maxDischargeDepth:=30)only[AA,↓reduceIte,Q1,Q2,Q3,Q4,reduceCtorEq,Q5,Q6,Q7,XH,Hr,qV,jX,u9,oN,uO,hk,gQ oN,show bn CC 23 0 []=some (.new (.row [] 4 true) (aG 4 0 0))by kernel_rfl,e,k']
  exact q
theorem clone_words:CloneT 196 26 26 3:=by
 refine⟨fun n c h hk=> ?_,fun a n c h Q hk hQ=> ?_,qE (by kernel_rfl)⟩
 ·refine aw Tryz.f196 (by kernel_rfl) (by kernel_rfl) rfl rfl ?_
  simp only[Tryz.f196]
  simp(maxDischargeDepth:=30)only[AA,↓reduceIte,Q1,Q2,Q3,Q4,reduceCtorEq,Q5,Q6,Q7,XH,tO,jS,jR,gv,ji,jN,hk,gT ji]
 ·obtain⟨v,h',e,k',q⟩:=hQ
  refine aw Tryz.f196 (by kernel_rfl) (by kernel_rfl) rfl rfl ?_
  simp only[Tryz.f196]
  simp(maxDischargeDepth:=30)only[AA,↓reduceIte,Q1,Q2,Q3,Q4,reduceCtorEq,Q5,Q6,Q7,XH,tO,jS,jR,gv,ji,jN,hk,gQ ji,show bn CC 26 0 []=some (.new (.row [] 3 true) (aG 3 0 0))by kernel_rfl,e,k']
  exact q
theorem clone_spans:CloneT 92 29 29 2:=by
 refine⟨fun n c h hk=> ?_,fun a n c h Q hk hQ=> ?_,qE (by kernel_rfl)⟩
 ·refine aw Tryz.f92 (by kernel_rfl) (by kernel_rfl) rfl rfl ?_
  simp only[Tryz.f92]
  simp(maxDischargeDepth:=30)only[AA,↓reduceIte,Q1,Q2,Q3,Q4,reduceCtorEq,Q5,Q6,Q7,XH,Hq,o8,eU,u7,oM,uN,hk,gT oM]
 ·obtain⟨v,h',e,k',q⟩:=hQ
  refine aw Tryz.f92 (by kernel_rfl) (by kernel_rfl) rfl rfl ?_
  simp only[Tryz.f92]
  simp(maxDischargeDepth:=30)only[AA,↓reduceIte,Q1,Q2,Q3,Q4,reduceCtorEq,Q5,Q6,Q7,XH,Hq,o8,eU,u7,oM,uN,hk,gQ oM,show bn CC 29 0 []=some (.new (.row [] 2 true) (aG 2 0 0))by kernel_rfl,e,k']
  exact q
theorem clone_coats:CloneT 93 30 30 2:=by
 refine⟨fun n c h hk=> ?_,fun a n c h Q hk hQ=> ?_,qE (by kernel_rfl)⟩
 ·refine aw Tryz.f93 (by kernel_rfl) (by kernel_rfl) rfl rfl ?_
  simp only[Tryz.f93]
  simp(maxDischargeDepth:=30)only[AA,↓reduceIte,Q1,Q2,Q3,Q4,reduceCtorEq,Q5,Q6,Q7,XH,Hp,qU,jW,u6,oK,uM,hk,gT oK]
 ·obtain⟨v,h',e,k',q⟩:=hQ
  refine aw Tryz.f93 (by kernel_rfl) (by kernel_rfl) rfl rfl ?_
  simp only[Tryz.f93]
  simp(maxDischargeDepth:=30)only[AA,↓reduceIte,Q1,Q2,Q3,Q4,reduceCtorEq,Q5,Q6,Q7,XH,Hp,qU,jW,u6,oK,uM,hk,gQ oK,show bn CC 30 0 []=some (.new (.row [] 2 true) (aG 2 0 0))by kernel_rfl,e,k']
  exact q
theorem clone_tins:CloneT 98 41 41 6:=by
 refine⟨fun n c h hk=> ?_,fun a n c h Q hk hQ=> ?_,qE (by kernel_rfl)⟩
 ·refine aw Tryz.f98 (by kernel_rfl) (by kernel_rfl) rfl rfl ?_
  simp only[Tryz.f98]
  simp(maxDischargeDepth:=30)only[AA,↓reduceIte,Q1,Q2,Q3,Q4,reduceCtorEq,Q5,Q6,Q7,XH,Li,vq,lJ,zx,qJ,zm,hk,gT qJ]
 ·obtain⟨v,h',e,k',q⟩:=hQ
  refine aw Tryz.f98 (by kernel_rfl) (by kernel_rfl) rfl rfl ?_
  simp only[Tryz.f98]
  simp(maxDischargeDepth:=30)only[AA,↓reduceIte,Q1,Q2,Q3,Q4,reduceCtorEq,Q5,Q6,Q7,XH,Li,vq,lJ,zx,qJ,zm,hk,gQ qJ,show bn CC 41 0 []=some (.new (.row [] 6 true) (aG 6 0 0))by kernel_rfl,e,k']
  exact q
theorem clone_boards:CloneT 99 44 44 5:=by
 refine⟨fun n c h hk=> ?_,fun a n c h Q hk hQ=> ?_,qE (by kernel_rfl)⟩
 ·refine aw Tryz.f99 (by kernel_rfl) (by kernel_rfl) rfl rfl ?_
  simp only[Tryz.f99]
  simp(maxDischargeDepth:=30)only[AA,↓reduceIte,Q1,Q2,Q3,Q4,reduceCtorEq,Q5,Q6,Q7,XH,Lh,zy,zw,oU,qI,zl,hk,gT qI]
 ·obtain⟨v,h',e,k',q⟩:=hQ
  refine aw Tryz.f99 (by kernel_rfl) (by kernel_rfl) rfl rfl ?_
  simp only[Tryz.f99]
  simp(maxDischargeDepth:=30)only[AA,↓reduceIte,Q1,Q2,Q3,Q4,reduceCtorEq,Q5,Q6,Q7,XH,Lh,zy,zw,oU,qI,zl,hk,gQ qI,show bn CC 44 0 []=some (.new (.row [] 5 true) (aG 5 0 0))by kernel_rfl,e,k']
  exact q
theorem clone_tars:CloneT 100 45 45 5:=by
 refine⟨fun n c h hk=> ?_,fun a n c h Q hk hQ=> ?_,qE (by kernel_rfl)⟩
 ·refine aw Tryz.f100 (by kernel_rfl) (by kernel_rfl) rfl rfl ?_
  simp only[Tryz.f100]
  simp(maxDischargeDepth:=30)only[AA,↓reduceIte,Q1,Q2,Q3,Q4,reduceCtorEq,Q5,Q6,Q7,XH,Lg,vp,lI,zu,qH,zj,hk,gT qH]
 ·obtain⟨v,h',e,k',q⟩:=hQ
  refine aw Tryz.f100 (by kernel_rfl) (by kernel_rfl) rfl rfl ?_
  simp only[Tryz.f100]
  simp(maxDischargeDepth:=30)only[AA,↓reduceIte,Q1,Q2,Q3,Q4,reduceCtorEq,Q5,Q6,Q7,XH,Lg,vp,lI,zu,qH,zj,hk,gQ qH,show bn CC 45 0 []=some (.new (.row [] 5 true) (aG 5 0 0))by kernel_rfl,e,k']
  exact q
theorem clone_strokes:CloneT 198 36 36 5:=by
 refine⟨fun n c h hk=> ?_,fun a n c h Q hk hQ=> ?_,qE (by kernel_rfl)⟩
 ·refine aw Tryz.f198 (by kernel_rfl) (by kernel_rfl) rfl rfl ?_
  simp only[Tryz.f198]
  simp(maxDischargeDepth:=30)only[AA,↓reduceIte,Q1,Q2,Q3,Q4,reduceCtorEq,Q5,Q6,Q7,XH,vB,kM,kI,gq,jC,ky,hk,gT jC]
 ·obtain⟨v,h',e,k',q⟩:=hQ
  refine aw Tryz.f198 (by kernel_rfl) (by kernel_rfl) rfl rfl ?_
  simp only[Tryz.f198]
  simp(maxDischargeDepth:=30)only[AA,↓reduceIte,Q1,Q2,Q3,Q4,reduceCtorEq,Q5,Q6,Q7,XH,vB,kM,kI,gq,jC,ky,hk,gQ jC,show bn CC 36 0 []=some (.new (.row [] 5 true) (aG 5 0 0))by kernel_rfl,e,k']
  exact q
end Go.Am

namespace Go.Am
open Go Go.Proofs
def wg:=A2 @tO<|A2 @Hg<|A2 @Bu<|A2 @jS<|A2 @jR<|A2 @gv<|A2 @ji<|A2 @jN @zi
def zT:=A2 @Zj<|A2 @BW<|A2 @BV<|A2 @BU<|A2 @pC<|A2 @zF<|A2 @V7<|A2 @cM<|A2 @Ju<|A2 @Hg<|A2 @gv<|A2 @Vh<|A2 @Vg<|A2 @Vf @zi
def we:=A2 @cG<|A2 @tM<|A2 @cM<|A2 @ko<|A2 @kN<|A2 @bJ<|A2 @aV<|A2 @ba<|A2 @kJ<|A2 @bm<|A2 @jh<|A2 @bh @kD
def wa:=A2 @vB<|A2 @Hf<|A2 @xj<|A2 @kM<|A2 @kI<|A2 @gq<|A2 @jC<|A2 @ky @uK
structure Sheet where
 offs:List Int
 boards:List Board
 tars:List Tar
structure LWord where
 signs:List Int
 cuts:List Int
 free:Bool
structure LSheet where
 widths:List Int
 pairs:List LPair
 other:Sp
 gap:Sp
 hyphen:Int
 words:List LWord
 wide:Int
 rows:Int
structure CoatS where
 dry:List Sp
 work:List Int
 coats:List CoatC
structure StripB where
 names:Int
 spots:List (List Int)
structure BStroke where
 board:Int
 round:Bool
 lo:Int
 hi:Int
 needs:List Int
structure Bench where
 app:Int
 boards:List Int
 strokes:List BStroke
structure SuiteD where
 front:LSheet
 coats:CoatS
 board:StripB
 bench:Bench
 tints:TintS
 stock:List Int
 prices:Sheet
def LP (P:Nat ->Prop) {α:Type} (h:Heap) (v:Value) (xs:List α) (f:α ->List Value) (s:Nat):Prop:=LS h v xs f s/\ (xs≠[] -> ∀b,ay v=some b ->P b)
theorem LP.keep {P:Nat ->Prop} {α:Type} {h h':Heap} {v:Value} {xs:List α} {f:α ->List Value} {s:Nat} (q:LP P h v xs f s) (hg: ∀b,P b ->h'.get b=h.get b):LP P h' v xs f s:=by
 refine⟨?_,q.2⟩
 rcases q.1 with q1|⟨b,o,sp,c,row,rfl,h1,h2⟩
 ·exact .inl q1
 ·by_cases e:xs=[]
  ·subst e;exact .inl ⟨rfl,_,_,rfl⟩
  ·exact .inr ⟨b,o,sp,c,row,rfl,by unfold rowAt;rw[hg b (q.2 e b rfl)];exact h1,h2⟩
theorem LP.mono {P P':Nat ->Prop} {α:Type} {h:Heap} {v:Value} {xs:List α} {f:α ->List Value} {s:Nat} (q:LP P h v xs f s) (hp: ∀b,P b ->P' b):LP P' h v xs f s:=⟨q.1,fun e b hb=>hp b (q.2 e b hb)⟩
theorem SL.lp {P:Nat ->Prop} {N:Nat} {α:Type} {h:Heap} {v:Value} {xs:List α} {f:α ->List Value} {s:Nat} (hf: ∀x,(f x).length=s) (q:SL N h v (xs.flatMap f) s xs.length) (hk:HOK h) (hp: ∀b,N<=b ->b<h.next ->ay v=some b ->P b):LP P h v xs f s:=
 ⟨q.ls hf,fun _ b hb=>hp b (q.blk_lt hk hb).1 (q.blk_lt hk hb).2 hb⟩
theorem LP.fr {P:Nat ->Prop} {α:Type} {h h':Heap} {v:Value} {xs:List α} {f:α ->List Value} {s:Nat} (q:LP P h v xs f s) (hk:HOK h) (fr:Fr h h'):LP P h' v xs f s:=⟨q.1.fr hk fr,q.2⟩
structure IsWord (P:Nat ->Prop) (h:Heap) (u:WordV) (w:LWord):Prop where
 signs:LP P h u.signs w.signs aQ 1
 cuts:LP P h u.cuts w.cuts aQ 1
 free:u.free=w.free
structure IsStroke (P:Nat ->Prop) (h:Heap) (u:StrokeV) (w:BStroke):Prop where
 board:u.board=w.board
 round:u.round=w.round
 lo:u.lo=w.lo
 hi:u.hi=w.hi
 needs:LP P h u.needs w.needs aQ 1
def IsRow (P:Nat ->Prop) (h:Heap) (u:Value) (w:List Int):Prop:=LP P h u w aQ 1/\ (w≠[] -> ∃b o sp c,u= .slice (some ⟨b+1,o,sp⟩) w.length c/\ w.length<=c)
def LR {α β:Type} (R:Heap ->α ->β ->Prop) (h:Heap) (us:List α) (ws:List β):Prop:=us.length=ws.length/\ ∀(i:Nat) u w,us[i]? =some u ->ws[i]? =some w ->R h u w
theorem LR.map {α β:Type} {R S:Heap ->α ->β ->Prop} {h h':Heap} {us:List α} {ws:List β} (q:LR R h us ws) (f: ∀u w,R h u w ->S h' u w):LR S h' us ws:=⟨q.1,fun i u w h1 h2=>f _ _ (q.2 i u w h1 h2)⟩
theorem LR.snoc {α β:Type} {R:Heap ->α ->β ->Prop} {h:Heap} {us:List α} {ws:List β} {i:Nat} {u:α} {w:β} (q:LR R h us (ws.take i)) (hi:us.length=i) (hw:ws[i]? =some w) (hr:R h u w):LR R h (us++[u]) (ws.take (i+1)):=by
 rw[bI hw]
 have hl:(ws.take i).length=i:=by rw[<-q.1,hi]
 refine⟨by simp[q.1],fun j x y hx hy=> ?_⟩
 by_cases hj:j<i
 ·rw[List.getElem?_append_left (by omega)]at hx hy
  exact q.2 j x y hx hy
 ·have hj':j=i:=by have:=(List.getElem?_eq_some_iff.1 hx).1;simp[hi]at this;omega
  subst hj'
  rw[List.getElem?_append_right (by omega)]at hx hy
  rw[hi,Nat.sub_self]at hx
  rw[hl,Nat.sub_self]at hy
  simp at hx hy
  subst hx;subst hy;exact hr
def LN (P:Nat ->Prop) {α β:Type} (R:(Nat ->Prop) ->Heap ->α ->β ->Prop) (f:α ->List Value) (s:Nat) (h:Heap) (v:Value) (ws:List β):Prop:= ∃us:List α,LP P h v us f s/\ LR (R P) h us ws
theorem IsWord.keep {P:Nat ->Prop} {h h':Heap} {u:WordV} {w:LWord} (q:IsWord P h u w) (hg: ∀b,P b ->h'.get b=h.get b):IsWord P h' u w:=⟨q.signs.keep hg,q.cuts.keep hg,q.free⟩
theorem IsStroke.keep {P:Nat ->Prop} {h h':Heap} {u:StrokeV} {w:BStroke} (q:IsStroke P h u w) (hg: ∀b,P b ->h'.get b=h.get b):IsStroke P h' u w:=⟨q.board,q.round,q.lo,q.hi,q.needs.keep hg⟩
theorem IsWord.mono {P P':Nat ->Prop} {h:Heap} {u:WordV} {w:LWord} (q:IsWord P h u w) (hp: ∀b,P b ->P' b):IsWord P' h u w:=⟨q.signs.mono hp,q.cuts.mono hp,q.free⟩
theorem IsStroke.mono {P P':Nat ->Prop} {h:Heap} {u:StrokeV} {w:BStroke} (q:IsStroke P h u w) (hp: ∀b,P b ->P' b):IsStroke P' h u w:=⟨q.board,q.round,q.lo,q.hi,q.needs.mono hp⟩
theorem IsWord.fr {P:Nat ->Prop} {h h':Heap} {u:WordV} {w:LWord} (q:IsWord P h u w) (hk:HOK h) (f:Fr h h'):IsWord P h' u w:=⟨q.signs.fr hk f,q.cuts.fr hk f,q.free⟩
theorem IsStroke.fr {P:Nat ->Prop} {h h':Heap} {u:StrokeV} {w:BStroke} (q:IsStroke P h u w) (hk:HOK h) (f:Fr h h'):IsStroke P h' u w:=⟨q.board,q.round,q.lo,q.hi,q.needs.fr hk f⟩
theorem IsRow.keep {P:Nat ->Prop} {h h':Heap} {u:Value} {w:List Int} (q:IsRow P h u w) (hg: ∀b,P b ->h'.get b=h.get b):IsRow P h' u w:=⟨LP.keep q.1 hg,q.2⟩
theorem IsRow.mono {P P':Nat ->Prop} {h:Heap} {u:Value} {w:List Int} (q:IsRow P h u w) (hp: ∀b,P b ->P' b):IsRow P' h u w:=⟨LP.mono q.1 hp,q.2⟩
theorem IsRow.fr {P:Nat ->Prop} {h h':Heap} {u:Value} {w:List Int} (q:IsRow P h u w) (hk:HOK h) (f:Fr h h'):IsRow P h' u w:=⟨LP.fr q.1 hk f,q.2⟩
theorem IsWord.one {P:Nat ->Prop} {h:Heap} {u:WordV} {w:LWord} (q:IsWord P h u w):bF u.cells=true:=by
 obtain⟨p1,c1,e1,_⟩:=q.signs.1.open
 obtain⟨p2,c2,e2,_⟩:=q.cuts.1.open
 simp only[WordV.cells,e1,e2];rfl
theorem IsStroke.one {P:Nat ->Prop} {h:Heap} {u:StrokeV} {w:BStroke} (q:IsStroke P h u w):bF u.cells=true:=by
 obtain⟨p1,c1,e1,_⟩:=q.needs.1.open
 simp only[StrokeV.cells,e1];rfl
theorem IsRow.one {P:Nat ->Prop} {h:Heap} {u:Value} {w:List Int} (q:IsRow P h u w):bF (jB u)=true:=by
 obtain⟨p1,c1,e1,_⟩:=LS.open q.1.1
 rw[e1];rfl
theorem EM {α:Type} {f:α ->List Value} {s:Nat} (hf: ∀x,(f x).length=s) {xs:List α} {i:Nat} {x:α} (hx:xs[i]? =some x):aA (xs.flatMap f) (i*s) s=some (f x):=by
 have hi:=(List.getElem?_eq_some_iff.1 hx).1
 have h2:i*s+s<=(xs.flatMap f).length:=by
  rw[gP hf,<-Nat.succ_mul];exact Nat.mul_le_mul_right s hi
 rw[eP h2,sX hf xs i x hx]
theorem Ev {α:Type} {us xs:List α} {i:Nat} {x:α} (hi:us.length=i) (hx:xs[i]? =some x):(us++xs.drop i)[i]? =some x:=by
 rw[List.getElem?_append_right (by omega),hi,Nat.sub_self,List.getElem?_drop];simpa using hx
theorem Eu {α:Type} {us xs:List α} {i:Nat} {x:α} (u:α) (hi:us.length=i) (hx:xs[i]? =some x):(us++xs.drop i).set i u=(us++[u])++xs.drop (i+1):=by
 have:xs.drop i=x::xs.drop (i+1):=by
  rw[List.drop_eq_getElem_cons (List.getElem?_eq_some_iff.1 hx).1,(List.getElem?_eq_some_iff.1 hx).2]
 rw[this,List.set_append_right _ _ (by omega),hi,Nat.sub_self];simp
theorem OE {xs:List Value} {i:Nat} (x':Value) (hi:i<xs.length):fm (xs.flatMap jB) (i*1) (jB x')=some ((xs.set i x').flatMap jB):=by
 rw[yd,yd,Nat.mul_one];exact mS _ _ _ hi
theorem own1 {h:Heap} (hk:HOK h) (hp:0<h.next) {P:Nat ->Prop} {u:WordV} {w:LWord} (q:IsWord P h u w) (hl:w.signs.length<=100000/\ w.cuts.length<=100000):
  CW CC 91 [.agg ⟨u.cells⟩] h fun r h'=>(∃u',r= .agg ⟨u'.cells⟩/\ bF u'.cells=true/\ IsWord (fun b=>h.next<=b/\ b<h'.next) h' u' w)/\ Fr h h':=by
 refine aw Tryz.f91 (by kernel_rfl) (by kernel_rfl) rfl rfl ?_
 simp only[Tryz.f91,WordV.cells]
 obtain⟨p1,c1,e1,_⟩:=q.signs.1.open
 obtain⟨p2,c2,e2,_⟩:=q.cuts.1.open
 have l1:=q.signs.1
 have l2:=q.cuts.1
 rw[e1]at l1
 rw[e2]at l2
 rw[e1,e2]
 have f1:=aI [.row [.slice p1 w.signs.length c1, .slice p2 w.cuts.length c2, .bool u.free] 0 true, .row [.slice none 0 0, .slice none 0 0, .bool false] 0 true] (Fr.refl hk)
 simp(maxDischargeDepth:=30)only[AA,↓reduceIte,Q1,Q2,Q3,Q4,reduceCtorEq,Q5,Q6,Q7,XH,zT,hk]
 refine bR [(true,0),(true,1),(true,3),(true,4),(true,6),(true,7),(true,2),(false,4),(false,7),(true,5),(false,7),(true,8),(true,9)] (by kernel_rfl) ?_
 simp(maxDischargeDepth:=30)only[AA,↓reduceIte,Q1,Q2,Q3,Q4,reduceCtorEq,Q5,Q6,Q7,dk,XH,zT,hk]
 refine bk (clone_ints.clone aP f1.ok (by simp[bc]) (l1.fr hk f1) (fun x _=>dW x) hl.1) ?_
 rintro v1 h2 ⟨q1,_,f2⟩
 have f02:=f1.trans f2
 obtain⟨d1,k1,rfl⟩:=q1.value
 simp(maxDischargeDepth:=30)only[AA,↓reduceIte,Q1,Q2,Q3,Q4,reduceCtorEq,Q5,Q6,Q7,dk,XH,zT,f2.ok,f2.S]
 refine bk (clone_ints.clone aP f2.ok (by have:=f02.next;omega) (l2.fr hk f02) (fun x _=>dW x) hl.2) ?_
 rintro v2 h3 ⟨q2,_,f3⟩
 have f03:=f02.trans f3
 obtain⟨d2,k2,rfl⟩:=q2.value
 simp(maxDischargeDepth:=30)only[AA,↓reduceIte,Q1,Q2,Q3,Q4,reduceCtorEq,Q5,Q6,Q7,dk,XH,zT,f3.ok,f3.S,f2.S]
 have n3:=f3.next
 have n2:=f2.next
 simp only[bc]at n2
 have n2:h.next+2<=h2.next:=n2
 refine⟨⟨⟨_,_,u.free⟩,rfl,rfl,?_,?_,q.free⟩,f03.set (by omega) (by omega) _⟩
 ·refine SL.lp aP (N:=h.next) (SL.keep (q1.low (by simp[bc])|>.fr f2.ok f3) fun b hb=> ?_) (f3.ok.set (by omega) _) fun b h1 h2 _=>⟨h1,h2⟩
  have:=(q1.blk_lt f2.ok hb).1
  simp[bc]at this
  exact Heap.get_set_ne _ _ (by omega)
 ·refine SL.lp aP (N:=h.next) (SL.keep (q2.low f02.next) fun b hb=> ?_) (f3.ok.set (by omega) _) fun b h1 h2 _=>⟨h1,h2⟩
  have:=(q2.blk_lt f3.ok hb).1
  exact Heap.get_set_ne _ _ (by omega)
theorem own2 {h:Heap} (hk:HOK h) (hp:0<h.next) {P:Nat ->Prop} {u:Value} {w:List Int} (q:IsRow P h u w) (hl:w.length<=100000):
  CW CC 95 [u] h fun r h'=>(∃u',r=u'/\ bF (jB u')=true/\ IsRow (fun b=>h.next<=b/\ b<h'.next) h' u' w)/\ Fr h h':=by
 refine aw Tryz.f95 (by kernel_rfl) (by kernel_rfl) rfl rfl ?_
 simp only[Tryz.f95]
 simp(maxDischargeDepth:=30)only[AA,↓reduceIte,Q1,Q2,Q3,Q4,reduceCtorEq,Q5,Q6,Q7,XH,fT,hk]
 refine aC (clone_ints.clone aP hk hp q.1.1 (fun x _=>dW x) hl) ?_
 rintro v1 h2 ⟨q1,_,f2⟩
 have q0:=q1
 obtain⟨d1,k1,rfl⟩:=q1.value
 simp(maxDischargeDepth:=30)only[AA,↓reduceIte,Q1,Q2,Q3,Q4,reduceCtorEq,Q5,Q6,Q7,XH,fT,f2.ok]
 refine⟨⟨_,rfl,rfl,q1.lp aP f2.ok fun b h1 h2 _=>⟨h1,h2⟩,fun hn=> ?_⟩,f2⟩
 rcases q0 with⟨_,_,e⟩|⟨b,e,hb,_⟩
 ·exact absurd (List.eq_nil_of_length_eq_zero e) hn
 ·rw[e];exact⟨b -1,0,some 1,_,by rw[Nat.sub_add_cancel (by omega)],Nat.le_refl _⟩
theorem own3 {h:Heap} (hk:HOK h) (hp:0<h.next) {P:Nat ->Prop} {u:StrokeV} {w:BStroke} (q:IsStroke P h u w) (hl:w.needs.length<=100000):
  CW CC 97 [.agg ⟨u.cells⟩] h fun r h'=>(∃u',r= .agg ⟨u'.cells⟩/\ bF u'.cells=true/\ IsStroke (fun b=>h.next<=b/\ b<h'.next) h' u' w)/\ Fr h h':=by
 refine aw Tryz.f97 (by kernel_rfl) (by kernel_rfl) rfl rfl ?_
 simp only[Tryz.f97,StrokeV.cells]
 obtain⟨p1,c1,e1,_⟩:=q.needs.1.open
 have l1:=q.needs.1
 rw[e1]at l1
 rw[e1]
 have f1:=aI [.row [.int .i64 u.board, .bool u.round, .int .i64 u.lo, .int .i64 u.hi, .slice p1 w.needs.length c1] 0 true, .row [.int .i64 0, .bool false, .int .i64 0, .int .i64 0, .slice none 0 0] 0 true] (Fr.refl hk)
 simp(maxDischargeDepth:=30)only[AA,↓reduceIte,Q1,Q2,Q3,Q4,reduceCtorEq,Q5,Q6,Q7,XH,vE,cG,cM,Hf,bJ,aV,ba,gq,bm,bh,uK,hk]
 refine aC (clone_ints.clone aP f1.ok (by simp[bc]) (l1.fr hk f1) (fun x _=>dW x) hl) ?_
 rintro v1 h2 ⟨q1,_,f2⟩
 have f02:=f1.trans f2
 obtain⟨d1,k1,rfl⟩:=q1.value
 have n2:=f2.next
 simp only[bc]at n2
 have n2:h.next+2<=h2.next:=n2
 simp(maxDischargeDepth:=30)only[AA,↓reduceIte,Q1,Q2,Q3,Q4,reduceCtorEq,Q5,Q6,Q7,XH,vE,cG,cM,Hf,bJ,aV,ba,gq,bm,bh,uK,f2.ok,f2.S,show h.next<h2.next by omega,show h.next+1<h2.next by omega]
 refine⟨⟨⟨u.board,u.round,u.lo,u.hi, .slice d1 w.needs.length k1⟩,rfl,rfl,q.board,q.round,q.lo,q.hi,?_⟩,(f02.set (by omega) (by omega) _).set (by omega) (by simp;omega) _⟩
 refine SL.lp aP (N:=h.next) (SL.keep (q1.low (by simp[bc])) fun b hb=> ?_) ((f2.ok.set (by omega) _).set (by simp;omega) _) fun b h1 h2 _=>⟨h1,h2⟩
 have:=(q1.blk_lt f2.ok hb).1
 simp[bc]at this
 rw[Heap.get_set_ne _ _ (by omega),Heap.get_set_ne _ _ (by omega)]
set_option maxRecDepth 10000 in
theorem EY {h:Heap} (hk:HOK h) (hp:0<h.next) {P:Nat ->Prop} {v:Value} {ws:List LWord} (q:LN P IsWord WordV.cells 3 h v ws) (hn:ws.length<=1000) (hb: ∀w∈ws,w.signs.length<=100000/\ w.cuts.length<=100000):
  CW CC 90 [v, .func (.func 91) ⟨[]⟩ ⟨[]⟩] h fun r h'=>LN (fun b=>h.next<=b/\ b<h'.next) IsWord WordV.cells 3 h' r ws/\ Fr h h':=by
 obtain⟨xs,qx,qr⟩:=q
 have xl:xs.length=ws.length:=qr.1
 refine aw Tryz.f90 (by kernel_rfl) (by kernel_rfl) rfl rfl ?_
 simp only[Tryz.f90]
 simp(maxDischargeDepth:=30)only[AA,↓reduceIte,Q1,Q2,Q3,Q4,reduceCtorEq,Q5,Q6,Q7,XH,wg,hk]
 refine aC (clone_words.clone WordV.len hk hp qx.1 (fun x hx=>by
  obtain⟨j,hj⟩:=List.mem_iff_getElem?.1 hx
  obtain⟨w,hw⟩: ∃w,ws[j]? =some w:=⟨_,List.getElem?_eq_getElem (by rw[<-xl];exact(List.getElem?_eq_some_iff.1 hj).1)⟩
  exact(qr.2 j x w hj hw).one) (by omega)) ?_
 rintro r h1 ⟨q1,_,f1⟩
 obtain⟨p,c,rfl⟩:=q1.value
 simp(maxDischargeDepth:=30)only[AA,↓reduceIte,Q1,Q2,Q3,Q4,reduceCtorEq,Q5,Q6,Q7,XH,wg,f1.ok]
 refine dN [6,7,12,13,14,15,16,17,18,19,20,21,22,23] 12 xs.length (fun i g h'=> ∃us,us.length=i/\ SL h.next h' (.slice p xs.length c) ((us++xs.drop i).flatMap WordV.cells) 3 xs.length/\ LR (IsWord fun b=>h1.next<=b/\ b<h'.next) h' us (ws.take i)/\ Fr h h'/\ h1.next<=h'.next)
  (by simp only[aa,↓reduceIte]) ⟨[],rfl,q1,⟨rfl,fun j u w hu=>by simp at hu⟩,f1,Nat.le_refl _⟩ ?_ ?_
 ·rintro i g h3 hi ag g12 ⟨us,hu,qs,hr,f3,n3⟩ ih
  rcases qs with⟨_,_,e3⟩|⟨b,e,b0,bN,bg,bl⟩
  ·omega
  simp only[Value.slice.injEq,true_and]at e
  obtain⟨rfl,rfl⟩:=e
  obtain⟨x,gx⟩: ∃x,xs[i]? =some x:=⟨_,List.getElem?_eq_getElem hi⟩
  obtain⟨w,gw⟩: ∃w,ws[i]? =some w:=⟨_,List.getElem?_eq_getElem (by omega)⟩
  have t1:=EM WordV.len (Ev hu gx)
  have rb:rowAt h3 b=some ((us++xs.drop i).flatMap WordV.cells):=by unfold rowAt;rw[bg];rfl
  have nb:=aF f3.ok bg
  have hx:=qr.2 i x w gx gw
  have o1:=hx.one
  have l1:=WordV.len x
  have t0:aA (WordV.cells x) 0 3=some (WordV.cells x):=rfl
  have f3':=aI [.row (WordV.cells x) 0 true] (Fr.refl f3.ok)
  simp(maxDischargeDepth:=30)only[AA,↓reduceIte,Q1,Q2,Q3,Q4,reduceCtorEq,Q5,Q6,Q7,XH,wg,ag.r,NE,g12,f3.ok,cX hi,hi,rb,t0,t1,l1,o1,zi,ff,ju,List.append_nil]
  refine aC (own1 f3'.ok (by have:=f3'.next;have:=f3.next;omega) ((hx.fr hk f3).fr f3.ok f3') (hb w (List.mem_of_getElem? gw))) ?_
  rintro _ h4 ⟨⟨u',rfl,o2,hu'⟩,f4⟩
  have f4:=f3'.trans f4
  have bg4:=f4.get' f3.ok bg
  have b1:b<h1.next:=(q1.blk_lt f1.ok rfl).2
  have w1:=C2 WordV.len (by omega) (xs:=us++xs.drop i) (i:=i) u' (by simp;omega)
  rw[Eu u' hu gx]at w1
  have l2:=WordV.len u'
  have n4:=f4.next
  simp(maxDischargeDepth:=30)only[AA,↓reduceIte,Q1,Q2,Q3,Q4,reduceCtorEq,Q5,Q6,Q7,XH,wg,ag.r,NE,g12,f4.ok,hi,bg4,l2,o2,w1,bp hi (by omega)]
  refine ih _ _ (by simp only[AG,Nat.reduceEqDiff,ag]) (by simp only[aa,↓reduceIte]) ⟨us++[u'],by simp[hu], .inr ⟨b,rfl,b0,bN,am _ _ _,by rw[gP WordV.len];simp;omega⟩,LR.snoc (hr.map fun y z hy=> ?_) hu gw ?_,(f3.trans f4).set bN (by omega) _,by simp;omega⟩
  ·refine(hy.mono (P':=fun b'=>(h1.next<=b'/\ b'<h3.next)/\ h1.next<=b'/\ b'<h4.next) fun b' hb'=>⟨hb',by omega,by omega⟩).keep (fun b' hb'=> ?_)|>.mono fun b' hb'=>hb'.2
   rw[Heap.get_set_ne _ _ (by omega)]
   exact f4.get _ (by omega)
  ·refine(hu'.mono (P':=fun b'=>h1.next<=b'/\ b'<h4.next) fun b' hb'=> ?_).keep fun b' hb'=>Heap.get_set_ne _ _ (by omega)
   have:=hb'.1
   rw[bc]at this;exact⟨by omega,hb'.2⟩
 ·rintro g h3 ag g12 ⟨us,hu,qs,hr,f3,n3⟩
  simp(maxDischargeDepth:=30)only[AA,↓reduceIte,Q1,Q2,Q3,Q4,reduceCtorEq,Q5,Q6,Q7,XH,wg,ag.r,NE,g12,f3.ok,dL]
  rw[List.drop_length,List.append_nil]at qs
  rw[show ws.take xs.length=ws by rw[xl,List.take_length]]at hr
  have:=f1.next
  refine⟨⟨us,?_,hr.map fun y z hy=>hy.mono fun b hb=>⟨by omega,hb.2⟩⟩,f3⟩
  rw[<-hu]at qs⊢
  exact qs.lp WordV.len f3.ok fun b h1 h2 _=>⟨h1,h2⟩
set_option maxRecDepth 10000 in
theorem Ca {h:Heap} (hk:HOK h) (hp:0<h.next) {P:Nat ->Prop} {v:Value} {ws:List BStroke} (q:LN P IsStroke StrokeV.cells 5 h v ws) (hn:ws.length<=1000) (hb: ∀w∈ws,w.needs.length<=100000):
  CW CC 96 [v, .func (.func 97) ⟨[]⟩ ⟨[]⟩] h fun r h'=>LN (fun b=>h.next<=b/\ b<h'.next) IsStroke StrokeV.cells 5 h' r ws/\ Fr h h':=by
 obtain⟨xs,qx,qr⟩:=q
 have xl:xs.length=ws.length:=qr.1
 refine aw Tryz.f96 (by kernel_rfl) (by kernel_rfl) rfl rfl ?_
 simp only[Tryz.f96]
 simp(maxDischargeDepth:=30)only[AA,↓reduceIte,Q1,Q2,Q3,Q4,reduceCtorEq,Q5,Q6,Q7,XH,wa,hk]
 refine aC (clone_strokes.clone StrokeV.len hk hp qx.1 (fun x hx=>by
  obtain⟨j,hj⟩:=List.mem_iff_getElem?.1 hx
  obtain⟨w,hw⟩: ∃w,ws[j]? =some w:=⟨_,List.getElem?_eq_getElem (by rw[<-xl];exact(List.getElem?_eq_some_iff.1 hj).1)⟩
  exact(qr.2 j x w hj hw).one) (by omega)) ?_
 rintro r h1 ⟨q1,_,f1⟩
 obtain⟨p,c,rfl⟩:=q1.value
 simp(maxDischargeDepth:=30)only[AA,↓reduceIte,Q1,Q2,Q3,Q4,reduceCtorEq,Q5,Q6,Q7,XH,wa,f1.ok]
 refine dN [6,7,12,13,14,15,16,17,18,19,20,21,22,23] 12 xs.length (fun i g h'=> ∃us,us.length=i/\ SL h.next h' (.slice p xs.length c) ((us++xs.drop i).flatMap StrokeV.cells) 5 xs.length/\ LR (IsStroke fun b=>h1.next<=b/\ b<h'.next) h' us (ws.take i)/\ Fr h h'/\ h1.next<=h'.next)
  (by simp only[aa,↓reduceIte]) ⟨[],rfl,q1,⟨rfl,fun j u w hu=>by simp at hu⟩,f1,Nat.le_refl _⟩ ?_ ?_
 ·rintro i g h3 hi ag g12 ⟨us,hu,qs,hr,f3,n3⟩ ih
  rcases qs with⟨_,_,e3⟩|⟨b,e,b0,bN,bg,bl⟩
  ·omega
  simp only[Value.slice.injEq,true_and]at e
  obtain⟨rfl,rfl⟩:=e
  obtain⟨x,gx⟩: ∃x,xs[i]? =some x:=⟨_,List.getElem?_eq_getElem hi⟩
  obtain⟨w,gw⟩: ∃w,ws[i]? =some w:=⟨_,List.getElem?_eq_getElem (by omega)⟩
  have t1:=EM StrokeV.len (Ev hu gx)
  have rb:rowAt h3 b=some ((us++xs.drop i).flatMap StrokeV.cells):=by unfold rowAt;rw[bg];rfl
  have nb:=aF f3.ok bg
  have hx:=qr.2 i x w gx gw
  have o1:=hx.one
  have l1:=StrokeV.len x
  have t0:aA (StrokeV.cells x) 0 5=some (StrokeV.cells x):=rfl
  have f3':=aI [.row (StrokeV.cells x) 0 true] (Fr.refl f3.ok)
  simp(maxDischargeDepth:=30)only[AA,↓reduceIte,Q1,Q2,Q3,Q4,reduceCtorEq,Q5,Q6,Q7,XH,wa,ag.r,NE,g12,f3.ok,cX hi,hi,rb,t0,t1,l1,o1,uK,ff,ju,List.append_nil]
  refine aC (own3 f3'.ok (by have:=f3'.next;have:=f3.next;omega) ((hx.fr hk f3).fr f3.ok f3') (hb w (List.mem_of_getElem? gw))) ?_
  rintro _ h4 ⟨⟨u',rfl,o2,hu'⟩,f4⟩
  have f4:=f3'.trans f4
  have bg4:=f4.get' f3.ok bg
  have b1:b<h1.next:=(q1.blk_lt f1.ok rfl).2
  have w1:=C2 StrokeV.len (by omega) (xs:=us++xs.drop i) (i:=i) u' (by simp;omega)
  rw[Eu u' hu gx]at w1
  have l2:=StrokeV.len u'
  have n4:=f4.next
  simp(maxDischargeDepth:=30)only[AA,↓reduceIte,Q1,Q2,Q3,Q4,reduceCtorEq,Q5,Q6,Q7,XH,wa,ag.r,NE,g12,f4.ok,hi,bg4,l2,o2,w1,bp hi (by omega)]
  refine ih _ _ (by simp only[AG,Nat.reduceEqDiff,ag]) (by simp only[aa,↓reduceIte]) ⟨us++[u'],by simp[hu], .inr ⟨b,rfl,b0,bN,am _ _ _,by rw[gP StrokeV.len];simp;omega⟩,LR.snoc (hr.map fun y z hy=> ?_) hu gw ?_,(f3.trans f4).set bN (by omega) _,by simp;omega⟩
  ·refine(hy.mono (P':=fun b'=>(h1.next<=b'/\ b'<h3.next)/\ h1.next<=b'/\ b'<h4.next) fun b' hb'=>⟨hb',by omega,by omega⟩).keep (fun b' hb'=> ?_)|>.mono fun b' hb'=>hb'.2
   rw[Heap.get_set_ne _ _ (by omega)]
   exact f4.get _ (by omega)
  ·refine(hu'.mono (P':=fun b'=>h1.next<=b'/\ b'<h4.next) fun b' hb'=> ?_).keep fun b' hb'=>Heap.get_set_ne _ _ (by omega)
   have:=hb'.1
   rw[bc]at this;exact⟨by omega,hb'.2⟩
 ·rintro g h3 ag g12 ⟨us,hu,qs,hr,f3,n3⟩
  simp(maxDischargeDepth:=30)only[AA,↓reduceIte,Q1,Q2,Q3,Q4,reduceCtorEq,Q5,Q6,Q7,XH,wa,ag.r,NE,g12,f3.ok,dL]
  rw[List.drop_length,List.append_nil]at qs
  rw[show ws.take xs.length=ws by rw[xl,List.take_length]]at hr
  have:=f1.next
  refine⟨⟨us,?_,hr.map fun y z hy=>hy.mono fun b hb=>⟨by omega,hb.2⟩⟩,f3⟩
  rw[<-hu]at qs⊢
  exact qs.lp StrokeV.len f3.ok fun b h1 h2 _=>⟨h1,h2⟩
set_option maxRecDepth 10000 in
theorem H7 {h:Heap} (hk:HOK h) (hp:0<h.next) {P:Nat ->Prop} {v:Value} {ws:List (List Int)} (q:LN P IsRow jB 1 h v ws) (hn:ws.length<=1000) (hb: ∀w∈ws,w.length<=100000):
  CW CC 94 [v, .func (.func 95) ⟨[]⟩ ⟨[]⟩] h fun r h'=>LN (fun b=>h.next<=b/\ b<h'.next) IsRow jB 1 h' r ws/\ Fr h h':=by
 obtain⟨xs,qx,qr⟩:=q
 have xl:xs.length=ws.length:=qr.1
 refine aw Tryz.f94 (by kernel_rfl) (by kernel_rfl) rfl rfl ?_
 simp only[Tryz.f94]
 simp(maxDischargeDepth:=30)only[AA,↓reduceIte,Q1,Q2,Q3,Q4,reduceCtorEq,Q5,Q6,Q7,XH,we,hk]
 refine aC (clone_rows.clone jU hk hp qx.1 (fun x hx=>by
  obtain⟨j,hj⟩:=List.mem_iff_getElem?.1 hx
  obtain⟨w,hw⟩: ∃w,ws[j]? =some w:=⟨_,List.getElem?_eq_getElem (by rw[<-xl];exact(List.getElem?_eq_some_iff.1 hj).1)⟩
  exact(qr.2 j x w hj hw).one) (by omega)) ?_
 rintro r h1 ⟨q1,_,f1⟩
 obtain⟨p,c,rfl⟩:=q1.value
 simp(maxDischargeDepth:=30)only[AA,↓reduceIte,Q1,Q2,Q3,Q4,reduceCtorEq,Q5,Q6,Q7,XH,we,f1.ok]
 refine dN [6,7,12,13,14,15,16,17,18,19,20,21,22,23] 12 xs.length (fun i g h'=> ∃us,us.length=i/\ SL h.next h' (.slice p xs.length c) ((us++xs.drop i).flatMap jB) 1 xs.length/\ LR (IsRow fun b=>h1.next<=b/\ b<h'.next) h' us (ws.take i)/\ Fr h h'/\ h1.next<=h'.next)
  (by simp only[aa,↓reduceIte]) ⟨[],rfl,q1,⟨rfl,fun j u w hu=>by simp at hu⟩,f1,Nat.le_refl _⟩ ?_ ?_
 ·rintro i g h3 hi ag g12 ⟨us,hu,qs,hr,f3,n3⟩ ih
  rcases qs with⟨_,_,e3⟩|⟨b,e,b0,bN,bg,bl⟩
  ·omega
  simp only[Value.slice.injEq,true_and]at e
  obtain⟨rfl,rfl⟩:=e
  obtain⟨x,gx⟩: ∃x,xs[i]? =some x:=⟨_,List.getElem?_eq_getElem hi⟩
  obtain⟨w,gw⟩: ∃w,ws[i]? =some w:=⟨_,List.getElem?_eq_getElem (by omega)⟩
  have t1:=EM jU (Ev hu gx)
  have rb:rowAt h3 b=some ((us++xs.drop i).flatMap jB):=by unfold rowAt;rw[bg];rfl
  have nb:=aF f3.ok bg
  have hx:=qr.2 i x w gx gw
  have o1:=hx.one
  have l1:=jU x
  obtain⟨px,cx,ex,_⟩:=LS.open hx.1.1
  subst ex
  have t1':((us++xs.drop i).flatMap jB)[i]? =some (.slice px w.length cx):=by rw[yd];exact Ev hu gx
  simp(maxDischargeDepth:=30)only[AA,↓reduceIte,Q1,Q2,Q3,Q4,reduceCtorEq,Q5,Q6,Q7,XH,we,ag.r,NE,g12,f3.ok,cX hi,hi,rb,Nat.mul_one,t1',ff,ju,List.append_nil]
  refine aC (own2 f3.ok (by have:=f3.next;omega) (hx.fr hk f3) (hb w (List.mem_of_getElem? gw))) ?_
  rintro u' h4 ⟨⟨_,rfl,o2,hu'⟩,f4⟩
  have bg4:=f4.get' f3.ok bg
  have b1:b<h1.next:=(q1.blk_lt f1.ok rfl).2
  have w1:=OE (xs:=us++xs.drop i) (i:=i) u' (by simp;omega)
  rw[Eu u' hu gx]at w1
  have l2:=jU u'
  have n4:=f4.next
  obtain⟨p2,c2,eu,_⟩:=LS.open hu'.1.1
  subst eu
  simp only[jB,Nat.mul_one]at w1
  simp(maxDischargeDepth:=30)only[AA,↓reduceIte,Q1,Q2,Q3,Q4,reduceCtorEq,Q5,Q6,Q7,XH,we,ag.r,NE,g12,f4.ok,hi,bg4,w1,Nat.mul_one,bp hi (by omega)]
  refine ih _ _ (by simp only[AG,Nat.reduceEqDiff,ag]) (by simp only[aa,↓reduceIte]) ⟨us++[.slice p2 w.length c2],by simp[hu], .inr ⟨b,rfl,b0,bN,am _ _ _,by rw[gP jU];simp;omega⟩,LR.snoc (hr.map fun y z hy=> ?_) hu gw ?_,(f3.trans f4).set bN (by omega) _,by simp;omega⟩
  ·refine(hy.mono (P':=fun b'=>(h1.next<=b'/\ b'<h3.next)/\ h1.next<=b'/\ b'<h4.next) fun b' hb'=>⟨hb',by omega,by omega⟩).keep (fun b' hb'=> ?_)|>.mono fun b' hb'=>hb'.2
   rw[Heap.get_set_ne _ _ (by omega)]
   exact f4.get _ (by omega)
  ·refine(hu'.mono (P':=fun b'=>h1.next<=b'/\ b'<h4.next) fun b' hb'=> ?_).keep fun b' hb'=>Heap.get_set_ne _ _ (by omega)
   have:=hb'.1
   exact⟨by omega,hb'.2⟩
 ·rintro g h3 ag g12 ⟨us,hu,qs,hr,f3,n3⟩
  simp(maxDischargeDepth:=30)only[AA,↓reduceIte,Q1,Q2,Q3,Q4,reduceCtorEq,Q5,Q6,Q7,XH,we,ag.r,NE,g12,f3.ok,dL]
  rw[List.drop_length,List.append_nil]at qs
  rw[show ws.take xs.length=ws by rw[xl,List.take_length]]at hr
  have:=f1.next
  refine⟨⟨us,?_,hr.map fun y z hy=>hy.mono fun b hb=>⟨by omega,hb.2⟩⟩,f3⟩
  rw[<-hu]at qs⊢
  exact qs.lp jU f3.ok fun b h1 h2 _=>⟨h1,h2⟩
end Go.Am
