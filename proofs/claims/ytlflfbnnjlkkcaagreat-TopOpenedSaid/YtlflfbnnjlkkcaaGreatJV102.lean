/- Parts V102, V103, V104, V105, V106, V107 of the abstract machine over this program, joined: what each part says stands at its head. -/
import Derived.Test.YtlflfbnnjlkkcaaGreatJV97
import Derived.Test.YtlflfbnnjlkkcaaGreatJV120
set_option linter.unusedSimpArgs false
set_option linter.unusedVariables false
set_option linter.defProp false
open Nat renaming reduceLT→Q1,reduceEqDiff→Q2,reduceAdd→Q3,reduceMul→Q4,reduceLeDiff→Q5
open Int renaming reduceNe→Q6,reduceEq→Q7
namespace Go.Am
open Go Go.Proofs
def jv:=A2 @JC<|A2 @jq<|A2 @YO<|A2 @tJ<|A2 @K0<|A2 @GC<|A2 @ia<|A2 @uV<|A2 @FS @jM
theorem WZ:AppT CC 116 116 2:=qE (by kernel_rfl)
theorem Zi (a b:Value):bn CC 116 1 [(0, .agg ⟨[a,b]⟩)]=some (.new (.row [a,b] 2 true) (aG 2 1 1)):=by kernel_rfl
structure FJ (S:LSheet) (R:List Value) (N b c d l:Nat) (Rl:ALoop) (F:Nat ->Prop) (D:List (List (Nat×Nat))) (h:Heap):Prop where
 ok:HOK h
 ex: ∃us out,(∀i,F i↔i=b \/i=c \/i=d \/i=l \/ay out=some i \/ ∃u,u∈us/\ ay u=some i)/\ h.get b=some (.row R 0 true)/\ h.get c=some (.row [out] 0 true)/\ h.get d=some (.deferred true)/\ h.get l=some (.loop Rl)/\
  SL N h out (us.flatMap kK) 2 us.length/\ LR (fun h u w=>oz N h u w) h us (D.filter fun w=>S.fitsP w 0)/\ ∀u,u∈us -> ∀i,ay u=some i ->ay out≠some i
set_option maxRecDepth 10000 in
set_option maxHeartbeats 4000000 in
theorem Nh {h:Heap} (hk:HOK h) (hp:0<h.next) {u:LetV} {S:LSheet} {m:Nat} (q:IsLet h u S) (qm:HasP S h m) (f:S.Fine):
  CW CC 36 [.agg ⟨S.frontC u m⟩, .slice none 0 0] h fun r h'=>(∃us:List Value,SL h.next h' r (us.flatMap kK) 2 us.length/\ LR (oz h.next) h' us S.fitting)/\ Fr h h':=by
 have SLE:=LSheet.settings_le f
 obtain⟨pw,cw,pp,cp,pd,cd,FF,_⟩:=q.front m
 have FX:=fun {h':Heap} (g:Fr h h') {ev:Value} {es:List (Nat×Nat)} (he:LS h' ev es bV 2) (hE: ∀e∈es,S.EndOK e) (hn:es.length<=100)=>Tc g.ok (Nat.lt_of_lt_of_le hp g.next) (q.fr hk g) (qm.fr hk g) f he hE hn (s:=0) ⟨Int.le_refl _,by decide⟩
 obtain⟨R,hR0⟩: ∃R,R=S.frontC u m:=⟨_,rfl⟩
 rw[<-hR0]at FF FX⊢
 simp only[vb]at FX
 refine CH Tryz.f36 (by kernel_rfl) (by kernel_rfl) rfl rfl ?_
 simp only[Tryz.f36]
 have fA:=aI [.row R 0 true, .row [.slice none 0 0] 0 true] (Fr.refl hk)
 have gb:(h.ex [.row R 0 true, .row [.slice none 0 0] 0 true]).get h.next=some (.row R 0 true):=dG rfl
 have gA:(h.ex [.row R 0 true, .row [.slice none 0 0] 0 true]).get (h.next+1)=some (.row [.slice none 0 0] 0 true):=by rw[jd rfl (by simp)];rfl
 have nA:(h.ex [.row R 0 true, .row [.slice none 0 0] 0 true]).next=h.next+2:=by rw[bc];rfl
 simp(maxDischargeDepth:=30)only[AA,↓reduceIte,Q1,Q2,Q3,Q4,reduceCtorEq,Q5,Q6,Q7,XH,jv,hk,FF.ro,FF.rl,FF.ra,pW]
 generalize(h.ex [.row R 0 true, .row [.slice none 0 0] 0 true])=h0 at fA gb gA nA⊢
 refine aC (IZ fA.ok FF) ?_
 rintro _ hA ⟨rfl,fA2,rT,rB0⟩
 have f0A:=fA.trans fA2
 have n0A:=fA2.next
 have gb:=fA2.get' fA.ok gb
 have gA:=fA2.get' fA.ok gA
 have lb:=aF fA2.ok gb
 have lc:=aF fA2.ok gA
 have lT:=af fA2.ok rT
 have lB0:=af fA2.ok rB0
 have qA:=q.fr hk f0A
 simp(maxDischargeDepth:=30)only[AA,↓reduceIte,Q1,Q2,Q3,Q4,reduceCtorEq,Q5,Q6,Q7,XH,jv,fA2.ok,pW]
 refine rR (P:=fun Rl _ h'=>(∃F,FJ S R h.next h.next (h.next+1) hA.next (hA.next+1) Rl F S.settings h')/\ Fr h h') ?_ ?_
 ·intro Rl hR
  have f4:Fr hA ((hA.alloc (.deferred true)).alloc (.loop Rl)):=((Fr.refl fA2.ok).alloc _).alloc _
  have d4:((hA.alloc (.deferred true)).alloc (.loop Rl)).get hA.next=some (.deferred true):=by rw[cP _ (by simp)];exact dr _ rfl
  have l4:((hA.alloc (.deferred true)).alloc (.loop Rl)).get (hA.next+1)=some (.loop Rl):=dr _ (by simp)
  have c4:=f4.get' fA2.ok gA
  have b4:=f4.get' fA2.ok gb
  have n4:((hA.alloc (.deferred true)).alloc (.loop Rl)).next=hA.next+2:=by simp
  have rT4:=f4.row' fA2.ok rT
  generalize((hA.alloc (.deferred true)).alloc (.loop Rl))=h4 at f4 d4 l4 c4 b4 n4 rT4⊢
  have E:Eats (Uq S) BkS (FJ S R h.next h.next (h.next+1) hA.next (hA.next+1) Rl) (fun _ _=>False) (hA.next+1) h 1000:=by
   refine⟨?_,?_,?_⟩
   ·rintro F D g hJ i hi
    obtain⟨us,out,hF,gb,gc,gd,gl,qo,hR',nd⟩:=hJ.ex
    have a0:=aF hJ.ok gb
    have a1:=aF hJ.ok gc
    have a2:=aF hJ.ok gd
    have a3:=aF hJ.ok gl
    rcases(hF i).1 hi with rfl|rfl|rfl|rfl|hb|⟨u,hu,hb⟩
    ·omega
    ·omega
    ·omega
    ·omega
    ·exact qo.blk_lt hJ.ok hb
    ·obtain⟨j,hj⟩:=List.mem_iff_getElem?.1 hu
     obtain⟨w,hw,hi⟩:=hR'.get' hj
     exact SL.blk_lt hi hJ.ok hb
   ·rintro F D g g' hJ kg' hn hs
    obtain⟨us,out,hF,gb,gc,gd,gl,qo,hR',nd⟩:=hJ.ex
    refine⟨kg',us,out,hF,?_,?_,?_,?_,?_,?_,nd⟩
    ·rw[hs _ ((hF _).2 (by simp))];exact gb
    ·rw[hs _ ((hF _).2 (by simp))];exact gc
    ·rw[hs _ ((hF _).2 (by simp))];exact gd
    ·rw[hs _ ((hF _).2 (by simp))];exact gl
    ·exact qo.keep fun b hb=>hs _ ((hF _).2 (by simp[hb]))
    ·refine⟨hR'.1,fun j u w hu hw=>SL.keep (hR'.2 j u w hu hw) fun b hb=>hs _ ((hF _).2 (.inr (.inr (.inr (.inr (.inr ⟨u,List.mem_of_getElem? hu,hb⟩))))))⟩
   ·rintro F D g v w kg hg0 fg hJ ⟨⟨uv,rfl,hI⟩,hEw,hlw⟩ hdis0 dl
    have hdis: ∀b,ay uv=some b -> ¬F b:=fun b hb=>hdis0 b ⟨uv,rfl,hb⟩
    obtain⟨us,out,hF,gb,gc,gd,gl,qo,hR',nd⟩:=hJ.ex
    have rok:pt Rl.state=true:=by rw[hR];rfl
    have hA1:Rl.assign=_:=congrArg ALoop.assign hR
    have hA2:Rl.body=_:=congrArg ALoop.body hR
    have hA3:Rl.params=_:=congrArg ALoop.params hR
    have hA4:Rl.tmps=_:=congrArg ALoop.tmps hR
    have hR1:(Rl.turn .busy Rl.pending).turn (gK none) none=Rl:=by rw[hR];rfl
    simp only[iN]at hA1 hA2 hA3 hA4
    clear hR
    refine uQ gl (by rw[hA3];rfl) ?_
    rw[hA1,hA2,hA3,hA4,oW]
    have lg:=aF kg gl
    have cg:=aF kg gc
    have dg:=aF kg gd
    obtain⟨pv,cv,rfl⟩:=SL.value hI
    obtain⟨po,co,rfl⟩:=qo.value
    simp only[kK]
    simp(maxDischargeDepth:=30)only[AA,↓reduceIte,Q1,Q2,Q3,Q4,reduceCtorEq,Q5,Q6,Q7,XH,jv,kg]
    have fg1:=aI [.row [.slice none 0 0, .slice pv w.length cv] 0 true] (Fr.refl kg)
    have r1:rowAt (g.ex [.row [.slice none 0 0, .slice pv w.length cv] 0 true]) g.next=some [.slice none 0 0, .slice pv w.length cv]:=aZ rfl
    have n1:(g.ex [.row [.slice none 0 0, .slice pv w.length cv] 0 true]).next=g.next+1:=by rw[bc];rfl
    generalize(g.ex [.row [.slice none 0 0, .slice pv w.length cv] 0 true])=g1 at fg1 r1 n1⊢
    have gl1:=fg1.get' kg gl
    have gb1:=fg1.get' kg gb
    have gc1:=fg1.get' kg gc
    have gd1:=fg1.get' kg gd
    have qo1:=qo.fr kg fg1
    have hI1:oz h.next g1 (.slice pv w.length cv) w:=SL.fr hI kg fg1
    simp(maxDischargeDepth:=30)only[AA,↓reduceIte,Q1,Q2,Q3,Q4,reduceCtorEq,Q5,Q6,Q7,XH,jv,fg1.ok,zS gl1 rok]
    have qB:SL h.next (g1.set (hA.next+1) (.loop (Rl.turn .busy Rl.pending))) (.slice po us.length co) (us.flatMap kK) 2 us.length:=qo1.keep fun b hb=>Heap.get_set_ne _ _ (fun e=>by subst e;exact qo1.not gl1 (by simp) hb)
    have iB:oz h.next (g1.set (hA.next+1) (.loop (Rl.turn .busy Rl.pending))) (.slice pv w.length cv) w:=SL.keep hI1 fun b hb=>Heap.get_set_ne _ _ (fun e=>by subst e;exact SL.not hI1 gl1 (by simp) hb)
    have fB:Fr h (g1.set (hA.next+1) (.loop (Rl.turn .busy Rl.pending))):=(fg.trans fg1).set (by omega) (by omega) _
    have bB:(g1.set (hA.next+1) (.loop (Rl.turn .busy Rl.pending))).get h.next=some (.row R 0 true):=by rw[Heap.get_set_ne _ _ (by omega)];exact gb1
    have cB:(g1.set (hA.next+1) (.loop (Rl.turn .busy Rl.pending))).get (h.next+1)=some (.row [.slice po us.length co] 0 true):=by rw[Heap.get_set_ne _ _ (by omega)];exact gc1
    have dB:(g1.set (hA.next+1) (.loop (Rl.turn .busy Rl.pending))).get hA.next=some (.deferred true):=by rw[Heap.get_set_ne _ _ (by omega)];exact gd1
    have lB:(g1.set (hA.next+1) (.loop (Rl.turn .busy Rl.pending))).get (hA.next+1)=some (.loop (Rl.turn .busy Rl.pending)):=am _ _ _
    have oB: ∀i,i<g.next ->i≠hA.next+1 ->(g1.set (hA.next+1) (.loop (Rl.turn .busy Rl.pending))).get i=g.get i:=fun i hl hi=>by rw[Heap.get_set_ne _ _ hi];exact fg1.get i hl
    have nB:(g1.set (hA.next+1) (.loop (Rl.turn .busy Rl.pending))).next=g.next+1:=by rw[Heap.next_set];exact n1
    have r1B:rowAt (g1.set (hA.next+1) (.loop (Rl.turn .busy Rl.pending))) g.next=some [.slice none 0 0, .slice pv w.length cv]:=by unfold rowAt;rw[Heap.get_set_ne _ _ (by omega)];exact r1
    generalize(g1.set (hA.next+1) (.loop (Rl.turn .busy Rl.pending)))=hB at qB iB fB bB cB dB lB oB nB r1B⊢
    have rb1:rowAt hB h.next=some R:=by unfold rowAt;rw[bB];rfl
    have fn:=fB.next
    have mb1:=af fB.ok rb1
    have mr1:=af fB.ok r1B
    simp(maxDischargeDepth:=30)only[AA,↓reduceIte,Q1,Q2,Q3,Q4,reduceCtorEq,Q5,Q6,Q7,XH,jv,fB.ok,r1B,rb1,mb1,mr1,FF.ra]
    refine aC (FX fB (SL.ls fN iB) hEw (by omega)) ?_
    rintro _ h4 ⟨rfl,f4⟩
    have f14:=f4
    have n4:=f14.next
    have c4:=f14.get' fB.ok cB
    have b4:=f14.get' fB.ok bB
    have d4:=f14.get' fB.ok dB
    have l4:=f14.get' fB.ok lB
    have r4:=f4.row' fB.ok r1B
    have gO4: ∀i,i<g.next ->i≠hA.next+1 ->h4.get i=g.get i:=fun i hi h1=>by rw[f14.get i (by omega)];exact oB i hi h1
    have ul:us.length<=D.length:=by rw[hR'.1];exact List.length_filter_le _ _
    have g2: ∀u,u∈us -> ∀b,ay u=some b ->b<g.next/\ b≠h.next+1/\ b≠hA.next+1:=fun u hu b hb=>by
     obtain⟨j,hj⟩:=List.mem_iff_getElem?.1 hu
     obtain⟨w',hw,hi⟩:=hR'.get' hj
     exact⟨(SL.blk_lt hi kg hb).2,fun e=>by subst e;exact SL.tag hi gc (by omega) hb,fun e=>by subst e;exact SL.not hi gl (by simp) hb⟩
    have gw: ∀b,ay (.slice pv w.length cv)=some b ->b<g.next/\ b≠h.next+1/\ b≠hA.next+1/\ ay (.slice po us.length co)≠some b:=fun b hb=>
     ⟨(SL.blk_lt hI kg hb).2,fun e=>hdis b hb ((hF b).2 (by simp[e])),fun e=>hdis b hb ((hF b).2 (by simp[e])),fun e=>hdis b hb ((hF b).2 (by simp[e]))⟩
    have tc:ay (.slice po us.length co)≠some (h.next+1):=qB.tag cB (by omega)
    have tb:ay (.slice po us.length co)≠some h.next:=qB.tag bB (by omega)
    have tl:ay (.slice po us.length co)≠some (hA.next+1):=qB.not lB (by simp)
    have td:ay (.slice po us.length co)≠some hA.next:=qB.not dB (by simp)
    cases z:S.fitsP w 0 with
    |false=>
     have efl:(D++[w]).filter (fun w=>S.fitsP w 0)=D.filter fun w=>S.fitsP w 0:=by rw[List.filter_append];simp[z]
     simp(maxDischargeDepth:=30)only[AA,↓reduceIte,Q1,Q2,Q3,Q4,reduceCtorEq,Q5,Q6,Q7,XH,jv,f4.ok]
     refine⟨none,_,rfl,trivial,l4,?_, .inl ⟨rfl,F,fun i hi=> .inl hi,?_⟩⟩
     ·exact⟨f4.ok.set (by omega) _,by simp;omega,fun i hi hn=>by
       have:i≠hA.next+1:=fun e=>hn ((hF i).2 (by simp[e]))
       rw[Heap.get_set_ne _ _ this];exact gO4 i hi this⟩
     ·refine⟨f4.ok.set (by omega) _,us, .slice po us.length co,hF,?_,?_,?_,?_,?_,?_,nd⟩
      ·rw[Heap.get_set_ne _ _ (by omega)];exact b4
      ·rw[Heap.get_set_ne _ _ (by omega)];exact c4
      ·rw[Heap.get_set_ne _ _ (by omega)];exact d4
      ·rw[am,hR1]
      ·exact(qB.fr fB.ok f14).keep fun b hb=>Heap.get_set_ne _ _ (fun e=>by subst e;exact tl hb)
      ·rw[efl]
       exact⟨hR'.1,fun j u w' hu hw=>SL.keep (hR'.2 j u w' hu hw) fun b hb=>by
        have:=g2 u (List.mem_of_getElem? hu) b hb
        rw[Heap.get_set_ne _ _ this.2.2];exact gO4 b this.1 this.2.2⟩
    |true=>
     have efl:(D++[w]).filter (fun w=>S.fitsP w 0)=(D.filter fun w=>S.fitsP w 0)++[w]:=by rw[List.filter_append];simp[z]
     have f6:=aI [.row [.slice none 0 0, .slice pv w.length cv] 2 true] (Fr.refl f4.ok)
     have n6:(h4.ex [.row [.slice none 0 0, .slice pv w.length cv] 2 true]).next=h4.next+1:=by rw[bc];rfl
     obtain⟨hC,eC,qC,kC,nC,gC⟩:=dI (ts:=[]) WZ (N:=h.next) f6.ok (by omega) (by omega) ((qB.fr fB.ok f14).fr f4.ok f6) (x:= .slice (some ⟨h4.next,0,some 2⟩) 1 1) (m:=0) (new:=kK (.slice pv w.length cv)) rfl (by
      show ae (rowAt _ h4.next) (fun cells=>aA cells 0 ((0+1)*2))=_
      rw[aZ rfl];rfl) rfl rfl (by omega)
     rw[n6]at eC qC nC gC
     simp only[XH,aG,Nat.zero_add]at eC qC
     have gC4: ∀i,i<h4.next ->ay (.slice po us.length co)≠some i ->hC.get i=h4.get i:=fun i hi h2=>by rw[gC i (by omega) h2,gz (by omega)]
     have cC:hC.get (h.next+1)=some (.row [.slice po us.length co] 0 true):=by rw[gC4 _ (by omega) tc];exact c4
     have bC:hC.get h.next=some (.row R 0 true):=by rw[gC4 _ (by omega) tb];exact b4
     have dC:hC.get hA.next=some (.deferred true):=by rw[gC4 _ (by omega) td];exact d4
     have lC:hC.get (hA.next+1)=some (.loop (Rl.turn .busy Rl.pending)):=by rw[gC4 _ (by omega) tl];exact l4
     have rc4:rowAt h4 (h.next+1)=some [.slice po us.length co]:=by unfold rowAt;rw[c4];rfl
     have mc4:=af f4.ok rc4
     have mr4:=af f4.ok r4
     have fin: ∀i,i<g.next ->i≠h.next+1 ->i≠hA.next+1 ->ay (.slice po us.length co)≠some i -> ∀x y,((hC.set (h.next+1) x).set (hA.next+1) y).get i=g.get i:=fun i hi h1 h2 h3 x y=>by
      rw[Heap.get_set_ne _ _ h2,Heap.get_set_ne _ _ h1,gC4 i (by omega) h3,gO4 i hi h2]
     simp(maxDischargeDepth:=30)only[AA,↓reduceIte,Q1,Q2,Q3,Q4,reduceCtorEq,Q5,Q6,Q7,XH,jv,f4.ok,rc4,mc4,r4,mr4,Zi,aG,eC,kC,cC,List.set_cons_zero]
     have kS:=kC.set (i:=h.next+1) (by omega) (.row [.slice (some ⟨h4.next+1,0,some 2⟩) (us.length+1) (us.length+1)] 0 true)
     refine⟨none,_,rfl,trivial,by rw[Heap.get_set_ne _ _ (by omega)];exact lC,?_, .inl ⟨rfl,fun i=>i=h.next \/i=h.next+1 \/i=hA.next \/i=hA.next+1 \/i=h4.next+1 \/ ∃u,u∈us++[.slice pv w.length cv]/\ ay u=some i,?_,?_⟩⟩
     ·refine⟨kS.set (by simp;omega) _,by simp;omega,fun i hi hn=>fin i hi (fun e=>hn ((hF i).2 (.inr (.inl e)))) (fun e=>hn ((hF i).2 (.inr (.inr (.inr (.inl e)))))) (fun e=>hn ((hF i).2 (.inr (.inr (.inr (.inr (.inl e))))))) _ _⟩
     ·rintro i (h|h|h|h|h|⟨u,hu,hb⟩)
      ·exact .inl ((hF i).2 (.inl h))
      ·exact .inl ((hF i).2 (.inr (.inl h)))
      ·exact .inl ((hF i).2 (.inr (.inr (.inl h))))
      ·exact .inl ((hF i).2 (.inr (.inr (.inr (.inl h)))))
      ·exact .inr (.inr (by omega))
      ·rcases List.mem_append.1 hu with hu|hu
       ·exact .inl ((hF i).2 (.inr (.inr (.inr (.inr (.inr ⟨u,hu,hb⟩))))))
       ·simp at hu;subst hu;exact .inr (.inl ⟨_,rfl,hb⟩)
     ·refine⟨kS.set (by simp;omega) _,us++[.slice pv w.length cv], .slice (some ⟨h4.next+1,0,some 2⟩) (us.length+1) (us.length+1),?_,?_,?_,?_,?_,?_,?_,?_⟩
      ·intro i
       have:(ay (.slice (some ⟨h4.next+1,0,some 2⟩) (us.length+1) (us.length+1))=some i)↔i=h4.next+1:=by simp[ay,eq_comm]
       rw[this]
      ·rw[Heap.get_set_ne _ _ (by omega),Heap.get_set_ne _ _ (by omega)];exact bC
      ·rw[Heap.get_set_ne _ _ (by omega)];exact am _ _ _
      ·rw[Heap.get_set_ne _ _ (by omega),Heap.get_set_ne _ _ (by omega)];exact dC
      ·rw[am,hR1]
      ·rw[List.length_append,List.flatMap_append]
       refine SL.keep (l:=us.flatMap kK++kK (.slice pv w.length cv)) qC fun b hb=> ?_
       simp[ay]at hb;subst hb
       rw[Heap.get_set_ne _ _ (by omega),Heap.get_set_ne _ _ (by omega)]
      ·rw[efl]
       have key: ∀(u:Value) w',u∈us++[.slice pv w.length cv] ->oz h.next g u w' -> ∀x y,oz h.next ((hC.set (h.next+1) x).set (hA.next+1) y) u w':=by
        intro u w' hu hi x y
        refine SL.keep hi fun b hb=> ?_
        rcases List.mem_append.1 hu with hu|hu
        ·have a:=g2 u hu b hb
         exact fin b a.1 a.2.1 a.2.2 (nd u hu b hb) _ _
        ·simp at hu;subst hu
         have a:=gw b hb
         exact fin b a.1 a.2.1 a.2.2.1 a.2.2.2 _ _
       have ule:us.length=(D.filter fun w=>S.fitsP w 0).length:=hR'.1
       refine⟨by simp[ule],fun j u w' hu hw=>key u w' (List.mem_of_getElem? hu) ?_ _ _⟩
       by_cases hj:j<us.length
       ·rw[List.getElem?_append_left hj]at hu
        rw[List.getElem?_append_left (by omega)]at hw
        exact hR'.2 j u w' hu hw
       ·rw[List.getElem?_append_right (by omega)]at hu hw
        have:j -us.length=0:=by
         cases e:j -us.length with
         |zero=>rfl
         |succ n=>rw[e]at hu;simp at hu
        rw[this]at hu
        rw[<-ule,this]at hw
        simp at hu hw
        subst hu;subst hw;exact hI
      ·intro u hu i hb
       have hi:i<g.next:=by
        rcases List.mem_append.1 hu with hu|hu
        ·exact(g2 u hu i hb).1
        ·simp at hu;subst hu;exact(gw i hb).1
       simp[ay];omega
  have lowF: ∀i,(i=h.next \/i=h.next+1 \/i=hA.next \/i=hA.next+1) ->h.next<=i:=fun i hi=>by have:=f0A.next;omega
  obtain⟨rv,h',e,gr,hq⟩:=Vu (u:=u) (m:=m) (pT:=h0.next) (pB:=h0.next+1) f h (FJ S R h.next h.next (h.next+1) hA.next (hA.next+1) Rl) (fun _ _=>False) (hA.next+1) (fun i=>i=h.next \/i=h.next+1 \/i=hA.next \/i=hA.next+1) h4 1000 (f0A.trans f4) (by omega) E (by omega)
   ⟨f4.ok,[], .slice none 0 0,fun i=>by simp[ay],b4,c4,d4,l4,SL.nil _ _ _,⟨rfl,fun j u w hu=>by simp at hu⟩,fun u hu=>by simp at hu⟩
   (fun g hg=>⟨by
    have:=af fA2.ok rB0
    unfold rowAt;rw[hg.get (h0.next+1) (by omega) (by omega)];exact f4.row' fA2.ok rB0,by
    have:=af f4.ok rT4
    unfold rowAt;rw[hg.get h0.next (by omega) (by omega),<-hR0];exact rT4,q.fr hk (hg.fr (f0A.trans f4) lowF)⟩)
  refine⟨rv,h',e,?_,gr.fr (f0A.trans f4) lowF⟩
  rcases hq with⟨F',hJ,_⟩|⟨_,_,_,hn⟩
  ·exact⟨F',hJ⟩
  ·exact hn.elim
 ·rintro Rl hR rv h' ⟨⟨F,hJ⟩,fr⟩
  obtain⟨us,out,hF,gb,gc,gd,gl,qo,hR',nd⟩:=hJ.ex
  refine⟨Rl,gl,by rw[hR];rfl,?_⟩
  have hp':Rl.pending=none:=by rw[hR];rfl
  rw[hp',lQ,nR]
  have k':=hJ.ok
  have ml:=aF k' gl
  have c2:rowAt (h'.set (hA.next+1) (.loop (Rl.turn .exhausted none))) (h.next+1)=some [out]:=by unfold rowAt;rw[Heap.get_set_ne _ _ (by omega),gc];rfl
  have d2:(h'.set (hA.next+1) (.loop (Rl.turn .exhausted none))).get hA.next=some (.deferred true):=by rw[Heap.get_set_ne _ _ (by omega)];exact gd
  have f2:Fr h (h'.set (hA.next+1) (.loop (Rl.turn .exhausted none))):=fr.set (by omega) (by have:=f0A.next;omega) _
  have q2:SL h.next (h'.set (hA.next+1) (.loop (Rl.turn .exhausted none))) out (us.flatMap kK) 2 us.length:=qo.keep fun b hb=>Heap.get_set_ne _ _ (fun e=>by subst e;exact qo.not gl (by simp) hb)
  have r2:LR (fun g u w=>oz h.next g u w) (h'.set (hA.next+1) (.loop (Rl.turn .exhausted none))) us S.fitting:=⟨hR'.1,fun j u w hu hw=>SL.keep (hR'.2 j u w hu hw) fun b hb=>Heap.get_set_ne _ _ (fun e=>by subst e;exact SL.not (hR'.2 j u w hu hw) gl (by simp) hb)⟩
  generalize(h'.set (hA.next+1) (.loop (Rl.turn .exhausted none)))=h2 at c2 d2 f2 q2 r2⊢
  obtain⟨po,co,rfl⟩:=q2.value
  simp(maxDischargeDepth:=30)only[AA,↓reduceIte,Q1,Q2,Q3,Q4,reduceCtorEq,Q5,Q6,Q7,XH,jv,f2.ok,c2]
  simp(maxDischargeDepth:=30)only[AA,↓reduceIte,Q1,Q2,Q3,Q4,reduceCtorEq,Q5,Q6,Q7,XH,jv,pV]
  have fx:=f2.set (i:=hA.next) f0A.next (aF f2.ok d2) (.deferred false)
  refine⟨d2,⟨us,q2.keep fun b hb=>Heap.get_set_ne _ _ (fun e=>by subst e;exact q2.not d2 (by simp) hb),r2.1,fun j u w hu hw=>SL.keep (r2.2 j u w hu hw) fun b hb=>Heap.get_set_ne _ _ (fun e=>by subst e;exact SL.not (r2.2 j u w hu hw) d2 (by simp) hb)⟩,fx⟩
end Go.Am

namespace Go.Am
open Go Go.Proofs
def kU:=A2 @TF<|A2 @vO<|A2 @vN<|A2 @jq<|A2 @mw<|A2 @tJ<|A2 @Lb<|A2 @AN<|A2 @ia<|A2 @KR<|A2 @KQ<|A2 @Al @jM
theorem xh (rows:Nat): ∀(rest now l:List (Nat×Nat)),l∈jz rows rest now ->l.length<=now.length+rest.length
 |[],now,l,h=>by simp[jz]at h
 |e::es,now,l,h=>by
  rw[pj]at h
  rcases List.mem_append.1 h with h|h
  ·unfold jZ at h
   split at h
   ·simp at h;subst h;simp
   ·split at h
    ·have:=xh rows es _ l h;simp at this⊢;omega
    ·simp at h
  ·have:=xh rows es now l h;simp;omega
set_option maxRecDepth 10000 in
set_option maxHeartbeats 4000000 in
theorem P4 {h:Heap} (hk:HOK h) (hp:0<h.next) {u:LetV} {S:LSheet} (q:IsLet h u S) (sm:S.Small):
  CW CC 9 [.agg ⟨S.cells u⟩] h fun r h'=>(∃uv,r= .tuple ⟨[.agg ⟨kK uv⟩, .int .i64 S.setP.2.1, .int .i64 S.setP.2.2]⟩/\ SL h.next h' uv (S.setP.1.flatMap bV) 2 S.setP.1.length)/\ Fr h h':=by
 obtain⟨pw,cw,ew⟩:=q.w.len
 obtain⟨pp,cp,ep⟩:=q.pr.len
 obtain⟨pd,cd,ed⟩:=q.len
 have IX:=fun {h':Heap} (g:Fr h h')=>MR g.ok (q.fr hk g) sm
 have OX:=fun {h':Heap} (g:Fr h h') (ok: ∀i,i<S.pairs.length ->S.pairAt i=true)=>Yh g.ok (q.fr hk g) sm ok
 have FR:=fun m=>q.front m
 obtain⟨R,hR⟩: ∃R,R=S.cells u:=⟨_,rfl⟩
 rw[<-hR]at IX OX⊢
 have Rt:aA R 0 10=some R:=by rw[hR];rfl
 have Rl:R.length=10:=by rw[hR];rfl
 have Ro:bF R=true:=by rw[hR,LSheet.cells,ew,ep,ed];rfl
 refine aw Tryz.f9 (by kernel_rfl) (by kernel_rfl) rfl rfl ?_
 simp only[Tryz.f9]
 have f1:=aI [.row R 0 true, .row [.slice none 0 0, .slice none 0 0] 0 true] (Fr.refl hk)
 have r1:rowAt (h.ex [.row R 0 true, .row [.slice none 0 0, .slice none 0 0] 0 true]) h.next=some R:=aZ rfl
 have g2:(h.ex [.row R 0 true, .row [.slice none 0 0, .slice none 0 0] 0 true]).get (h.next+1)=some (.row [.slice none 0 0, .slice none 0 0] 0 true):=by rw[jd rfl (by simp)];rfl
 simp(maxDischargeDepth:=30)only[AA,↓reduceIte,Q1,Q2,Q3,Q4,reduceCtorEq,Q5,Q6,Q7,XH,kU,hk,Ro,Rl,Rt]
 generalize(h.ex [.row R 0 true, .row [.slice none 0 0, .slice none 0 0] 0 true])=H at f1 r1 g2⊢
 have m1:=af f1.ok r1
 refine aC (IX f1) ?_
 rintro _ h2 ⟨rfl,f2⟩
 have f02:=f1.trans f2
 have r12:=f2.row' f1.ok r1
 have g22:=f2.get' f1.ok g2
 have m12:=af f2.ok r12
 have l22:=aF f2.ok g22
 unfold LSheet.setP
 cases ok:S.ok with
 |false=>
  have k3:=f02.set (i:=h.next+1) (by omega) l22 (.row [.slice none 0 0, .slice none 0 0] 0 true)
  have rr:rowAt (h2.set (h.next+1) (.row [.slice none 0 0, .slice none 0 0] 0 true)) (h.next+1)=some [.slice none 0 0, .slice none 0 0]:=by unfold rowAt;rw[am];rfl
  simp(maxDischargeDepth:=30)only[AA,↓reduceIte,Q1,Q2,Q3,Q4,reduceCtorEq,Q5,Q6,Q7,XH,kU,f2.ok,g22,k3.ok]
  exact⟨⟨_,rfl,SL.nil _ _ _⟩,k3⟩
 |true=>
 have fn:=LSheet.fine ok
 simp(maxDischargeDepth:=30)only[AA,↓reduceIte,Q1,Q2,Q3,Q4,reduceCtorEq,Q5,Q6,Q7,XH,kU,f2.ok,r12,m12,Rt]
 refine aC (OX f02 fn.pairs) ?_
 rintro _ h3 ⟨⟨m,rfl,lm,hm⟩,f3⟩
 have f03:=f02.trans f3
 have g23:=f3.get' f2.ok g22
 obtain⟨_,_,_,_,_,_,F,_⟩:=FR m
 have FX:=fun {h':Heap} (g:Fr h3 h')=>Nh g.ok (Nat.lt_of_lt_of_le hp (f03.trans g).next) (q.fr hk (f03.trans g)) (hm.fr f3.ok g) fn
 have BX:=fun {h':Heap} (g:Fr h3 h')=> @NF h' g.ok (Nat.lt_of_lt_of_le hp (f03.trans g).next) h.next u S m (q.fr hk (f03.trans g)) (hm.fr f3.ok g) fn
 have SX:=fun {h':Heap} (g:Fr h3 h')=> @wR h' g.ok (Nat.lt_of_lt_of_le hp (f03.trans g).next) u S m (q.fr hk (f03.trans g)) (hm.fr f3.ok g) fn
 obtain⟨T,hT⟩: ∃T,T=S.frontC u m:=⟨_,rfl⟩
 rw[<-hT]at F FX BX SX⊢
 have f4:=aI [.row T 0 true] (Fr.refl f3.ok)
 have r4:rowAt (h3.ex [.row T 0 true]) h3.next=some T:=aZ rfl
 simp(maxDischargeDepth:=30)only[AA,↓reduceIte,Q1,Q2,Q3,Q4,reduceCtorEq,Q5,Q6,Q7,XH,kU,f3.ok,F.ro,F.rl,F.ra]
 generalize(h3.ex [.row T 0 true])=h4 at f4 r4⊢
 have m4:=af f4.ok r4
 have g24:=f4.get' f3.ok g23
 refine aC (FX f4) ?_
 rintro r h5 ⟨⟨us,so,lr⟩,f5⟩
 have f35:=f4.trans f5
 have f05:=f03.trans f35
 have r5:=f5.row' f4.ok r4
 have g25:=f5.get' f4.ok g24
 have l25:=aF f5.ok g25
 have ul:=lr.1
 obtain⟨pr,cr,rfl⟩:=so.value
 have setOK: ∀l∈S.fitting,(∀e∈l,S.EndOK e)/\ l.length<=100:=fun l hl=>by
  have hm:l∈S.settings:=(List.mem_filter.1 hl).1
  have a:=(S.endsP_ok fn).1
  unfold LSheet.settings jZ at hm
  split at hm
  ·simp at hm;subst hm;exact⟨fun e he=>by simp at he,by simp⟩
  ·split at hm
   ·exact⟨wU S.rows.toNat S.EndOK _ _ a (fun e he=>by simp at he) l hm,by have:=xh S.rows.toNat _ _ l hm;have:=(S.endsP_ok fn).2;simp only[List.length_nil]at*;omega⟩
   ·simp at hm
 have fle:S.fitting.length<=576:=Nat.le_trans (List.length_filter_le _ _) (LSheet.settings_le fn)
 cases hfit:S.fitting with
 |nil=>
  rw[hfit]at ul
  have u0:us.length=0:=by simpa using ul
  rw[u0]
  have k6:=f05.set (i:=h.next+1) (by omega) l25 (.row [.slice none 0 0, .slice none 0 0] 0 true)
  have z:(((0:Nat):Int)==0)=true:=rfl
  simp(maxDischargeDepth:=30)only[AA,↓reduceIte,Q1,Q2,Q3,Q4,reduceCtorEq,Q5,Q6,Q7,XH,kU,f5.ok,z,g25,k6.ok]
  exact⟨⟨_,rfl,SL.nil _ _ _⟩,k6⟩
 |cons x l=>
  rw[hfit]at ul lr setOK fle
  have z:((us.length:Int)==0)=false:=by rw[ul];simp;omega
  simp(maxDischargeDepth:=30)only[AA,↓reduceIte,Q1,Q2,Q3,Q4,reduceCtorEq,Q5,Q6,Q7,XH,kU,f5.ok,z]
  refine aC (BX f35 (so.weak (by have:=f03.next;have:=f4.next;omega)) (lr.map fun _ _ e=>SL.weak e (by have:=f03.next;have:=f4.next;omega)) setOK (by simp at fle;omega) r5) ?_
  rintro _ h6 ⟨⟨ur,rfl,iu⟩,f6⟩
  have f36:=f35.trans f6
  obtain⟨pu,cu,rfl⟩:=SL.value iu
  have bOK:=setOK (S.bestS l x) (by
   rcases S.bestS_mem l x with e|e
   ·rw[e];simp
   ·exact List.mem_cons_of_mem _ e)
  have f7:=aI [.row [.slice none 0 0, .slice pu (S.bestS l x).length cu] 0 true] (Fr.refl f6.ok)
  have r7:rowAt (h6.ex [.row [.slice none 0 0, .slice pu (S.bestS l x).length cu] 0 true]) h6.next=some [.slice none 0 0, .slice pu (S.bestS l x).length cu]:=aZ rfl
  simp only[kK]
  simp(maxDischargeDepth:=30)only[AA,↓reduceIte,Q1,Q2,Q3,Q4,reduceCtorEq,Q5,Q6,Q7,XH,kU,f6.ok]
  generalize(h6.ex [.row [.slice none 0 0, .slice pu (S.bestS l x).length cu] 0 true])=h7 at f7 r7⊢
  have f37:=f36.trans f7
  have r57:=(f6.trans f7).row' f5.ok r5
  have m57:=af f7.ok r57
  have m7:=af f7.ok r7
  have g27:=(f6.trans f7).get' f5.ok g25
  have iu7:oz h.next h7 (.slice pu (S.bestS l x).length cu) (S.bestS l x):=SL.fr iu f6.ok f7
  refine bR [(true,0),(true,1),(true,2),(true,3),(false,0),(true,4),(true,5),(true,6)] (by kernel_rfl) ?_
  simp(maxDischargeDepth:=30)only[AA,↓reduceIte,Q1,Q2,Q3,Q4,reduceCtorEq,Q5,Q6,Q7,dk,XH,kU,f7.ok,r57,m57,r7,m7,F.ra]
  refine bk (SX f37 (SL.ls fN iu7) bOK.1 bOK.2) ?_
  rintro _ h8 ⟨rfl,f8⟩
  have r58:=f8.row' f7.ok r57
  have m58:=af f8.ok r58
  have r8:=f8.row' f7.ok r7
  have m8:=af f8.ok r8
  have g28:=f8.get' f7.ok g27
  have l28:=aF f8.ok g28
  have f08:=(f03.trans f37).trans f8
  have k9:=f08.set (i:=h.next+1) (by omega) l28 (.row [.slice none 0 0, .slice pu (S.bestS l x).length cu] 0 true)
  simp(maxDischargeDepth:=30)only[AA,↓reduceIte,Q1,Q2,Q3,Q4,reduceCtorEq,Q5,Q6,Q7,dk,XH,kU,f8.ok,r58,m58,r8,m8,F.ra,F.sf,g28,k9.ok]
  have iu8:oz h.next h8 (.slice pu (S.bestS l x).length cu) (S.bestS l x):=SL.fr iu7 f7.ok f8
  exact⟨⟨_,rfl,SL.keep iu8 fun b hb=>Heap.get_set_ne _ _ (fun e=>by subst e;exact SL.tag iu8 g28 (by omega) hb)⟩,k9⟩
end Go.Am

namespace Go.Am
open Go Go.Proofs
set_option maxRecDepth 10000 in
set_option maxHeartbeats 2000000 in
theorem X9 {h:Heap} (hk:HOK h) (hp:0<h.next) {u:LetV} {S:LSheet} (q:IsLet h u S) (sm:S.Small):
  CW CC 195 [.agg ⟨S.cells u⟩] h fun r h'=>r= .tuple ⟨[.int .i64 S.setP.1.length, .int .i64 S.setP.2.2]⟩/\ Fr h h':=by
 obtain⟨pw,cw,ew⟩:=q.w.len
 obtain⟨pp,cp,ep⟩:=q.pr.len
 obtain⟨pd,cd,ed⟩:=q.len
 have SX:=fun {h':Heap} (g:Fr h h')=>P4 g.ok (Nat.lt_of_lt_of_le hp g.next) (q.fr hk g) sm
 obtain⟨R,hR⟩: ∃R,R=S.cells u:=⟨_,rfl⟩
 rw[<-hR]at SX⊢
 have Rt:aA R 0 10=some R:=by rw[hR];rfl
 have Rl:R.length=10:=by rw[hR];rfl
 have Ro:bF R=true:=by rw[hR,LSheet.cells,ew,ep,ed];rfl
 refine aw Tryz.f195 (by kernel_rfl) (by kernel_rfl) rfl rfl ?_
 simp only[Tryz.f195]
 have f1:=aI [.row R 0 true] (Fr.refl hk)
 simp(maxDischargeDepth:=30)only[AA,↓reduceIte,Q1,Q2,Q3,Q4,reduceCtorEq,Q5,Q6,Q7,XH,mC,mw,vz,pk,ia,jM,hk,Ro,Rl,Rt]
 refine aC (SX f1) ?_
 rintro _ h2 ⟨⟨uv,rfl,so⟩,f2⟩
 obtain⟨pu,cu,rfl⟩:=so.value
 have f3:=aI [.row [.slice none 0 0, .slice pu S.setP.1.length cu] 0 true] (Fr.refl f2.ok)
 simp only[kK]
 simp(maxDischargeDepth:=30)only[AA,↓reduceIte,Q1,Q2,Q3,Q4,reduceCtorEq,Q5,Q6,Q7,XH,mC,mw,vz,pk,ia,jM,f2.ok]
 exact⟨trivial,(f1.trans f2).trans f3⟩
end Go.Am

namespace Go.Am
open Go Go.Proofs
set_option maxRecDepth 10000 in
set_option maxHeartbeats 1000000 in
theorem YY {h:Heap} (hk:HOK h) (hp:0<h.next) {u:LetV} {S:LSheet} (q:IsLet h u S) (sm:S.Small):
  CW CC 86 [.agg ⟨S.cells u⟩] h fun r h'=>r= .bool (S.setP.2.2==0)/\ Fr h h':=by
 obtain⟨pw,cw,ew⟩:=q.w.len
 obtain⟨pp,cp,ep⟩:=q.pr.len
 obtain⟨pd,cd,ed⟩:=q.len
 have SX:=fun {h':Heap} (g:Fr h h')=>X9 g.ok (Nat.lt_of_lt_of_le hp g.next) (q.fr hk g) sm
 obtain⟨R,hR⟩: ∃R,R=S.cells u:=⟨_,rfl⟩
 rw[<-hR]at SX⊢
 have Rt:aA R 0 10=some R:=by rw[hR];rfl
 have Rl:R.length=10:=by rw[hR];rfl
 have Ro:bF R=true:=by rw[hR,LSheet.cells,ew,ep,ed];rfl
 refine aw Tryz.f86 (by kernel_rfl) (by kernel_rfl) rfl rfl ?_
 simp only[Tryz.f86]
 have f1:=aI [.row R 0 true] (Fr.refl hk)
 simp(maxDischargeDepth:=30)only[AA,↓reduceIte,Q1,Q2,Q3,Q4,reduceCtorEq,Q5,Q6,Q7,XH,mw,hk,Ro,Rl,Rt]
 refine aC (SX f1) ?_
 rintro _ h2 ⟨rfl,f2⟩
 simp(maxDischargeDepth:=30)only[AA,↓reduceIte,Q1,Q2,Q3,Q4,reduceCtorEq,Q5,Q6,Q7,XH,mw,f2.ok]
 exact⟨trivial,f1.trans f2⟩
set_option maxRecDepth 10000 in
theorem VZ {h:Heap} (hk:HOK h) (hp:0<h.next) {a b c:Value} {s:CoatS} (hs:IsCoats h a b c s) (hw:s.work.length<=14):
  CW CC 87 [.agg ⟨[a,b,c]⟩] h fun r h'=>r= .bool (s.firstP.2==0)/\ Fr h h':=by
 obtain⟨pa,ca,ea⟩:=hs.dry.len
 obtain⟨pb,cb,eb⟩:=hs.work.len
 obtain⟨pc,cc,ec⟩:=hs.coats.len
 have SX:=fun {h':Heap} (g:Fr h h')=>uC g.ok (Nat.lt_of_lt_of_le hp g.next) (hs.fr hk g) hw
 subst ea eb ec
 refine aw Tryz.f87 (by kernel_rfl) (by kernel_rfl) rfl rfl ?_
 simp only[Tryz.f87]
 have f1:=aI [.row [.slice pa s.dry.length ca, .slice pb s.work.length cb, .slice pc s.coats.length cc] 0 true] (Fr.refl hk)
 simp(maxDischargeDepth:=30)only[AA,↓reduceIte,Q1,Q2,Q3,Q4,reduceCtorEq,Q5,Q6,Q7,XH,lO,hk]
 refine aC (SX f1) ?_
 rintro _ h2 ⟨⟨v,rfl,so⟩,f2⟩
 simp(maxDischargeDepth:=30)only[AA,↓reduceIte,Q1,Q2,Q3,Q4,reduceCtorEq,Q5,Q6,Q7,XH,lO,f2.ok]
 exact⟨trivial,f1.trans f2⟩
set_option maxRecDepth 10000 in
theorem TZ {h:Heap} (hk:HOK h) {v:Value} {s:StripB} (hs:IsSpots h v s.spots) (sm:s.Small):
  CW CC 88 [.agg ⟨[.int .i64 s.names,v]⟩] h fun r h'=>r= .bool (s.firstP.2==0)/\ Fr h h':=by
 have SX:=fun {h':Heap} (g:Fr h h')=>EN g.ok (hs.fr hk g) sm
 obtain⟨pv,cv,hvv⟩: ∃p c,v= .slice p s.spots.length c:=by obtain⟨us,hu,lr⟩:=hs;rw[show s.spots.length=us.length from lr.1.symm];exact hu.len
 subst hvv
 refine aw Tryz.f88 (by kernel_rfl) (by kernel_rfl) rfl rfl ?_
 simp only[Tryz.f88]
 have f1:=aI [.row [.int .i64 s.names, .slice pv s.spots.length cv] 0 true] (Fr.refl hk)
 simp(maxDischargeDepth:=30)only[AA,↓reduceIte,Q1,Q2,Q3,Q4,reduceCtorEq,Q5,Q6,Q7,XH,kv,hk]
 refine aC (SX f1) ?_
 rintro _ h2 ⟨⟨v,rfl,so⟩,f2⟩
 simp(maxDischargeDepth:=30)only[AA,↓reduceIte,Q1,Q2,Q3,Q4,reduceCtorEq,Q5,Q6,Q7,XH,kv,f2.ok]
 exact⟨trivial,f1.trans f2⟩
end Go.Am

namespace Go.Am
open Go Go.Proofs
def Cz:=A2 @vK<|A2 @Hj<|A2 @cA @Bs
theorem XY (n:Int) (h:Heap):cI CC (bH CC) 194 [.int .i64 n] h=some (.ret (.bool (!cL n 0 40)) h none):=by
 refine CW.eq (aw Tryz.f194 (by kernel_rfl) (by kernel_rfl) rfl rfl ?_)
 simp only[Tryz.f194]
 simp(maxDischargeDepth:=30)only[AA,↓reduceIte,Q1,Q2,Q3,Q4,reduceCtorEq,Q5,Q6,Q7,fT,JO]
set_option maxRecDepth 10000 in
theorem MP {h:Heap} (hk:HOK h) {s:TintS} {v w:Value} {l:List Int} (hv: ∃p c,v= .slice p s.tins.length c) (hw:LS h w l aQ 1) (hn:l.length<=1000):
  CW CC 85 [.agg ⟨s.cells v⟩,w] h fun r h'=>r= .bool (((l.length:Int)==s.tins.length)&& !(l.any fun n=> !cL n 0 40))/\ Fr h h':=by
 obtain⟨p,c,rfl⟩:=hv
 obtain⟨pw,cw,rfl⟩:=hw.len
 obtain⟨R,hR⟩: ∃R,R=s.cells (.slice p s.tins.length c):=⟨_,rfl⟩
 have c12:R[12]? =some (.slice p s.tins.length c):=by rw[hR];rfl
 have Rl:R.length=13:=by rw[hR];rfl
 have Ro:bF R=true:=by rw[hR];rfl
 rw[<-hR]
 refine aw Tryz.f85 (by kernel_rfl) (by kernel_rfl) rfl rfl ?_
 simp only[Tryz.f85]
 have f1:=aI [.row R 0 true] (Fr.refl hk)
 cases z:((l.length:Int)==(s.tins.length:Int))with
 |false=>
  simp(maxDischargeDepth:=30)only[AA,↓reduceIte,Q1,Q2,Q3,Q4,reduceCtorEq,Q5,Q6,Q7,XH,Cz,hk,Ro,Rl,c12,z,aj]
  exact⟨by simp,f1⟩
 |true=>
  simp(maxDischargeDepth:=30)only[AA,↓reduceIte,Q1,Q2,Q3,Q4,reduceCtorEq,Q5,Q6,Q7,XH,Cz,hk,Ro,Rl,c12,z,aj]
  refine aC (fX f1.ok (fun n=> !cL n 0 40) (hw.fr hk f1) hn fun h3 f3 y _=>⟨h3,?_,Fr.refl f3.ok⟩) ?_
  ·have:=XY y h3
   simpa[iy,dY]using this
  rintro _ h3 ⟨rfl,f3⟩
  simp(maxDischargeDepth:=30)only[AA,↓reduceIte,Q1,Q2,Q3,Q4,reduceCtorEq,Q5,Q6,Q7,XH,Cz,f3.ok]
  exact⟨by simp,f1.trans f3⟩
end Go.Am

namespace Go.Am
open Go Go.Proofs
def fU:=A2 @Wh<|A2 @Wg<|A2 @Wf<|A2 @We<|A2 @vK<|A2 @Lo<|A2 @Ln<|A2 @Lm<|A2 @EG<|A2 @EF<|A2 @EE<|A2 @tK<|A2 @cS<|A2 @Hj<|A2 @Bs<|A2 @o8<|A2 @bJ<|A2 @eU<|A2 @ba<|A2 @Vo<|A2 @KX<|A2 @KG<|A2 @tX<|A2 @Au<|A2 @UK<|A2 @UJ<|A2 @UI<|A2 @Ae<|A2 @Uz @KD
def yA:=A2 @Sg<|A2 @EG<|A2 @EF<|A2 @EE<|A2 @tK<|A2 @cS<|A2 @o8<|A2 @eU<|A2 @KX<|A2 @Au @KD
def TintS.okB (s:TintS):Bool:=s.okP 0&&(s.okP 1&&(s.okP 2&&(s.years.ok 20&&(cL s.off 1 20&&cL s.tins.length 1 4))))
theorem JP {p:Nat} (hp:p<3) (b o:Nat) (sp:Option Nat):aD CC 39 (.pointer (some ⟨b,o,sp⟩)) (.int .i64 (p:Int))=some (.pointer (some ⟨b,o+p,none⟩)):=by
 have h:p=0 \/p=1 \/p=2:=by omega
 rcases h with rfl|rfl|rfl
 ·exact Lo b o sp
 ·exact Ln b o sp
 ·exact Lm b o sp
theorem Ll {p:Nat} (hp:p<3) (b o:Nat) (sp:Option Nat):aD CC 40 (.pointer (some ⟨b,o,sp⟩)) (.int .i64 (p:Int))=some (.pointer (some ⟨b,o+2*p,none⟩)):=by
 have h:p=0 \/p=1 \/p=2:=by omega
 rcases h with rfl|rfl|rfl
 ·exact EG b o sp
 ·exact EF b o sp
 ·exact EE b o sp
set_option maxRecDepth 10000 in
theorem tin_1 {b p:Nat} (hp:p<3) {h:Heap} (hk:HOK h) (t:Tin) (hb:rowAt h b=some [.int .i64 (p:Int)]): ∃h2,cI CC (bH CC) 134 [.agg ⟨t.cells⟩, .pointer (some ⟨b,0,none⟩)] h=some (.ret (.bool (!(t.pig p).ok 99)) h2 none)/\ Fr h h2:=by
 have key:CW CC 134 [.agg ⟨t.cells⟩, .pointer (some ⟨b,0,none⟩)] h fun r h'=>r= .bool (!(t.pig p).ok 99)/\ Fr h h':=by
  refine aw Tryz.f134 (by kernel_rfl) (by kernel_rfl) rfl rfl ?_
  simp only[Tryz.f134]
  obtain⟨R,hR⟩: ∃R,R=t.cells:=⟨_,rfl⟩
  have Rt:aA R 0 6=some R:=by rw[hR];rfl
  have Rl:R.length=6:=by rw[hR];rfl
  have Ro:bF R=true:=by rw[hR];rfl
  have R2:aA R (2*p) 2=some [.int .i64 (t.pig p).lo, .int .i64 (t.pig p).hi]:=by
   have h:p=0 \/p=1 \/p=2:=by omega
   rw[hR]
   rcases h with rfl|rfl|rfl<;>rfl
  have R3:aA R (0+2*p) 2=some [.int .i64 (t.pig p).lo, .int .i64 (t.pig p).hi]:=by rw[Nat.zero_add];exact R2
  rw[<-hR]
  have f1:=aI [.row R 0 true] (Fr.refl hk)
  have r1:rowAt (h.ex [.row R 0 true]) h.next=some R:=aZ rfl
  have hb1:=f1.row' hk hb
  simp(maxDischargeDepth:=30)only[AA,↓reduceIte,Q1,Q2,Q3,Q4,reduceCtorEq,Q5,Q6,Q7,XH,yA,hk,Ro,Rl,Rt]
  generalize(h.ex [.row R 0 true])=h1 at f1 hb1 r1⊢
  simp(maxDischargeDepth:=30)only[AA,↓reduceIte,Q1,Q2,Q3,Q4,reduceCtorEq,Q5,Q6,Q7,XH,yA,f1.ok,hb1,r1,JP hp,Ll hp,R2,R3]
  refine aC (IV _ _ _ f1.ok) ?_
  rintro _ h2 ⟨rfl,fr2⟩
  simp(maxDischargeDepth:=30)only[AA,↓reduceIte,Q1,Q2,Q3,Q4,reduceCtorEq,Q5,Q6,Q7,XH,yA,fr2.ok]
  exact⟨by first|rfl|trivial,f1.trans fr2⟩
 obtain⟨r,h2,e,rfl,f⟩:=key
 exact⟨h2,e,f⟩
set_option maxRecDepth 10000 in
set_option maxHeartbeats 4000000 in
theorem MS {v:Value} {s:TintS} {h:Heap} (hk:HOK h) (hv:LS h v s.tins Tin.cells 6) (hl:s.tins.length<=1000):
  CW CC 48 [.agg ⟨s.cells v⟩] h fun r h'=>r= .bool s.okB/\ Fr h h':=by
 obtain⟨q,c,rfl⟩:=hv.len
 refine aw Tryz.f48 (by kernel_rfl) (by kernel_rfl) rfl rfl ?_
 simp only[Tryz.f48]
 obtain⟨R,hR⟩: ∃R,R=s.cells (.slice q s.tins.length c):=⟨_,rfl⟩
 have Rt:aA R 0 13=some R:=by rw[hR];rfl
 have Rl:R.length=13:=by rw[hR];rfl
 have Ro:bF R=true:=by rw[hR];rfl
 have R0: ∀p,p<3 ->R[p]? =some (.int .i64 (s.old p)):=by
  intro p hp
  have h:p=0 \/p=1 \/p=2:=by omega
  rw[hR]
  rcases h with rfl|rfl|rfl<;>rfl
 have R3: ∀p,p<3 ->aA R (3+2*p) 2=some [.int .i64 (s.fade p).lo, .int .i64 (s.fade p).hi]:=by
  intro p hp
  have h:p=0 \/p=1 \/p=2:=by omega
  rw[hR]
  rcases h with rfl|rfl|rfl<;>rfl
 have R9:aA R 9 2=some [.int .i64 s.years.lo, .int .i64 s.years.hi]:=by rw[hR];rfl
 have R11:R[11]? =some (.int .i64 s.off):=by rw[hR];rfl
 have R12:R[12]? =some (.slice q s.tins.length c):=by rw[hR];rfl
 rw[<-hR]
 have f1:=aI [.row R 0 true] (Fr.refl hk)
 have r1:rowAt (h.ex [.row R 0 true]) h.next=some R:=aZ rfl
 simp(maxDischargeDepth:=30)only[AA,↓reduceIte,Q1,Q2,Q3,Q4,reduceCtorEq,Q5,Q6,Q7,XH,fU,hk,Ro,Rl,Rt]
 generalize(h.ex [.row R 0 true])=h1 at f1 r1⊢
 have k1:=f1.ok
 refine eT 3 (fun m f h'=> ∃p:Nat,p<=3/\ m=3 -p/\ f 1= .pointer (some ⟨h.next,0,none⟩)/\ f 4= .int .i64 (p:Int)/\ (∀k,k<p ->s.okP k=true)/\ Fr h1 h')
  ⟨0,by omega,by omega,by simp[aa,aW],by simp[aa],fun k hk=>by omega,Fr.refl k1⟩ ?_
 rintro m f h3 ⟨p,hp,rfl,g1,g4,gk,fr3⟩ ih
 have f3:=f1.trans fr3
 have k3:=f3.ok
 have r3:=fr3.row' k1 r1
 by_cases hp3:p<3
 ·have d3:decide ((p:Int)<3)=true:=by simp;omega
  have up:IntKind.i64.wrap ((p:Int)+1)=((p+1:Nat):Int):=by
   have:p=0 \/p=1 \/p=2:=by omega
   rcases this with rfl|rfl|rfl<;>rfl
  have no:s.okP p=false ->s.okB=false:=fun e=>by
   have:p=0 \/p=1 \/p=2:=by omega
   unfold TintS.okB
   rcases this with rfl|rfl|rfl<;>simp[e]
  have fa:=aI [.row [.int .i64 (p:Int)] 0 true] (Fr.refl k3)
  have ra:rowAt (h3.ex [.row [.int .i64 (p:Int)] 0 true]) h3.next=some [.int .i64 (p:Int)]:=aZ rfl
  have r4:=fa.row' k3 r3
  simp(maxDischargeDepth:=30)only[AA,↓reduceIte,Q1,Q2,Q3,Q4,reduceCtorEq,Q5,Q6,Q7,XH,fU,k3,r3,g1,g4,d3,List.set_cons_zero]
  generalize(h3.ex [.row [.int .i64 (p:Int)] 0 true])=h4 at fa ra r4⊢
  have k4:=fa.ok
  cases c0:cL (s.old p) 0 99 with
  |false=>
   simp(maxDischargeDepth:=30)only[AA,↓reduceIte,Q1,Q2,Q3,Q4,reduceCtorEq,Q5,Q6,Q7,XH,fU,k4,r4,ra,g1,g4,d3,MW,JP hp3,R0 p hp3,c0,aj]
   exact⟨by rw[no (by unfold TintS.okP;rw[c0];rfl)],f3.trans fa⟩
  |true=>
  simp(maxDischargeDepth:=30)only[AA,↓reduceIte,Q1,Q2,Q3,Q4,reduceCtorEq,Q5,Q6,Q7,XH,fU,k4,r4,ra,g1,g4,d3,MW,JP hp3,Ll hp3,R0 p hp3,R3 p hp3,c0,aj]
  refine aC (IV _ _ _ k4) ?_
  rintro _ h5 ⟨rfl,fr5⟩
  have k5:=fr5.ok
  have r5:=fr5.row' k4 r4
  have ra5:=fr5.row' k4 ra
  have f5:=(f3.trans fa).trans fr5
  cases cf:AF (s.fade p).lo (s.fade p).hi 9 with
  |false=>
   simp(maxDischargeDepth:=30)only[AA,↓reduceIte,Q1,Q2,Q3,Q4,reduceCtorEq,Q5,Q6,Q7,XH,fU,k5,r5,ra5,g1,g4,aj]
   exact⟨by rw[no (by unfold TintS.okP Sp.ok;rw[cf];simp)],f5⟩
  |true=>
  simp(maxDischargeDepth:=30)only[AA,↓reduceIte,Q1,Q2,Q3,Q4,reduceCtorEq,Q5,Q6,Q7,XH,fU,k5,r5,ra5,g1,g4,R12,aj]
  refine aC (CQ k5 (fun t=> !(t.pig p).ok 99) (hv.fr hk f5) hl fun h6 f6 t _=> ?_) ?_
  ·rw[ff]
   exact tin_1 hp3 f6.ok t (f6.row' k5 ra5)
  rintro _ h6 ⟨rfl,fr6⟩
  cases ca:(s.tins.any fun t=> !(t.pig p).ok 99)with
  |true=>
   simp(maxDischargeDepth:=30)only[AA,↓reduceIte,Q1,Q2,Q3,Q4,reduceCtorEq,Q5,Q6,Q7,XH,fU,fr6.ok,g1,g4,aj]
   refine⟨?_,f5.trans fr6⟩
   rw[no ?_]
   have:(s.tins.all fun t=>(t.pig p).ok 99)=false:=by
    rw[List.all_eq_not_any_not,ca];rfl
   unfold TintS.okP
   rw[this];simp
  |false=>
   simp(maxDischargeDepth:=30)only[AA,↓reduceIte,Q1,Q2,Q3,Q4,reduceCtorEq,Q5,Q6,Q7,XH,fU,fr6.ok,g1,g4,up,aj]
   refine ih (3 -(p+1)) _ _ (by omega) ?_
   refine⟨p+1,by omega,rfl,by simp[aa,g1],by simp[aa],fun k hk=> ?_,((fr3.trans fa).trans fr5).trans fr6⟩
   by_cases e:k=p
   ·subst e
    have:(s.tins.all fun t=>(t.pig k).ok 99)=true:=by rw[List.all_eq_not_any_not,ca];rfl
    unfold TintS.okP Sp.ok
    unfold Sp.ok at this
    rw[c0,cf,this];rfl
   ·exact gk k (by omega)
 ·have e3:p=3:=by omega
  subst e3
  have d3:decide (((3:Nat):Int)<3)=false:=rfl
  have hB:s.okB=(AF s.years.lo s.years.hi 20&&(cL s.off 1 20&&cL s.tins.length 1 4)):=by
   unfold TintS.okB Sp.ok
   rw[gk 0 (by omega),gk 1 (by omega),gk 2 (by omega)];rfl
  simp(maxDischargeDepth:=30)only[AA,↓reduceIte,Q1,Q2,Q3,Q4,reduceCtorEq,Q5,Q6,Q7,XH,fU,k3,r3,g1,g4,d3,R9]
  refine aC (IV _ _ _ k3) ?_
  rintro _ h4 ⟨rfl,fr4⟩
  have r4:=fr4.row' k3 r3
  rw[hB]
  cases cy:AF s.years.lo s.years.hi 20 with
  |false=>
   simp(maxDischargeDepth:=30)only[AA,↓reduceIte,Q1,Q2,Q3,Q4,reduceCtorEq,Q5,Q6,Q7,XH,fU,fr4.ok,r4,g1,g4,aj]
   exact⟨by rfl,f3.trans fr4⟩
  |true=>
  cases co:cL s.off 1 20 with
  |false=>
   simp(maxDischargeDepth:=30)only[AA,↓reduceIte,Q1,Q2,Q3,Q4,reduceCtorEq,Q5,Q6,Q7,XH,fU,fr4.ok,r4,g1,g4,MW,R11,co,aj]
   exact⟨by rfl,f3.trans fr4⟩
  |true=>
   simp(maxDischargeDepth:=30)only[AA,↓reduceIte,Q1,Q2,Q3,Q4,reduceCtorEq,Q5,Q6,Q7,XH,fU,fr4.ok,r4,g1,g4,MW,R11,R12,co,aj]
   exact⟨by simp,f3.trans fr4⟩
set_option maxRecDepth 10000 in
theorem LC {v:Value} {s:TintS} {h:Heap} (hk:HOK h) (hv:LS h v s.tins Tin.cells 6) (hl:s.tins.length<=1000):
  CW CC 13 [.agg ⟨s.cells v⟩] h fun r h'=>r= .int .i64 (if s.okB=true then 0 else 2)/\ Fr h h':=by
 obtain⟨q,c,rfl⟩:=hv.len
 have SX:=fun {h':Heap} (g:Fr h h')=>MS g.ok (hv.fr hk g) hl
 obtain⟨R,hR⟩: ∃R,R=s.cells (.slice q s.tins.length c):=⟨_,rfl⟩
 rw[<-hR]at SX⊢
 have Rt:aA R 0 13=some R:=by rw[hR];rfl
 have Rl:R.length=13:=by rw[hR];rfl
 have Ro:bF R=true:=by rw[hR];rfl
 refine aw Tryz.f13 (by kernel_rfl) (by kernel_rfl) rfl rfl ?_
 simp only[Tryz.f13]
 have f1:=aI [.row R 0 true] (Fr.refl hk)
 simp(maxDischargeDepth:=30)only[AA,↓reduceIte,Q1,Q2,Q3,Q4,reduceCtorEq,Q5,Q6,Q7,XH,Hi,hk,Ro,Rl,Rt]
 refine aC (SX f1) ?_
 rintro _ h2 ⟨rfl,f2⟩
 cases s.okB with
 |false=>
  simp(maxDischargeDepth:=30)only[AA,↓reduceIte,Q1,Q2,Q3,Q4,reduceCtorEq,Q5,Q6,Q7,XH,Hi,f2.ok]
  exact⟨trivial,f1.trans f2⟩
 |true=>
  simp(maxDischargeDepth:=30)only[AA,↓reduceIte,Q1,Q2,Q3,Q4,reduceCtorEq,Q5,Q6,Q7,XH,Hi,f2.ok]
  exact⟨trivial,f1.trans f2⟩
end Go.Am
