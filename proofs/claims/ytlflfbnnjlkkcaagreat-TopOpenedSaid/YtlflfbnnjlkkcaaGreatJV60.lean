/- Parts V60, V61 of the abstract machine over this program, joined: what each part says stands at its head. -/
import Derived.Test.YtlflfbnnjlkkcaaGreatJV55
set_option linter.unusedSimpArgs false
set_option linter.unusedVariables false
set_option linter.defProp false
open Nat renaming reduceLT→Q1,reduceEqDiff→Q2,reduceAdd→Q3,reduceMul→Q4,reduceLeDiff→Q5
open Int renaming reduceNe→Q6,reduceEq→Q7
namespace Go.Am
open Go Go.Proofs
def dZ:=A2 @WL<|A2 @xX<|A2 @xW<|A2 @DO<|A2 @HP<|A2 @vL<|A2 @zI<|A2 @BI<|A2 @BH<|A2 @BG<|A2 @BF<|A2 @BE<|A2 @BD<|A2 @cG<|A2 @tM<|A2 @Re<|A2 @cM<|A2 @cS<|A2 @Hl<|A2 @kv<|A2 @Ju<|A2 @cA<|A2 @ko<|A2 @Yp<|A2 @G4<|A2 @kN<|A2 @bJ<|A2 @A7<|A2 @jY<|A2 @GB<|A2 @GA<|A2 @aV<|A2 @Gu<|A2 @ba<|A2 @kJ<|A2 @fp<|A2 @Pw<|A2 @Pv<|A2 @Pk<|A2 @dQ<|A2 @D9<|A2 @bm<|A2 @jh<|A2 @Xu<|A2 @As<|A2 @Ar<|A2 @Aq<|A2 @Ap<|A2 @Ao<|A2 @An<|A2 @mR<|A2 @bh<|A2 @Af<|A2 @kD @D6
theorem WB (n:Int) (v:Value) (hv:jx v=true):cJ CC 131 [(0, .agg ⟨[.int .i64 n,v]⟩)]=some (.agg ⟨dc n v M0⟩):=by
 cases v<;>first|(simp[jx]at hv;done)|kernel_rfl
theorem UA:CC.zero 131=some (.agg ⟨dc 0 (.slice none 0 0) M0⟩):=by kernel_rfl
theorem yj: ∀M:List Bool,bF (M.map .bool)=true
 |[]=>rfl
 |b::M=>by rw[List.map_cons,da,yj M];rfl
theorem zt {n:Int} {v:Value} {M:List Bool} (hv:jx v=true):bF (dc n v M)=true:=by
 unfold dc
 rw[da,da,hv,yj];rfl
theorem Ga {n:Int} {v:Value} {M:List Bool} (h:M.length=36):aA (dc n v M) 0 38=some (dc n v M):=by
 have:=oR (n:=n) (v:=v) h
 rw[eP (by omega),List.drop_zero,List.take_of_length_le (by omega)]
def Cr (N:Nat) (ls:List (List Int)):List Bool:=FA N N (j4 ls M0)
def E7 (N:Nat) (M:List Bool):Bool:=(List.range N).any fun i=>LM M i i
structure Tabled (h:Heap) (p:Nat) (n:Int) (v:Value) (M:List Bool) (h':Heap):Prop where
 fr:Fr h h'
 row:h'.get p=some (.row (dc n v M) 0 true)
 len:M.length=36
theorem Tabled.rowAt {h:Heap} {p:Nat} {n:Int} {v:Value} {M:List Bool} {h':Heap} (q:Tabled h p n v M h'):rowAt h' p=some (dc n v M):=by unfold Go.Am.rowAt;rw[q.row];rfl
theorem Tabled.put {h:Heap} {p:Nat} {n:Int} {v:Value} {M:List Bool} {h':Heap} (q:Tabled h p n v M h') (hp:h.next<=p) (i j:Nat):Tabled h p n v (wV M i j) (h'.set p (.row (dc n v (wV M i j)) 0 true)):=
 ⟨q.fr.set hp (aF q.fr.ok q.row) _,am _ _ _,by rw[AO];exact q.len⟩
set_option maxRecDepth 10000 in
set_option maxHeartbeats 2000000 in
theorem Yg {h:Heap} (hk:HOK h) {v:Value} {N:Nat} {ls:List (List Int)} (hs:IsSpots h v ls) (hN6:N<=6) (hl:ls.length<=6) (hw: ∀w∈ls,(1<=w.length/\ w.length<=5)/\ ∀x∈w,0<=x/\ x<(N:Int)):
  CX CC 44 [.agg ⟨[.int .i64 (N:Int),v]⟩] h (fun r h'=>(E7 N (Cr N ls)=false/\ r= .agg ⟨dc N v (Cr N ls)⟩)/\ Fr h h') fun e h'=>(E7 N (Cr N ls)=true/\ ∃i:Int,e= .iface 234 (.agg ⟨[.int .i64 i]⟩))/\ Fr h h':=by
 obtain⟨us,hu,lr⟩:=hs
 obtain⟨p,c,rfl,hx⟩:=hu.open
 have ul:us.length=ls.length:=lr.1
 refine CG Tryz.f44 (by kernel_rfl) (by kernel_rfl) rfl rfl ?_
 simp only[Tryz.f44]
 have w0:fm (dc 0 (.slice none 0 0) M0) 0 (dc (N:Int) (.slice p us.length c) M0)=some (dc (N:Int) (.slice p us.length c) M0):=sB _ _ rfl
 have f1:=aI [.row [.int .i64 (N:Int), .slice p us.length c] 0 true, .row (dc 0 (.slice none 0 0) M0) 0 true, .row (dc (N:Int) (.slice p us.length c) M0) 0 true] (Fr.refl hk)
 have x1:rowAt (h.ex [.row [.int .i64 (N:Int), .slice p us.length c] 0 true, .row (dc 0 (.slice none 0 0) M0) 0 true, .row (dc (N:Int) (.slice p us.length c) M0) 0 true]) h.next=some [.int .i64 (N:Int), .slice p us.length c]:=aZ rfl
 have x2:(h.ex [.row [.int .i64 (N:Int), .slice p us.length c] 0 true, .row (dc 0 (.slice none 0 0) M0) 0 true, .row (dc (N:Int) (.slice p us.length c) M0) 0 true]).get (h.next+1)=some (.row (dc 0 (.slice none 0 0) M0) 0 true):=by rw[jd rfl (by simp)];rfl
 have x3:(h.ex [.row [.int .i64 (N:Int), .slice p us.length c] 0 true, .row (dc 0 (.slice none 0 0) M0) 0 true, .row (dc (N:Int) (.slice p us.length c) M0) 0 true]).get (h.next+2)=some (.row (dc (N:Int) (.slice p us.length c) M0) 0 true):=by rw[jd rfl (by simp)];rfl
 have nx:(h.ex [.row [.int .i64 (N:Int), .slice p us.length c] 0 true, .row (dc 0 (.slice none 0 0) M0) 0 true, .row (dc (N:Int) (.slice p us.length c) M0) 0 true]).next=h.next+3:=by rw[bc];rfl
 simp(maxDischargeDepth:=30)only[AA,↓reduceIte,Q1,Q2,Q3,Q4,reduceCtorEq,Q5,Q6,Q7,XH,dZ,hk,WB _ (.slice p us.length c) rfl,UA,zt (show jx (.slice p us.length c)=true from rfl),w0,show Nat.beq (dc (N:Int) (.slice p us.length c) M0).length 38=true from rfl]
 generalize hH:(h.ex [.row [.int .i64 (N:Int), .slice p us.length c] 0 true, .row (dc 0 (.slice none 0 0) M0) 0 true, .row (dc (N:Int) (.slice p us.length c) M0) 0 true])=H at f1 x1 x2 x3 nx⊢
 clear hH
 have kH:=f1.ok
 have know: ∀{M:List Bool} {h':Heap},Tabled h (h.next+2) (N:Int) (.slice p us.length c) M h'/\ (∀i,i<h.next+2 ->h'.get i=H.get i) ->HOK h'/\ rowAt h' h.next=some [.int .i64 (N:Int), .slice p us.length c]/\ h.next+2<h'.next/\ rowAt h' (h.next+2)=some (dc (N:Int) (.slice p us.length c) M)/\ h'.get (h.next+2)=some (.row (dc (N:Int) (.slice p us.length c) M) 0 true):=fun {M h'} q=>by
  refine⟨q.1.fr.ok,?_,aF q.1.fr.ok q.1.row,q.1.rowAt,q.1.row⟩
  unfold rowAt;rw[q.2 _ (by omega)];exact x1
 have step: ∀{M:List Bool} {h':Heap} (i j:Nat),Tabled h (h.next+2) (N:Int) (.slice p us.length c) M h'/\ (∀i,i<h.next+2 ->h'.get i=H.get i) ->Tabled h (h.next+2) (N:Int) (.slice p us.length c) (wV M i j) (h'.set (h.next+2) (.row (dc (N:Int) (.slice p us.length c) (wV M i j)) 0 true))/\ (∀k,k<h.next+2 ->(h'.set (h.next+2) (.row (dc (N:Int) (.slice p us.length c) (wV M i j)) 0 true)).get k=H.get k):=fun {M h'} i j q=>
  ⟨q.1.put (by omega) i j,fun k hk=>by rw[Heap.get_set_ne _ _ (by omega)];exact q.2 k hk⟩
 refine dN [5,6,7,9,19,20,21,22,23,24,25,26,27,28,29,30,31,32,33,34,35,36,37,38,39,40,41,42,43,44,45,46] 19 us.length (fun i g h'=>Tabled h (h.next+2) (N:Int) (.slice p us.length c) (j4 (ls.take i) M0) h'/\ ∀i,i<h.next+2 ->h'.get i=H.get i) (by simp only[aa,↓reduceIte]) ⟨⟨f1,x3,rfl⟩,fun _ _=>rfl⟩ ?_ ?_
 ·rintro i g h2 hi ag g19 q2 ih
  obtain⟨k2,r2,n2,t2,_⟩:=know q2
  obtain⟨u,gu⟩: ∃u,us[i]? =some u:=⟨_,List.getElem?_eq_getElem hi⟩
  obtain⟨w,gw⟩: ∃w,ls[i]? =some w:=⟨_,List.getElem?_eq_getElem (by omega)⟩
  have hcw:=lr.2 i u w gu gw
  have hwl:=hw w (List.mem_of_getElem? gw)
  rcases hx with hx|⟨b,o,sp,row,rfl,hr,hx⟩
  ·rw[hx]at hi;simp at hi
  have c1:row[o+i]? =some u:=by simpa[jB]using(hx _ u gu).2 0 (by omega)
  have hr2:=q2.1.fr.row' hk hr
  obtain⟨pu,cu,rfl,hxu⟩:=hcw.1.open
  simp(maxDischargeDepth:=30)only[AA,↓reduceIte,Q1,Q2,Q3,Q4,reduceCtorEq,Q5,Q6,Q7,XH,dZ,ag.r,NE,g19,k2,cX hi,hi,hr2,c1,Nat.mul_one]
  refine dN [6,7,9,25,26,27,28,29,30,31,32,33,34,35,36,37,38,39,40,41,42,43,44,45] 25 w.length (fun j g h'=>Tabled h (h.next+2) (N:Int) (.slice (some ⟨b,o,sp⟩) us.length c) (Ep w j (j4 (ls.take i) M0)) h'/\ ∀i,i<h.next+2 ->h'.get i=H.get i) (by simp only[aa,↓reduceIte]) q2 ?_ ?_
  ·rintro j g2 h3 hj ag2 g25 q3 ih2
   obtain⟨k3,r3,n3,t3,_⟩:=know q3
   obtain⟨x,gx⟩: ∃x,w[j]? =some x:=⟨_,List.getElem?_eq_getElem hj⟩
   have hxb:=hwl.2 x (List.mem_of_getElem? gx)
   rcases hxu with hxu|⟨b',o',sp',row',rfl,hr',hxu⟩
   ·rw[hxu]at hj;simp at hj
   have c2:row'[o'+j]? =some (.int .i64 x):=by simpa[aQ]using(hxu _ x gx).2 0 (by omega)
   have hr3:=q3.1.fr.row' hk hr'
   obtain⟨u',es,lu⟩:=hcw.from' hj
   have w1:IntKind.i64.wrap ((j:Int)+1)=((j+1:Nat):Int):=bp hj (by omega)
   obtain⟨pz,cz,rfl,hz⟩:=lu.open
   obtain⟨X,hX⟩: ∃X:Nat,x=X:=⟨x.toNat,by omega⟩
   subst hX
   have gd:w.getD j 0=(X:Int):=by rw[List.getD_eq_getElem?_getD,gx];rfl
   simp(maxDischargeDepth:=30)only[AA,↓reduceIte,Q1,Q2,Q3,Q4,reduceCtorEq,Q5,Q6,Q7,XH,dZ,ag.r,ag2.r,NE,g25,k3,cX hj,hj,hr3,c2,Nat.mul_one,w1,es,Option.map_some,Option.map_none]
   refine dN [9,35,36,37,38,39,40,41,42,43,44] 35 (w.drop (j+1)).length (fun m g h'=>Tabled h (h.next+2) (N:Int) (.slice (some ⟨b,o,sp⟩) us.length c) (Jb X ((w.drop (j+1)).take m) (Ep w j (j4 (ls.take i) M0))) h'/\ ∀i,i<h.next+2 ->h'.get i=H.get i) (by simp only[aa,↓reduceIte]) q3 ?_ ?_
   ·rintro m g3 h4 hm ag3 g35 q4 ih3
    obtain⟨k4,r4,n4,t4,e4⟩:=know q4
    obtain⟨y,gy⟩: ∃y,(w.drop (j+1))[m]? =some y:=⟨_,List.getElem?_eq_getElem hm⟩
    have hyb:=hwl.2 y (List.mem_of_mem_drop (List.mem_of_getElem? gy))
    obtain⟨Y,hY⟩: ∃Y:Nat,y=Y:=⟨y.toNat,by omega⟩
    subst hY
    rcases hz with hz|⟨b3,o3,sp3,row3,rfl,hr3',hz⟩
    ·rw[hz]at hm;simp at hm
    have c3:row3[o3+m]? =some (.int .i64 (Y:Int)):=by simpa[aQ]using(hz _ _ gy).2 0 (by omega)
    have hr4:=q4.1.fr.row' hk hr3'
    have iX:=Hy (h.next+2) 2 none (show X<6 by omega)
    have iY:=yO (h.next+2) (2+X*6) none (show Y<6 by omega)
    rw[Nat.mul_one]at iY
    have hl:=oR (n:=(N:Int)) (v:= .slice (some ⟨b,o,sp⟩) us.length c) q4.1.len
    have l3:2+X*6+Y<(dc (N:Int) (.slice (some ⟨b,o,sp⟩) us.length c) (Jb X ((w.drop (j+1)).take m) (Ep w j (j4 (ls.take i) M0)))).length:=by rw[hl];omega
    simp(maxDischargeDepth:=30)only[AA,↓reduceIte,Q1,Q2,Q3,Q4,reduceCtorEq,Q5,Q6,Q7,XH,dZ,ag.r,ag2.r,ag3.r,NE,g35,k4,cX hm,hm,hr4,c3,Nat.mul_one,iX,iY,t4,e4,n4,l3,KK,bp hm (by rw[List.length_drop];omega)]
    refine ih3 _ _ (by simp only[AG,Nat.reduceEqDiff,ag3]) (by simp only[aa,↓reduceIte]) ?_
    rw[bI gy]
    unfold Jb
    rw[List.foldl_append]
    exact step X Y q4
   ·rintro g3 h4 ag3 g35 q4
    obtain⟨k4,r4,n4,t4,e4⟩:=know q4
    simp(maxDischargeDepth:=30)only[AA,↓reduceIte,Q1,Q2,Q3,Q4,reduceCtorEq,Q5,Q6,Q7,XH,dZ,ag.r,ag2.r,ag3.r,NE,g25,g35,k4,dL,w1]
    refine ih2 _ _ (by simp only[AG,Nat.reduceEqDiff];exact ag3.thru rfl (by simp only[AG,Nat.reduceEqDiff,ag2])) (by simp only[aa,↓reduceIte]) ?_
    rw[List.take_length]at q4
    have e:Ep w (j+1) (j4 (ls.take i) M0)=Jb X (w.drop (j+1)) (Ep w j (j4 (ls.take i) M0)):=by
     unfold Ep;rw[oY,gd];rfl
    rw[e];exact q4
  ·rintro g2 h3 ag2 g25 q3
   obtain⟨k3,r3,n3,t3,e3⟩:=know q3
   simp(maxDischargeDepth:=30)only[AA,↓reduceIte,Q1,Q2,Q3,Q4,reduceCtorEq,Q5,Q6,Q7,XH,dZ,ag.r,ag2.r,NE,g19,g25,k3,dL,bp hi (by omega)]
   refine ih _ _ (by simp only[AG,Nat.reduceEqDiff];exact ag2.thru rfl (by simp only[AG,Nat.reduceEqDiff,ag])) (by simp only[aa,↓reduceIte]) ?_
   have e:j4 (ls.take (i+1)) M0=Ep w w.length (j4 (ls.take i) M0):=by
    rw[bI gw];unfold j4;rw[List.foldl_append];rfl
   rw[e];exact q3
 ·rintro g h2 ag g19 q2
  rw[show ls.take us.length=ls by rw[ul,List.take_length]]at q2
  obtain⟨k2,r2,n2,t2,_⟩:=know q2
  simp(maxDischargeDepth:=30)only[AA,↓reduceIte,Q1,Q2,Q3,Q4,reduceCtorEq,Q5,Q6,Q7,XH,dZ,ag.r,NE,g19,k2,dL,r2]
  refine dN [10,11,12,49,50,51,52,53,54,55,56,57,58,59,60,61,62,63,64,65,66,67,68,69,70,71,72,73,74,75,76,77,78,79,80,81,82,83] 49 N (fun k g h'=>Tabled h (h.next+2) (N:Int) (.slice p us.length c) (FA N k (j4 ls M0)) h'/\ ∀i,i<h.next+2 ->h'.get i=H.get i) (by simp only[aa,↓reduceIte]) q2 ?_ ?_
  ·rintro k gk hk' hik agk gk49 qk ihk
   obtain⟨kk,rk,nk,tk,_⟩:=know qk
   simp(maxDischargeDepth:=30)only[AA,↓reduceIte,Q1,Q2,Q3,Q4,reduceCtorEq,Q5,Q6,Q7,XH,dZ,ag.r,agk.r,NE,gk49,kk,cX hik,rk]
   refine dN [11,12,54,55,56,57,58,59,60,61,62,63,64,65,66,67,68,69,70,71,72,73,74,75,76,77,78,79,80,81,82] 54 N (fun i g h'=>Tabled h (h.next+2) (N:Int) (.slice p us.length c) (LA k N i (FA N k (j4 ls M0))) h'/\ ∀i,i<h.next+2 ->h'.get i=H.get i) (by simp only[aa,↓reduceIte]) qk ?_ ?_
   ·rintro i gi hi' hii agi gi54 qi ihi
    obtain⟨ki,ri,ni,ti,_⟩:=know qi
    simp(maxDischargeDepth:=30)only[AA,↓reduceIte,Q1,Q2,Q3,Q4,reduceCtorEq,Q5,Q6,Q7,XH,dZ,ag.r,agk.r,agi.r,NE,gi54,ki,cX hii,ri]
    refine dN [12,59,60,61,62,63,64,65,66,67,68,69,70,71,72,73,74,75,76,77,78,79,80,81] 59 N (fun j g h'=>Tabled h (h.next+2) (N:Int) (.slice p us.length c) (TB k i j (LA k N i (FA N k (j4 ls M0)))) h'/\ ∀i,i<h.next+2 ->h'.get i=H.get i) (by simp only[aa,↓reduceIte]) qi ?_ ?_
    ·rintro j gj hj' hij agj gj59 qj ihj
     obtain⟨kj,rj,nj,tj,ej⟩:=know qj
     have iA:=Hy (h.next+2) 2 none (show i<6 by omega)
     have iB:=Hy (h.next+2) 2 none (show k<6 by omega)
     have iC:=yO (h.next+2) (2+i*6) none (show k<6 by omega)
     have iD:=yO (h.next+2) (2+k*6) none (show j<6 by omega)
     have iE:=yO (h.next+2) (2+i*6) none (show j<6 by omega)
     rw[Nat.mul_one]at iC iD iE
     have tA:=Ed (n:=(N:Int)) (v:=(.slice p us.length c)) qj.1.len (show i<6 by omega) (show k<6 by omega)
     have tB:=Ed (n:=(N:Int)) (v:=(.slice p us.length c)) qj.1.len (show k<6 by omega) (show j<6 by omega)
     have hl:=oR (n:=(N:Int)) (v:=(.slice p us.length c)) qj.1.len
     have e3:TB k i (j+1) (LA k N i (FA N k (j4 ls M0)))=if(LM (TB k i j (LA k N i (FA N k (j4 ls M0)))) i k&&LM (TB k i j (LA k N i (FA N k (j4 ls M0)))) k j)=true then wV (TB k i j (LA k N i (FA N k (j4 ls M0)))) i j else TB k i j (LA k N i (FA N k (j4 ls M0))):=by
      unfold TB;rw[oY]
     generalize TB k i j (LA k N i (FA N k (j4 ls M0)))=M at qj tj ej tA tB hl e3
     have lE:2+i*6+j<(dc (N:Int) (.slice p us.length c) M).length:=by rw[hl];omega
     cases hA:LM M i k with
     |false=>
      rw[hA]at tA e3
      simp(maxDischargeDepth:=30)only[AA,↓reduceIte,Q1,Q2,Q3,Q4,reduceCtorEq,Q5,Q6,Q7,XH,dZ,ag.r,agk.r,agi.r,agj.r,NE,gj59,kj,cX hij,iA,iC,tj,nj,tA,bp hij (by omega)]
      refine ihj _ _ (by simp only[AG,Nat.reduceEqDiff,agj]) (by simp only[aa,↓reduceIte]) ?_
      rw[e3];exact qj
     |true=>
      rw[hA]at tA e3
      cases hB:LM M k j with
      |false=>
       rw[hB]at tB e3
       simp(maxDischargeDepth:=30)only[AA,↓reduceIte,Q1,Q2,Q3,Q4,reduceCtorEq,Q5,Q6,Q7,XH,dZ,ag.r,agk.r,agi.r,agj.r,NE,gj59,kj,cX hij,iA,iB,iC,iD,tj,nj,tA,tB,bp hij (by omega)]
       refine ihj _ _ (by simp only[AG,Nat.reduceEqDiff,agj]) (by simp only[aa,↓reduceIte]) ?_
       rw[e3];exact qj
      |true=>
       rw[hB]at tB e3
       simp(maxDischargeDepth:=30)only[AA,↓reduceIte,Q1,Q2,Q3,Q4,reduceCtorEq,Q5,Q6,Q7,XH,dZ,ag.r,agk.r,agi.r,agj.r,NE,gj59,kj,cX hij,iA,iB,iC,iD,iE,tj,ej,nj,tA,tB,lE,KK,bp hij (by omega)]
       refine ihj _ _ (by simp only[AG,Nat.reduceEqDiff,agj]) (by simp only[aa,↓reduceIte]) ?_
       rw[e3];exact step i j qj
    ·rintro gj hj' agj gj59 qj
     obtain⟨kj,rj,nj,tj,ej⟩:=know qj
     simp(maxDischargeDepth:=30)only[AA,↓reduceIte,Q1,Q2,Q3,Q4,reduceCtorEq,Q5,Q6,Q7,XH,dZ,ag.r,agk.r,agi.r,agj.r,NE,gi54,gj59,kj,dL,bp hii (by omega)]
     refine ihi _ _ (by simp only[AG,Nat.reduceEqDiff];exact agj.thru rfl (by simp only[AG,Nat.reduceEqDiff,agi])) (by simp only[aa,↓reduceIte]) ?_
     have e:LA k N (i+1) (FA N k (j4 ls M0))=TB k i N (LA k N i (FA N k (j4 ls M0))):=by unfold LA;rw[oY]
     rw[e];exact qj
   ·rintro gi hi' agi gi54 qi
    obtain⟨ki,ri,ni,ti,ei⟩:=know qi
    simp(maxDischargeDepth:=30)only[AA,↓reduceIte,Q1,Q2,Q3,Q4,reduceCtorEq,Q5,Q6,Q7,XH,dZ,ag.r,agk.r,agi.r,NE,gk49,gi54,ki,dL,bp hik (by omega)]
    refine ihk _ _ (by simp only[AG,Nat.reduceEqDiff];exact agi.thru rfl (by simp only[AG,Nat.reduceEqDiff,agk])) (by simp only[aa,↓reduceIte]) ?_
    have e:FA N (k+1) (j4 ls M0)=LA k N N (FA N k (j4 ls M0)):=by unfold FA;rw[oY]
    rw[e];exact qi
  ·rintro gk hk' agk gk49 qk
   obtain⟨kk,rk,nk,tk,ek⟩:=know qk
   have eM:FA N N (j4 ls M0)=Cr N ls:=rfl
   rw[eM]at qk tk ek
   generalize Cr N ls=M at qk tk ek⊢
   simp(maxDischargeDepth:=30)only[AA,↓reduceIte,Q1,Q2,Q3,Q4,reduceCtorEq,Q5,Q6,Q7,XH,dZ,ag.r,agk.r,NE,gk49,kk,dL,rk]
   refine dN [13,86,87,88,89,90,91,92,93,94,95,96,97,98] 86 N (fun i g h2=>h2=hk'/\ ∀j,j<i ->LM M j j=false) (by simp only[aa,↓reduceIte]) ⟨rfl,fun j hj=>by omega⟩ ?_ ?_
   ·rintro i gi hi' hii agi gi86 ⟨rfl,hno⟩ ihi
    have iA:=Hy (h.next+2) 2 none (show i<6 by omega)
    have iC:=yO (h.next+2) (2+i*6) none (show i<6 by omega)
    rw[Nat.mul_one]at iC
    have tA:=Ed (n:=(N:Int)) (v:=(.slice p us.length c)) qk.1.len (show i<6 by omega) (show i<6 by omega)
    cases hA:LM M i i with
    |false=>
     rw[hA]at tA
     simp(maxDischargeDepth:=30)only[AA,↓reduceIte,Q1,Q2,Q3,Q4,reduceCtorEq,Q5,Q6,Q7,XH,dZ,ag.r,agk.r,agi.r,NE,gi86,kk,cX hii,iA,iC,tk,nk,tA,bp hii (by omega)]
     refine ihi _ _ (by simp only[AG,Nat.reduceEqDiff,agi]) (by simp only[aa,↓reduceIte]) ⟨rfl,fun j hj=> ?_⟩
     by_cases hji:j<i
     ·exact hno j hji
     ·obtain rfl:j=i:=by omega
      exact hA
    |true=>
     rw[hA]at tA
     simp(maxDischargeDepth:=30)only[AA,↓reduceIte,Q1,Q2,Q3,Q4,reduceCtorEq,Q5,Q6,Q7,XH,dZ,ag.r,agk.r,agi.r,NE,gi86,kk,cX hii,iA,iC,tk,nk,tA,tv,la,eJ]
     refine⟨⟨?_,_,rfl⟩,qk.1.fr⟩
     unfold E7
     exact List.any_eq_true.2 ⟨i,List.mem_range.2 hii,hA⟩
   ·rintro gi hi' agi gi86 ⟨rfl,hno⟩
    have x2':hi'.get (h.next+1)=some (.row (dc 0 (.slice none 0 0) M0) 0 true):=by rw[qk.2 _ (by omega)];exact x2
    have r2':rowAt hi' (h.next+1)=some (dc 0 (.slice none 0 0) M0):=by unfold rowAt;rw[x2'];rfl
    have n2':=af kk r2'
    have w2:fm (dc 0 (.slice none 0 0) M0) 0 (dc (N:Int) (.slice p us.length c) M)=some (dc (N:Int) (.slice p us.length c) M):=sB _ _ (by rw[oR qk.1.len];rfl)
    have tt:=Ga (n:=(N:Int)) (v:=(.slice p us.length c)) qk.1.len
    have bq:Nat.beq (dc (N:Int) (.slice p us.length c) M).length 38=true:=by rw[oR qk.1.len];rfl
    have f3:=qk.1.fr.set (show h.next<=h.next+1 by omega) n2' (.row (dc (N:Int) (.slice p us.length c) M) 0 true)
    simp(maxDischargeDepth:=30)only[AA,↓reduceIte,Q1,Q2,Q3,Q4,reduceCtorEq,Q5,Q6,Q7,XH,dZ,ag.r,agk.r,agi.r,NE,gi86,kk,dL,tk,nk,tt,r2',x2',n2',w2,bq,NU,zt (show jx (.slice p us.length c)=true from rfl)]
    refine⟨⟨?_,trivial⟩,f3⟩
    unfold E7
    rw[List.any_eq_false]
    exact fun j hj=>by rw[hno j (List.mem_range.1 hj)];simp
theorem Yf {h:Heap} (hk:HOK h) {v:Value} {s:StripB} (hs:IsSpots h v s.spots) (ok:s.ok=true):
  CX CC 44 [.agg ⟨[.int .i64 s.names,v]⟩] h (fun r h'=>(s.clash=false/\ r= .agg ⟨dc s.names v s.after⟩)/\ Fr h h') fun e h'=>(s.clash=true/\ ∃i:Int,e= .iface 234 (.agg ⟨[.int .i64 i]⟩))/\ Fr h h':=by
 obtain⟨hn,hl,hw⟩:=StripB.ok_at ok
 obtain⟨nm,ls⟩:=s
 obtain⟨N,rfl⟩: ∃N:Nat,nm=N:=⟨nm.toNat,by have:=hn.1;simp at this;omega⟩
 exact Yg hk hs (by have:=hn.2;simp at this;omega) hl hw
end Go.Am

namespace Go.Am
open Go Go.Proofs
def PVf {α:Type} (f:α ->List Value) (s N:Nat) (h:Heap) (v:Value) (l:List α):Prop:=(l=[]/\ v= .slice none 0 0) \/ ∃b c rest,v= .slice (some ⟨b,0,some s⟩) l.length c/\ b≠0/\ N<=b/\ h.get b=some (.row (l.flatMap f++rest) s true)/\ l.length<=c
section
variable {α:Type} {f:α ->List Value} {s:Nat}
theorem PVf.nil (N:Nat) (h:Heap):PVf f s N h (.slice none 0 0) []:= .inl ⟨rfl,rfl⟩
theorem PVf.keep {N:Nat} {h h':Heap} {v:Value} {l:List α} (q:PVf f s N h v l) (hg: ∀b,ay v=some b ->h'.get b=h.get b):PVf f s N h' v l:=by
 rcases q with q|⟨b,c,rest,rfl,h1,h2,h3⟩
 ·exact .inl q
 ·exact .inr ⟨b,c,rest,rfl,h1,h2,by rw[hg b rfl];exact h3.1,h3.2⟩
theorem PVf.blk {N:Nat} {h:Heap} {v:Value} {l:List α} {b:Nat} (q:PVf f s N h v l) (hk:HOK h) (hb:ay v=some b):N<=b/\ b<h.next/\ ∃r,h.get b=some (.row r s true):=by
 rcases q with⟨_,rfl⟩|⟨b',c,rest,rfl,h1,h2,h3⟩
 ·simp[ay]at hb
 ·simp[ay]at hb;subst hb;exact⟨h2,aF hk h3.1,_,h3.1⟩
theorem PVf.ls (hf: ∀x,(f x).length=s) {N:Nat} {h:Heap} {v:Value} {l:List α} (q:PVf f s N h v l): ∃p c,v= .slice p l.length c/\ LS h v l f s:=by
 rcases q with⟨rfl,rfl⟩|⟨b,c,rest,rfl,h1,h2,h3⟩
 ·exact⟨none,0,rfl, .inl ⟨rfl,_,_,rfl⟩⟩
 ·refine⟨_,c,rfl, .inr ⟨b,0,some s,c,_,rfl,by unfold rowAt;rw[h3.1];rfl,fun i x hx=> ?_⟩⟩
  have e1:=sX hf l i x hx
  have hi:=(List.getElem?_eq_some_iff.1 hx).1
  have e2:i*s+s<=(l.flatMap f).length:=by
   rw[gP hf,<-Nat.succ_mul];exact Nat.mul_le_mul_right s hi
  have e3:(((l.flatMap f)++rest).drop (i*s)).take s=f x:=by
   rw[List.drop_append_of_le_length (by omega),List.take_append_of_le_length (by rw[List.length_drop];omega),e1]
  refine⟨?_,fun j hj=> ?_⟩
  ·rw[Nat.zero_add,eP (by rw[List.length_append];omega),e3]
  ·rw[Nat.zero_add,<-e3,List.getElem?_take,if_pos hj,List.getElem?_drop]
theorem Kl (hf: ∀x,(f x).length=s) (ho: ∀x,bF (f x)=true) {C:Ctx} {t u:TypeId} {ts:List TypeId} (ht:AppT C t u s) {N:Nat} {h:Heap} {v:Value} {l:List α} (hk:HOK h) (q:PVf f s N h v l) (x:α) (hn:l.length+1<=4294967296):
  ∃h',ck C (t::u::ts) v (.slice (some ⟨h.next,0,some s⟩) 1 1) (h.ex [.row (f x) s true])=some (.slice (some ⟨h.next+1,0,some s⟩) (l.length+1) (l.length+1),h')/\ h'.get (h.next+1)=some (.row ((l++[x]).flatMap f) s true)/\ HOK h'/\ h'.next=h.next+2/\ ∀i,i<h.next ->ay v≠some i ->h'.get i=h.get i:=by
 rw[<-Tm]
 obtain⟨e,i,du,e1,e2,e3,e4,e5,e6,e7⟩:=ht.ex
 have b1:(Nat.ble ((l.length+(0+1))*i.bytes) 35184372088832&&Nat.ble (l.length+(0+1)) 35184372088832)=true:=by
  have:(l.length+(0+1))*i.bytes<=4294967296*1024:=Nat.mul_le_mul (by omega) e4
  rw[Bool.and_eq_true]
  exact⟨Nat.ble_eq_true_of_le (by omega),Nat.ble_eq_true_of_le (by omega)⟩
 have hc:bf (h.alloc (.row (f x) s true)) s (0+1) (.slice (some ⟨h.next,0,some s⟩) 1 1)=some (f x):=by
  show ae (rowAt _ h.next) (fun cells=>aA cells 0 ((0+1)*s))=_
  rw[fW]
  show aA (f x) 0 ((0+1)*s)=_
  rw[eP (by rw[hf];omega),List.drop_zero,List.take_of_length_le (by rw[hf];omega)]
 have ez:lk s (C.zero e)=true:=by rw[<-e3];exact e7
 have fin: ∀{p:Option Addr} {c:Nat} {h':Heap},v= .slice p l.length c ->Bh p l.length c=true ->lR (h.alloc (.row (f x) s true)) s l.length (f x) p=some h' ->ck C (t::u::ts) v (.slice (some ⟨h.next,0,some s⟩) 1 1) (h.alloc (.row (f x) s true))=some (.slice (some ⟨h.next+1,0,some s⟩) (l.length+1) (l.length+1),h'):=by
  intro p c h' ev hnil hg
  have b2:Nat.beq (f x).length ((0+1)*s)=true:=by rw[hf,Nat.zero_add,Nat.one_mul,Nat.beq_refl]
  have e0:i8 (.slice (some ⟨h.next,0,some s⟩) 1 1)=some (0+1):=rfl
  simp only[ck,e1,e2,e5,au,dy,e6,e3,ez,Bool.and_self,aK,ev,jQ,e0,rL,hnil,b1,hc,ho x,b2,hg]
  rfl
 rcases q with⟨rfl,rfl⟩|⟨b,c,rest,rfl,hb0,hbN,hb,_⟩
 ·refine⟨(h.alloc (.row (f x) s true)).alloc (.row (f x) s true),fin rfl rfl rfl,?_,(hk.alloc _).alloc _,by simp,fun i hi _=>by rw[Heap.get_alloc_ne _ _ (by simp;omega),Heap.get_alloc_ne _ _ (by omega)]⟩
  have:=dr (h:=h.alloc (.row (f x) s true)) (i:=h.next+1) (.row (f x) s true) (by simp)
  simpa using this
 ·have hbl:b<h.next:=aF hk hb
  have hb':(h.alloc (.row (f x) s true)).get b=some (.row (l.flatMap f++rest) s true):=by rw[Heap.get_alloc_ne _ _ (by omega)];exact hb
  refine⟨((h.alloc (.row (f x) s true)).set b .dead).alloc (.row ((l++[x]).flatMap f) s true),fin rfl rfl ?_,dr _ (by simp),((hk.alloc _).set (by simp;omega) _).alloc _,by simp,fun i hi hne=> ?_⟩
  ·cases b with
   |zero=>exact absurd rfl hb0
   |succ b=>
    simp only[lR,Az,Nat.beq_refl,aK,zE,hb',au,fO]
    have:aA (l.flatMap f++rest) 0 (l.length*s)=some (l.flatMap f):=by
     have e:=gP hf l
     rw[eP (by rw[List.length_append];omega),List.drop_zero,List.take_append_of_le_length (by omega),List.take_of_length_le (by omega)]
    rw[this]
    simp only[au,List.flatMap_append]
    simp
  ·rw[Heap.get_alloc_ne _ _ (by simp;omega),Heap.get_set_ne _ _ (fun e=>hne (by simp[ay,e])),Heap.get_alloc_ne _ _ (by omega)]
theorem De {C:Ctx} {t e:TypeId} (hu:C.und t=some (.slice e)) (hs:C.size e=some s) {N:Nat} {h:Heap} {v:Value} {l m:List α} (q:PVf f s N h v (l++m)): ∃v',jb C t v none (some (.int .i64 l.length)) none=some v'/\ PVf f s N h v' l/\ ay v'=ay v:=by
 rcases q with⟨e,rfl⟩|⟨b,c,rest,rfl,h1,h2,h3,h4⟩
 ·obtain⟨rfl,rfl⟩:=List.append_eq_nil_iff.1 e
  refine⟨.slice none 0 0,?_,PVf.nil _ _,rfl⟩
  rw[jK hu hs];rfl
 ·have hl:(l++m).length=l.length+m.length:=List.length_append
  refine⟨.slice (some ⟨b,0,some s⟩) l.length c,?_, .inr ⟨b,c,m.flatMap f++rest,rfl,h1,h2,by rw[h3,List.flatMap_append,List.append_assoc],by omega⟩,rfl⟩
  cases b with
  |zero=>exact absurd rfl h1
  |succ b=>
   rw[jK hu hs]
   unfold kG
   rw[Nat.ble_eq_true_of_le h4,aK]
   simp only[jJ,ot,nM,Nat.ble_eq_true_of_le (Nat.zero_le _),Nat.ble_eq_true_of_le (show l.length<=c by omega),Bool.and_self,aK,au,Nat.sub_zero,ib,Nat.zero_mul,Nat.add_zero,eA,Nat.beq_refl]
end
structure GH (β:Type)where
 J:(Nat ->Prop) ->List β ->Heap ->Prop
 F1:Nat ->Prop
 h1:Heap
 pN:Nat
 pY:Nat
 pF:Nat
 vY:Value
 vF:Value
structure GQ {α β:Type} (f:α ->List Value) (s:Nat) (g:GH β) (F:Nat ->Prop) (D:List β) (now:List α) (h:Heap):Prop where
 base:Gr g.F1 g.h1 h
 pos:0<h.next
 j:g.J F D h
 sub: ∀i,F i ->g.F1 i \/g.h1.next<=i
 rY:h.get g.pY=some (.row [g.vY] 0 true)
 rF:h.get g.pF=some (.row [g.vF] 0 true)
 ex: ∃v,h.get g.pN=some (.row [v] 0 true)/\ PVf f s g.h1.next h v now/\ ∀b,ay v=some b -> ¬F b
 priv: ∀i,i=g.pN \/i=g.pY \/i=g.pF -> ¬F i/\ (i≠g.pY ->g.h1.next<=i)
def Kq {β:Type} (s:Nat) (g:GH β) (F:Nat ->Prop) (h h':Heap):Prop:= ∀i,i<h.next -> ¬F i ->i≠g.pN ->(∀r,h.get i≠some (.row r s true)) ->h'.get i=h.get i
section
variable {α β:Type} {f:α ->List Value} {s:Nat} {g:GH β} {F F':Nat ->Prop} {D:List β} {now:List α} {h h' a b c:Heap}
theorem Kq.refl:Kq s g F h h:=fun _ _ _ _ _=>rfl
theorem Kq.fr (q:Fr h h'):Kq s g F h h':=fun i hi _ _ _=>q.get i hi
theorem Kq.set (x:AObj):Kq s g F h (h.set g.pN x):=fun _ _ _ h2 _=>Heap.get_set_ne _ _ h2
theorem Kq.gr (q:Gr F h h'):Kq s g F h h':=fun i hi hn _ _=>q.get i hi hn
theorem Kq.trans (k:Kq s g F a b) (hn:a.next<=b.next) (k':Kq s g F' b c) (hs: ∀i,F' i ->F i \/a.next<=i):Kq s g F a c:=fun i hi h1 h2 h4=>by
 have e:=k i hi h1 h2 h4
 rw[k' i (by omega) (fun hf=>(hs i hf).elim h1 fun h=>by omega) h2 (fun r=>by rw[e];exact h4 r),e]
variable (stay: ∀F D h h',g.J F D h ->HOK h' ->h.next<=h'.next ->(∀i,F i ->h'.get i=h.get i) ->g.J F D h') (low: ∀F D h,g.J F D h -> ∀i,F i ->i<h.next)
include stay low in
theorem GQ.fr (q:GQ f s g F D now h) (fr:Fr h h'):GQ f s g F D now h':=by
 have hk:=q.base.ok
 obtain⟨v,e1,e2,e3⟩:=q.ex
 exact⟨q.base.trans fr.gr,Nat.lt_of_lt_of_le q.pos fr.next,stay _ _ _ _ q.j fr.ok fr.next fun i hi=>fr.get i (low _ _ _ q.j i hi),q.sub,fr.get' hk q.rY,fr.get' hk q.rF,
  ⟨v,fr.get' hk e1,e2.keep fun b hb=>fr.get b (e2.blk hk hb).2.1,e3⟩,q.priv⟩
include stay in
theorem GQ.put (q:GQ f s g F D now h) (hd:g.pN≠g.pY/\ g.pN≠g.pF) {v:Value} {now':List α} (hv:PVf f s g.h1.next h v now') (s0:0<s) (hb: ∀b,ay v=some b -> ¬F b):
  GQ f s g F D now' (h.set g.pN (.row [v] 0 true)):=by
 have hk:=q.base.ok
 obtain⟨v0,e1,e2,e3⟩:=q.ex
 have nl:=aF hk e1
 have pn: ¬F g.pN/\ g.h1.next<=g.pN:=⟨(q.priv g.pN (by simp)).1,(q.priv g.pN (by simp)).2 hd.1⟩
 refine⟨⟨hk.set nl _,by simpa using q.base.next,fun i hi hn=>by rw[Heap.get_set_ne _ _ (by omega)];exact q.base.get i hi hn⟩,by simpa using q.pos,stay _ _ _ _ q.j (hk.set nl _) (by simp) fun i hi=>Heap.get_set_ne _ _ fun e=>pn.1 (e▸hi),q.sub,?_,?_,
  ⟨v,am _ _ _,hv.keep fun b hb=> ?_,hb⟩,q.priv⟩
 ·rw[Heap.get_set_ne _ _ (Ne.symm hd.1)];exact q.rY
 ·rw[Heap.get_set_ne _ _ (Ne.symm hd.2)];exact q.rF
 ·obtain⟨_,_,r,hr⟩:=hv.blk hk hb
  rw[Heap.get_set_ne _ _ fun e=>by rw[e,e1]at hr;simp at hr;omega]
theorem GQ.yield {Item : Nat → Heap → β → Value → Prop} {Bk : Value → Nat → Prop} {S : List β → Heap → Prop} {l M : Nat} {h0 : Heap} (E : Eats Item Bk g.J S l h0 M) (q : GQ f s g F D now h) (fr : Fr h h') (f0 : Fr h0 g.h1) (hF : ∀ i, g.F1 i → h0.next ≤ i) {v : Value} {p : β} (hi : Item h0.next h' p v) (hbk : ∀ i, Bk v i → h.next ≤ i ∧ i < h'.next) (hM : D.length + 1 ≤ M) :
    ∃ b h2, jO (bH CC) l [v] h' = some (.ret (.bool b) h2 none) ∧ Gr g.F1 g.h1 h2 ∧ Gr F h' h2 ∧ ((b = true ∧ ∃ F', GQ f s g F' (D ++ [p]) now h2 ∧ ∀ i, F' i → F i ∨ h.next ≤ i) ∨ (b = false ∧ S (D ++ [p]) h2)) := by
  have stay := E.stay
  have low : ∀ F D h, g.J F D h → ∀ i, F i → i < h.next := fun F D h j i hi => (E.low F D h j i hi).2
  have q' := q.fr stay low fr
  have hk := q.base.ok
  have hk' := q'.base.ok
  have n1 : g.h1.next ≤ h.next := q.base.next
  obtain ⟨b, h2, e, gr, hb⟩ := E.round F D h' v p hk' q'.pos ((q'.base).fr f0 hF) q'.j hi (fun i hb hf => by
    have := (hbk i hb).1
    have := low _ _ _ q.j i hf
    omega) hM
  have base2 : Gr g.F1 g.h1 h2 := q'.base.trans' gr q.sub
  refine ⟨b, h2, e, base2, gr, ?_⟩
  rcases hb with ⟨rfl, F', hs, hj⟩ | ⟨rfl, hs⟩
  · left
    have hsub : ∀ i, F' i → F i ∨ h.next ≤ i := fun i hi' => by
      rcases hs i hi' with a | a | a
      · exact .inl a
      · exact .inr (hbk i a).1
      · exact .inr (Nat.le_trans fr.next a)
    obtain ⟨v0, e1, e2, e3⟩ := q'.ex
    obtain ⟨v1, e1', e2', e3'⟩ := q.ex
    obtain rfl : v0 = v1 := by
      have := fr.get' hk e1'
      rw [this] at e1; simpa using e1.symm
    have nF : ∀ i x, h.get i = some x → ¬ F i → ¬ F' i := fun i x hx hn hf => by
      rcases hsub i hf with a | a
      · exact hn a
      · have := aF hk hx; omega
    have gt : ∀ i x, h'.get i = some x → ¬ F i → h2.get i = some x := fun i x hx hn => by rw [gr.get i (aF hk' hx) hn]; exact hx
    have pv : ∀ i, i = g.pN ∨ i = g.pY ∨ i = g.pF → ¬ F i := fun i hi => (q.priv i hi).1
    refine ⟨rfl, F', ⟨base2, Nat.lt_of_lt_of_le q'.pos gr.next, hj, fun i hf => (hsub i hf).elim (fun a => q.sub i a) (fun a => .inr (Nat.le_trans n1 a)), gt _ _ q'.rY (pv _ (by simp)), gt _ _ q'.rF (pv _ (by simp)),
      ⟨v0, gt _ _ e1 (pv _ (by simp)), e2.keep fun b hb => gr.get b (e2.blk hk' hb).2.1 (e3 b hb), fun b hb => ?_⟩, fun i hi => ⟨?_, (q.priv i hi).2⟩⟩, hsub⟩
    · obtain ⟨_, _, r, hr⟩ := e2'.blk hk hb
      exact nF b _ hr (e3' b hb)
    · rcases hi with rfl | rfl | rfl
      · exact nF _ _ e1' (pv _ (by simp))
      · exact nF _ _ q.rY (pv _ (by simp))
      · exact nF _ _ q.rF (pv _ (by simp))
  · exact .inr ⟨rfl, hs⟩
include stay low in
theorem GQ.push (hf: ∀x,(f x).length=s) (ho: ∀x,bF (f x)=true) (s0:0<s) {t u:TypeId} (ht:AppT CC t u s) (q:GQ f s g F D now h) (hd:g.pN≠g.pY/\ g.pN≠g.pF) {v:Value} (e1:h.get g.pN=some (.row [v] 0 true)) (x:α) (hn:now.length+1<=4294967296):
  ∃h2,ck CC [t,u] v (.slice (some ⟨h.next,0,some s⟩) 1 1) (h.ex [.row (f x) s true])=some (.slice (some ⟨h.next+1,0,some s⟩) (now.length+1) (now.length+1),h2)/\ h2.get g.pN=some (.row [v] 0 true)/\ HOK h2/\ h.next<h2.next/\ Kq s g F h (h2.set g.pN (.row [.slice (some ⟨h.next+1,0,some s⟩) (now.length+1) (now.length+1)] 0 true))/\
   GQ f s g F D (now++[x]) (h2.set g.pN (.row [.slice (some ⟨h.next+1,0,some s⟩) (now.length+1) (now.length+1)] 0 true)):=by
 have hk:=q.base.ok
 obtain⟨v0,e1',e2,e3⟩:=q.ex
 obtain rfl:v=v0:=by rw[e1]at e1';simpa using e1'
 obtain⟨h2,ea,eg,k2,n2,g2⟩:=Kl hf ho (ts:=[]) ht hk e2 x hn
 have nl:=aF hk e1
 have tag: ∀{i L},h.get i=some (.row L 0 true) ->ay v≠some i:=fun hi hb=>by
  obtain⟨_,_,r,hr⟩:=e2.blk hk hb
  rw[hi]at hr;simp at hr;omega
 have G: ∀i y,i<h.next ->ay v≠some i ->i≠g.pN ->(h2.set g.pN y).get i=h.get i:=fun i y hi hb hne=>by rw[Heap.get_set_ne _ _ hne];exact g2 i hi hb
 have e1n:h2.get g.pN=some (.row [v] 0 true):=by rw[g2 _ nl (tag e1)];exact e1
 have n1:g.h1.next<=h.next:=q.base.next
 have pN: ¬F g.pN/\ g.h1.next<=g.pN:=⟨(q.priv g.pN (by simp)).1,(q.priv g.pN (by simp)).2 hd.1⟩
 refine⟨h2,ea,e1n,k2,by omega,fun i hi a1 a2 a4=>G i _ hi (fun hb=>by obtain⟨_,_,r,hr⟩:=e2.blk hk hb;exact a4 r hr) a2,⟨⟨k2.set (by omega) _,by simp;omega,fun i hi hn=> ?_⟩,by simp;omega,stay _ _ _ _ q.j (k2.set (by omega) _) (by simp;omega) fun i hi=> ?_,q.sub,?_,?_,⟨_,am _ _ _, .inr ⟨h.next+1,now.length+1,[],by simp,by omega,by omega,?_,by simp⟩,fun b hb hf=> ?_⟩,q.priv⟩⟩
 ·rw[G i _ (by omega) (fun hb=>by have:=(e2.blk hk hb).1;omega) (by omega)];exact q.base.get i hi hn
 ·exact G i _ (low _ _ _ q.j i hi) (fun hb=>e3 i hb hi) fun e=>pN.1 (e▸hi)
 ·rw[G _ _ (aF hk q.rY) (tag q.rY) (Ne.symm hd.1)];exact q.rY
 ·rw[G _ _ (aF hk q.rF) (tag q.rF) (Ne.symm hd.2)];exact q.rF
 ·rw[List.append_nil,Heap.get_set_ne _ _ (by omega)];exact eg
 ·simp[ay]at hb
  have:=low _ _ _ q.j b hf
  omega
end
end Go.Am
