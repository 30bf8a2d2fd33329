/- Parts V44, V45, V46, V47, V48 of the abstract machine over this program, joined: what each part says stands at its head. -/
import Derived.Test.YtlflfbnnjlkkcaaGreatJV42
set_option linter.unusedSimpArgs false
set_option linter.unusedVariables false
set_option linter.defProp false
open Nat renaming reduceLT→Q1,reduceEqDiff→Q2,reduceAdd→Q3,reduceMul→Q4,reduceLeDiff→Q5
open Int renaming reduceNe→Q6,reduceEq→Q7
namespace Go.Am
open Go Go.Proofs
def sd:=A2 @WM<|A2 @eF<|A2 @xM<|A2 @xL<|A2 @xK<|A2 @BQ<|A2 @BP<|A2 @iR<|A2 @iQ<|A2 @pH<|A2 @cG<|A2 @Hq<|A2 @cM<|A2 @lP<|A2 @tK<|A2 @Bw<|A2 @cS<|A2 @lO<|A2 @uj<|A2 @o8<|A2 @bJ<|A2 @aV<|A2 @Gw<|A2 @eU<|A2 @u7<|A2 @ba<|A2 @Pn<|A2 @Pm<|A2 @Pl<|A2 @bm<|A2 @oM<|A2 @bh<|A2 @FM<|A2 @oJ @uN
def psum (l:List Int):List Int:=(List.range (l.length+1)).map fun i=>cK (l.take i)
theorem nG (l:List Int):(psum l).length=l.length+1:=by simp[psum]
theorem j5 (l:List Int) {i:Nat} (h:i<=l.length):(psum l)[i]? =some (cK (l.take i)):=by
 simp only[psum,List.getElem?_map]
 rw[List.getElem?_range (by omega)];rfl
theorem Dm (l:List Int) {i:Nat} (h:i+1<=l.length):(psum l).take (i+2)=(psum l).take (i+1)++[cK (l.take (i+1))]:=bI (j5 l h)
theorem C5 {l:List Int} {i:Nat} {x:Int} (h:l[i]? =some x):cK (l.take (i+1))=cK (l.take i)+x:=by rw[bI h,Gb]
theorem sN (l:List Int):(psum l).take (0+1)=[0]:=by
 rw[bI (j5 l (Nat.zero_le _))];rfl
theorem SL.at {N:Nat} {h:Heap} {v:Value} {l:List Value} {s n:Nat} (q:SL N h v l s (n+1)) (hk:HOK h): ∃b,v= .slice (some ⟨b,0,some s⟩) (n+1) (n+1)/\ rowAt h b=some l/\ b<h.next/\ N<=b:=by
 rcases q with⟨_,_,h⟩|⟨b,e,_,h2,h3,_⟩
 ·omega
 ·have r:rowAt h b=some l:=by unfold rowAt;rw[h3];rfl
  exact⟨b,e,r,af hk r,h2⟩
theorem DP (l:List Int):l.flatMap aQ=l.map (.int .i64):=by
 induction l with
 |nil=>rfl
 |cons a l ih=>simp[aQ,ih]
theorem BB {l:List Int} {i:Nat} {x:Int} (h:l[i]? =some x):(l.flatMap aQ)[i]? =some (.int .i64 x):=by rw[DP,List.getElem?_map,h];rfl
def IsShop (h:Heap) (v:Value) (s:CoatS):Prop:= ∃a b c l g,v= .agg ⟨[a,b,c,l,g]⟩/\ IsCoats h a b c s/\ LS h l (psum (s.dry.map Sp.lo)) aQ 1/\ LS h g (psum (s.dry.map Sp.hi)) aQ 1
theorem IsShop.fr {h h':Heap} {v:Value} {s:CoatS} (q:IsShop h v s) (hk:HOK h) (f:Fr h h'):IsShop h' v s:=by
 obtain⟨a,b,c,l,g,e,q1,q2,q3⟩:=q
 exact⟨a,b,c,l,g,e,q1.fr hk f,q2.fr hk f,q3.fr hk f⟩
theorem CoatS.dry_at {s:CoatS} (h:s.ok=true) {i:Nat} {x:Sp} (hx:s.dry[i]? =some x):0<=x.lo/\ x.lo<=x.hi/\ x.hi<=24:=by
 simp only[CoatS.ok,Bool.and_eq_true,Bool.not_eq_true']at h
 have:=(List.any_eq_false.1 h.2.2.1) x (List.mem_of_getElem? hx)
 simp only[Sp.dryOK,cL,Bool.not_eq_true',Bool.and_eq_false_imp,decide_eq_true_eq,Bool.not_eq_false]at this
 have a:=Decidable.byContradiction (fun n: ¬(0<=x.lo/\ x.lo<=24)=>this (by simp;intro a b;exact absurd ⟨a,b⟩ n))
 have b:=Decidable.byContradiction (fun n: ¬(x.lo<=x.hi/\ x.hi<=24)=>this (by simp;intro _ _ a;have:=fun b=>n ⟨a,b⟩;omega))
 omega
theorem CoatS.lens {s:CoatS} (h:s.ok=true):1<=s.dry.length/\ s.dry.length<=12/\ 1<=s.coats.length/\ s.coats.length<=5:=by
 simp only[CoatS.ok,Bool.and_eq_true,cL,decide_eq_true_eq]at h
 omega
theorem CoatS.sums {s:CoatS} (h:s.ok=true) {i:Nat} (hi:i<=s.dry.length):0<=cK ((s.dry.map Sp.lo).take i)/\ cK ((s.dry.map Sp.lo).take i)<=24*i/\ 0<=cK ((s.dry.map Sp.hi).take i)/\ cK ((s.dry.map Sp.hi).take i)<=24*i:=by
 have a: ∀x∈(s.dry.map Sp.lo).take i,0<=x/\ x<=24:=by
  intro x hx
  obtain⟨y,hy,rfl⟩:=List.mem_map.1 (List.mem_of_mem_take hx)
  obtain⟨j,hj⟩:=List.mem_iff_getElem?.1 hy
  have:=s.dry_at h hj;omega
 have b: ∀x∈(s.dry.map Sp.hi).take i,0<=x/\ x<=24:=by
  intro x hx
  obtain⟨y,hy,rfl⟩:=List.mem_map.1 (List.mem_of_mem_take hx)
  obtain⟨j,hj⟩:=List.mem_iff_getElem?.1 hy
  have:=s.dry_at h hj;omega
 have c:=oS a
 have d:=oS b
 simp only[List.length_take,List.length_map,Nat.min_eq_left hi]at c d
 omega
set_option maxRecDepth 10000 in
set_option maxHeartbeats 1000000 in
theorem MB {h:Heap} (hk:HOK h) (hp:0<h.next) {a b c:Value} {s:CoatS} (hs:IsCoats h a b c s) (ho:s.ok=true):
  CW CC 114 [.agg ⟨[a,b,c]⟩] h fun r h'=>IsShop h' r s/\ Fr h h':=by
 obtain⟨p1,c1,rfl,x1⟩:=hs.dry.open
 obtain⟨p2,c2,rfl,_⟩:=hs.work.open
 obtain⟨p3,c3,rfl,_⟩:=hs.coats.open
 have⟨l1,l2,l3,l4⟩:=CoatS.lens ho
 refine aw Tryz.f114 (by kernel_rfl) (by kernel_rfl) rfl rfl ?_
 simp only[Tryz.f114]
 simp(maxDischargeDepth:=30)only[AA,↓reduceIte,Q1,Q2,Q3,Q4,reduceCtorEq,Q5,Q6,Q7,sd,hk,eF (dE _ _),aG]
 have z0:cK ((s.dry.map Sp.lo).take 0)=0:=rfl
 have z1:cK ((s.dry.map Sp.hi).take 0)=0:=rfl
 refine eT s.dry.length (fun m f h'=> ∃i vl vg,i<=s.dry.length/\ m=s.dry.length -i/\ f 2= .pointer (some ⟨h.next+1,0,none⟩)/\ f 3= .pointer (some ⟨h.next+1+1+1+1,0,none⟩)/\ f 11= .slice p1 s.dry.length c1/\ f 12= .int .i64 s.dry.length/\ f 13= .int .i64 i/\
   h'.get (h.next+1+1+1+1)=some (.row [.slice p1 s.dry.length c1, .slice p2 s.work.length c2, .slice p3 s.coats.length c3,vl,vg] 0 true)/\ h'.get (h.next+1)=some (.row [.slice none 0 0, .slice none 0 0, .slice none 0 0, .slice none 0 0, .slice none 0 0] 0 true)/\
   SL h.next h' vl (((psum (s.dry.map Sp.lo)).take (i+1)).flatMap aQ) 1 (i+1)/\ SL h.next h' vg (((psum (s.dry.map Sp.hi)).take (i+1)).flatMap aQ) 1 (i+1)/\ ay vl≠ay vg/\ Fr h h'/\ h.next+1+1+1+1<h'.next)
  ⟨0,_,_,by omega,by omega,by simp[aa],by simp[aa],by simp[aa],by simp[aa],by simp[aa],by rw[am],by rw[dD _ (by omega),cP _ (by simp),cP _ (by simp),cP _ (by simp)];exact dr _ (by simp),?_,?_,by simp[ay],
   ((((((Fr.refl hk).alloc _).alloc _).alloc _).alloc _).alloc _).set (by omega) (by simp) _,by simp⟩ ?_
 ·refine .inr ⟨h.next+1+1,rfl,by omega,by omega,?_,by rw[sN];rfl⟩
  rw[sN,dD _ (by omega),cP _ (by simp),cP _ (by simp)];exact dr _ (by simp)
 ·refine .inr ⟨h.next+1+1+1,rfl,by omega,by omega,?_,by rw[sN];rfl⟩
  rw[sN,dD _ (by omega),cP _ (by simp)];exact dr _ (by simp)
 rintro m f h' ⟨i,vl,vg,hi,rfl,f2,f3,f11,f12,f13,gS,gR,ql,qg,nb,fr,m4⟩ ih
 have k':=fr.ok
 by_cases hil:i<s.dry.length
 ·obtain⟨x,gx⟩: ∃x,s.dry[i]? =some x:=⟨_,List.getElem?_eq_getElem hil⟩
  rcases x1 with hx|⟨b1,o1,sp1,row1,rfl,rr1,x1⟩
  ·rw[hx]at hil;simp at hil
  have e1:aA row1 (o1+i*2) 2=some x.cells:=(x1 _ _ gx).1
  have rr1':=fr.row' hk rr1
  have kx:aA x.cells 0 2=some x.cells:=rfl
  have lx:x.cells.length=2:=rfl
  simp(maxDischargeDepth:=30)only[AA,↓reduceIte,Q1,Q2,Q3,Q4,reduceCtorEq,Q5,Q6,Q7,sd,k',f2,f3,f11,f12,f13,cX hil,hil,rr1',e1,lx]
  refine bR [(true,0),(true,1),(true,2),(true,3),(true,4),(true,5),(true,6),(true,7),(true,8),(true,9),(true,10),(true,12),(true,13),(true,14),(true,15),(true,16),(true,17),(true,18),(true,19),(true,20),(true,21),(true,22),(true,11),(false,13),(false,15),(false,18),(false,20),(false,22),(true,24),(true,23),(true,25),(true,26),(true,27)] (by kernel_rfl) ?_
  have fb:Fr h' ((h'.alloc (.row [.int .i64 0, .int .i64 0] 0 true)).set h'.next (.row x.cells 0 true)):=((Fr.refl k').alloc _).set (by omega) (by simp) _
  have gb:rowAt ((h'.alloc (.row [.int .i64 0, .int .i64 0] 0 true)).set h'.next (.row x.cells 0 true)) h'.next=some x.cells:=cT _ _ _ _ _
  have nx:((h'.alloc (.row [.int .i64 0, .int .i64 0] 0 true)).set h'.next (.row x.cells 0 true)).next=h'.next+1:=by simp
  generalize((h'.alloc (.row [.int .i64 0, .int .i64 0] 0 true)).set h'.next (.row x.cells 0 true))=h1 at fb gb nx⊢
  have k1:=fb.ok
  have gS1:=fb.get' k' gS
  have gR1:=fb.get' k' gR
  have ql1:=ql.fr k' fb
  have qg1:=qg.fr k' fb
  obtain⟨bl,rfl,rl,nl,Nl⟩:=ql1.at k1
  obtain⟨bg,rfl,rg,ng,Ng⟩:=qg1.at k1
  have el:(((psum (s.dry.map Sp.lo)).take (i+1)).flatMap aQ)[i]? =some (.int .i64 (cK ((s.dry.map Sp.lo).take i))):=BB (by rw[List.getElem?_take,if_pos (by omega)];exact j5 _ (by simp;omega))
  have eg:(((psum (s.dry.map Sp.hi)).take (i+1)).flatMap aQ)[i]? =some (.int .i64 (cK ((s.dry.map Sp.hi).take i))):=BB (by rw[List.getElem?_take,if_pos (by omega)];exact j5 _ (by simp;omega))
  have sl:cK ((s.dry.map Sp.lo).take (i+1))=cK ((s.dry.map Sp.lo).take i)+x.lo:=C5 (by rw[List.getElem?_map,gx];rfl)
  have sg:cK ((s.dry.map Sp.hi).take (i+1))=cK ((s.dry.map Sp.hi).take i)+x.hi:=C5 (by rw[List.getElem?_map,gx];rfl)
  have bnd:=CoatS.sums ho (i:=i+1) (by omega)
  have w1:IntKind.i64.wrap (cK ((s.dry.map Sp.lo).take i)+x.lo)=cK ((s.dry.map Sp.lo).take (i+1)):=by rw[bG (by omega) (by omega),sl]
  have w2:IntKind.i64.wrap (cK ((s.dry.map Sp.hi).take i)+x.hi)=cK ((s.dry.map Sp.hi).take (i+1)):=by rw[bG (by omega) (by omega),sg]
  have rS1:rowAt h1 (h.next+1+1+1+1)=some [.slice (some ⟨b1,o1,sp1⟩) s.dry.length c1, .slice p2 s.work.length c2, .slice p3 s.coats.length c3, .slice (some ⟨bl,0,some 1⟩) (i+1) (i+1), .slice (some ⟨bg,0,some 1⟩) (i+1) (i+1)]:=by unfold rowAt;rw[gS1];rfl
  have c0:x.cells[0]? =some (.int .i64 x.lo):=rfl
  have c1':x.cells[0+1]? =some (.int .i64 x.hi):=rfl
  have f1:Fr h h1:=fr.trans fb
  have m41:h.next+1+1+1+1<h1.next:=by omega
  have mb:h'.next<h1.next:=by omega
  have fa:Fr h1 ((h1.alloc (.row [.int .i64 (cK ((s.dry.map Sp.lo).take (i+1)))] 1 true)).alloc (.row [.int .i64 (cK ((s.dry.map Sp.hi).take (i+1)))] 1 true)):=((Fr.refl k1).alloc _).alloc _
  have x1':rowAt ((h1.alloc (.row [.int .i64 (cK ((s.dry.map Sp.lo).take (i+1)))] 1 true)).alloc (.row [.int .i64 (cK ((s.dry.map Sp.hi).take (i+1)))] 1 true)) h1.next=some [.int .i64 (cK ((s.dry.map Sp.lo).take (i+1)))]:=by
   rw[cY _ (by simp)];exact fW _ _ _ _
  have x2':rowAt ((h1.alloc (.row [.int .i64 (cK ((s.dry.map Sp.lo).take (i+1)))] 1 true)).alloc (.row [.int .i64 (cK ((s.dry.map Sp.hi).take (i+1)))] 1 true)) (h1.next+1)=some [.int .i64 (cK ((s.dry.map Sp.hi).take (i+1)))]:=nt _ _ _ (by simp)
  have x2g:((h1.alloc (.row [.int .i64 (cK ((s.dry.map Sp.lo).take (i+1)))] 1 true)).alloc (.row [.int .i64 (cK ((s.dry.map Sp.hi).take (i+1)))] 1 true)).get (h1.next+1)=some (.row [.int .i64 (cK ((s.dry.map Sp.hi).take (i+1)))] 1 true):=dr _ (by simp)
  have na:((h1.alloc (.row [.int .i64 (cK ((s.dry.map Sp.lo).take (i+1)))] 1 true)).alloc (.row [.int .i64 (cK ((s.dry.map Sp.hi).take (i+1)))] 1 true)).next=h1.next+2:=by simp
  simp(maxDischargeDepth:=30)only[AA,↓reduceIte,Q1,Q2,Q3,Q4,reduceCtorEq,Q5,Q6,Q7,sd,k1,m41,mb,rS1,f3,rl,rg,nl,ng,Nat.lt_succ_self,Nat.mul_one,el,eg,gb,c0,c1',w1,w2,eF (dE _ _),aG]
  generalize((h1.alloc (.row [.int .i64 (cK ((s.dry.map Sp.lo).take (i+1)))] 1 true)).alloc (.row [.int .i64 (cK ((s.dry.map Sp.hi).take (i+1)))] 1 true))=h2 at fa x1' x2' x2g na⊢
  have k2:=fa.ok
  obtain⟨h3,e3,q3,k3,n3,g3⟩:=dI (ts:=[]) kr k2 (show h.next<=h2.next by omega) (by omega) (ql1.fr k1 fa) (x:= .slice (some ⟨h1.next,0,some 1⟩) 1 1) (new:=[.int .i64 (cK ((s.dry.map Sp.lo).take (i+1)))]) (m:=0) rfl (by
   show ae (rowAt h2 h1.next) (fun cells=>aA cells 0 (1*1))=_
   rw[x1'];rfl) (by simp[da,vu,ja]) rfl (by omega)
  have nbl:bl≠bg:=by simpa[ay]using nb
  have tS:bl≠h.next+1+1+1+1:=by have:=ql1.tag gS1 (by omega);simpa[ay]using this
  have keep: ∀j l,j<h1.next ->bl≠j ->rowAt h1 j=some l ->rowAt h3 j=some l:=by
   intro j l hj hne hr
   have:=fa.row' k1 hr
   unfold rowAt at this⊢
   rw[g3 j (by omega) (by simpa[ay]using hne)];exact this
  have rS3:=keep _ _ m41 tS rS1
  have rg3:=keep _ _ ng nbl rg
  have tb':bl<h'.next:=(ql.blk_lt k' rfl).2
  have tb:bl≠h'.next:=Nat.ne_of_lt tb'
  have gb3:=keep _ _ mb tb gb
  have x3g:h3.get (h1.next+1)=some (.row [.int .i64 (cK ((s.dry.map Sp.hi).take (i+1)))] 1 true):=by
   rw[g3 (h1.next+1) (by omega) (by simp[ay];omega)];exact x2g
  have sm:sameAt (.row [.int .i64 (cK ((s.dry.map Sp.hi).take (i+1)))] 1 true) (some (.row [.int .i64 (cK ((s.dry.map Sp.hi).take (i+1)))] 1 true))=true:=kX 1 rfl
  have x3':rowAt h3 (h1.next+1)=some [.int .i64 (cK ((s.dry.map Sp.hi).take (i+1)))]:=by
   unfold rowAt;rw[g3 (h1.next+1) (by omega) (by simp[ay];omega)];exact x2'
  have f3':Fr h h3:=⟨k3,by have:=f1.next;omega,fun j hj=>by
   rw[g3 j (by have:=f1.next;omega) (by simp[ay];omega),fa.get j (by have:=f1.next;omega),f1.get j hj]⟩
  have qg3:SL h.next h3 (.slice (some ⟨bg,0,some 1⟩) (i+1) (i+1)) (((psum (s.dry.map Sp.hi)).take (i+1)).flatMap aQ) 1 (i+1):=by
   refine(qg1.fr k1 fa).keep fun b hb=> ?_
   simp[ay]at hb;subst hb
   exact g3 _ (by omega) (by simpa[ay]using nbl)
  obtain⟨h4,e4,q4,k4,n4,g4⟩:=dI (ts:=[]) kr k3 (show h.next<=h3.next by omega) (by omega) qg3 (x:= .slice (some ⟨h1.next+1,0,some 1⟩) 1 1) (new:=[.int .i64 (cK ((s.dry.map Sp.hi).take (i+1)))]) (m:=0) rfl (by
   show ae (rowAt h3 (h1.next+1)) (fun cells=>aA cells 0 (1*1))=_
   rw[x3'];rfl) (by simp[da,vu,ja]) rfl (by omega)
  have gS4:h4.get (h.next+1+1+1+1)=some (.row [.slice (some ⟨b1,o1,sp1⟩) s.dry.length c1, .slice p2 s.work.length c2, .slice p3 s.coats.length c3, .slice (some ⟨bl,0,some 1⟩) (i+1) (i+1), .slice (some ⟨bg,0,some 1⟩) (i+1) (i+1)] 0 true):=by
   have tS':bg≠h.next+1+1+1+1:=by have:=qg1.tag gS1 (by omega);simpa[ay]using this
   rw[g4 _ (by omega) (by simpa[ay]using tS'),g3 _ (by omega) (by simpa[ay]using tS)]
   exact fa.get' k1 gS1
  simp(maxDischargeDepth:=30)only[AA,↓reduceIte,Q1,Q2,Q3,Q4,reduceCtorEq,Q5,Q6,Q7,dk,sd,e3,k3,k4,rS3,rg3,gb3,x3g,sm,w1,w2,eg,c1',e4,aG,f2,f3,f11,f12,f13,bp hil (show s.dry.length<=1000 by omega),gS4,am,List.set_cons_zero,List.set_cons_succ]
  have gR4:h4.get (h.next+1)=some (.row [.slice none 0 0, .slice none 0 0, .slice none 0 0, .slice none 0 0, .slice none 0 0] 0 true):=by
   have t1:bl≠h.next+1:=by have:=ql1.tag gR1 (by omega);simpa[ay]using this
   have t2:bg≠h.next+1:=by have:=qg1.tag gR1 (by omega);simpa[ay]using this
   rw[g4 _ (by omega) (by simpa[ay]using t2),g3 _ (by omega) (by simpa[ay]using t1)]
   exact fa.get' k1 gR1
  refine ih (s.dry.length -(i+1)) _ _ (by omega) ?_
  refine⟨i+1, .slice (some ⟨h2.next,0,some 1⟩) (i+1+1) (i+1+1), .slice (some ⟨h3.next,0,some 1⟩) (i+1+1) (i+1+1),by omega,rfl,by simp[aa,f2],by simp[aa,f3],by simp[aa,f11],by simp[aa,f12],by simp[aa],by rw[am],?_,?_,?_,by simp[ay];omega,?_,by simp;omega⟩
  ·rw[dD _ (by omega),dD _ (by omega)];exact gR4
  ·rw[Dm _ (by simp;omega),List.flatMap_append]
   refine(show SL h.next h3 _ _ 1 (i+1+(0+1))from q3).keep fun b hb=> ?_
   simp[aG,ay]at hb;subst hb
   rw[Heap.get_set_ne _ _ (by omega),Heap.get_set_ne _ _ (by omega),g4 _ (by omega) (by simp[ay];omega)]
  ·rw[Dm _ (by simp;omega),List.flatMap_append]
   refine(show SL h.next h4 _ _ 1 (i+1+(0+1))from q4).keep fun b hb=> ?_
   simp[aG,ay]at hb;subst hb
   rw[Heap.get_set_ne _ _ (by omega),Heap.get_set_ne _ _ (by omega)]
  ·have f4:Fr h h4:=⟨k4,by omega,fun j hj=>by rw[g4 j (by omega) (by simp[ay];omega)];exact f3'.get j hj⟩
   exact(f4.set (by omega) (by omega) _).set (by omega) (by simp;omega) _
 ·have he:i=s.dry.length:=by omega
  subst he
  obtain⟨bl,rfl,rl,nl,Nl⟩:=ql.at k'
  obtain⟨bg,rfl,rg,ng,Ng⟩:=qg.at k'
  have rS:rowAt h' (h.next+1+1+1+1)=some [.slice p1 s.dry.length c1, .slice p2 s.work.length c2, .slice p3 s.coats.length c3, .slice (some ⟨bl,0,some 1⟩) (s.dry.length+1) (s.dry.length+1), .slice (some ⟨bg,0,some 1⟩) (s.dry.length+1) (s.dry.length+1)]:=by unfold rowAt;rw[gS];rfl
  simp(maxDischargeDepth:=30)only[AA,↓reduceIte,Q1,Q2,Q3,Q4,reduceCtorEq,Q5,Q6,Q7,sd,k',f2,f3,f11,f12,f13,dL,rS,gR,m4]
  refine⟨⟨_,_,_,_,_,rfl,?_,?_,?_⟩,?_⟩
  ·exact hs.fr hk (fr.set (by omega) (by omega) _)
  ·refine SL.ls aP (N:=h.next) ?_
   rw[nG,List.length_map]
   have:=ql.keep (h':=h'.set (h.next+1) (.row [.slice p1 s.dry.length c1, .slice p2 s.work.length c2, .slice p3 s.coats.length c3, .slice (some ⟨bl,0,some 1⟩) (s.dry.length+1) (s.dry.length+1), .slice (some ⟨bg,0,some 1⟩) (s.dry.length+1) (s.dry.length+1)] 0 true)) fun b hb=> ?_
   ·rwa [List.take_of_length_le (by rw[nG,List.length_map];exact Nat.le_refl _)]at this
   ·have t1:=ql.tag gR (by omega)
    rw[hb]at t1
    rw[Heap.get_set_ne _ _ (by simpa using t1)]
  ·refine SL.ls aP (N:=h.next) ?_
   rw[nG,List.length_map]
   have:=qg.keep (h':=h'.set (h.next+1) (.row [.slice p1 s.dry.length c1, .slice p2 s.work.length c2, .slice p3 s.coats.length c3, .slice (some ⟨bl,0,some 1⟩) (s.dry.length+1) (s.dry.length+1), .slice (some ⟨bg,0,some 1⟩) (s.dry.length+1) (s.dry.length+1)] 0 true)) fun b hb=> ?_
   ·rwa [List.take_of_length_le (by rw[nG,List.length_map];exact Nat.le_refl _)]at this
   ·have t1:=qg.tag gR (by omega)
    rw[hb]at t1
    rw[Heap.get_set_ne _ _ (by simpa using t1)]
  ·exact fr.set (by omega) (by omega) _
end Go.Am

namespace Go.Am
open Go Go.Proofs
def wp:=A2 @Zl<|A2 @WC<|A2 @B2<|A2 @B0<|A2 @Ru<|A2 @Rs<|A2 @YF<|A2 @lP<|A2 @tK<|A2 @Qy<|A2 @mY<|A2 @eU<|A2 @PF<|A2 @Vl<|A2 @Vk<|A2 @sE<|A2 @Oj<|A2 @Oi<|A2 @oJ @FB
def CoatS.low (s:CoatS) (i:Nat):Int:=cK ((s.dry.map Sp.lo).take i)
def CoatS.high (s:CoatS) (i:Nat):Int:=cK ((s.dry.map Sp.hi).take i)
set_option maxRecDepth 10000 in
theorem Jt {h:Heap} (hk:HOK h) {v:Value} {s:CoatS} (hv:IsShop h v s) (ho:s.ok=true) {i j:Nat} (hi:i<=s.dry.length) (hj:j<=s.dry.length):
  CW CC 303 [v, .int .i64 i, .int .i64 j] h fun r h'=>r= .int .i64 (s.low j -s.low i)/\ Fr h h':=by
 obtain⟨a,b,c,l,g,rfl,hs,ql,qg⟩:=hv
 obtain⟨p1,c1,rfl,_⟩:=hs.dry.open
 obtain⟨p2,c2,rfl,_⟩:=hs.work.open
 obtain⟨p3,c3,rfl,_⟩:=hs.coats.open
 obtain⟨p4,c4,rfl,x4⟩:=ql.open
 obtain⟨p5,c5,rfl,_⟩:=qg.open
 refine aw Tryz.f303 (by kernel_rfl) (by kernel_rfl) rfl rfl ?_
 simp only[Tryz.f303]
 have hl:(psum (s.dry.map Sp.lo)).length=s.dry.length+1:=by rw[nG,List.length_map]
 have gi:=j5 (s.dry.map Sp.lo) (i:=i) (by simpa using hi)
 have gj:=j5 (s.dry.map Sp.lo) (i:=j) (by simpa using hj)
 rcases x4 with hx|⟨b4,o4,sp4,row4,rfl,rr4,x4⟩
 ·rw[hx]at hl;simp at hl
 have e1:row4[o4+i]? =some (.int .i64 (s.low i)):=by simpa[aQ,CoatS.low]using(x4 _ _ gi).2 0 (by omega)
 have e2:row4[o4+j]? =some (.int .i64 (s.low j)):=by simpa[aQ,CoatS.low]using(x4 _ _ gj).2 0 (by omega)
 have n4:=af hk rr4
 have bi:=CoatS.sums ho hi
 have bj:=CoatS.sums ho hj
 have ll:=CoatS.lens ho
 have w:IntKind.i64.wrap (s.low j -s.low i)=s.low j -s.low i:=by unfold CoatS.low;exact bG (by omega) (by omega)
 have li:i<(psum (s.dry.map Sp.lo)).length:=by omega
 have lj:j<(psum (s.dry.map Sp.lo)).length:=by omega
 simp(maxDischargeDepth:=30)only[AA,↓reduceIte,Q1,Q2,Q3,Q4,reduceCtorEq,Q5,Q6,Q7,BQ,cG,cM,cS,bJ,aV,ba,bm,bh,hk]
 refine bR [(true,0),(true,1),(true,2),(true,3),(true,4),(true,5),(true,6),(true,7),(true,8),(true,9),(true,10),(true,11)] (by kernel_rfl) ?_
 simp(maxDischargeDepth:=30)only[AA,↓reduceIte,Q1,Q2,Q3,Q4,reduceCtorEq,Q5,Q6,Q7,BQ,cG,cM,cS,bJ,aV,ba,bm,bh,hk,rr4,n4,li,lj,Nat.mul_one,e1,e2,w]
 exact⟨trivial,(Fr.refl hk).alloc _⟩
set_option maxRecDepth 10000 in
theorem CM {h:Heap} (hk:HOK h) {v:Value} {s:CoatS} (hv:IsShop h v s) (ho:s.ok=true) {i j:Nat} (hi:i<=s.dry.length) (hj:j<=s.dry.length):
  CW CC 304 [v, .int .i64 i, .int .i64 j] h fun r h'=>r= .int .i64 (s.high j -s.high i)/\ Fr h h':=by
 obtain⟨a,b,c,l,g,rfl,hs,ql,qg⟩:=hv
 obtain⟨p1,c1,rfl,_⟩:=hs.dry.open
 obtain⟨p2,c2,rfl,_⟩:=hs.work.open
 obtain⟨p3,c3,rfl,_⟩:=hs.coats.open
 obtain⟨p4,c4,rfl,_⟩:=ql.open
 obtain⟨p5,c5,rfl,x4⟩:=qg.open
 refine aw Tryz.f304 (by kernel_rfl) (by kernel_rfl) rfl rfl ?_
 simp only[Tryz.f304]
 have hl:(psum (s.dry.map Sp.hi)).length=s.dry.length+1:=by rw[nG,List.length_map]
 have gi:=j5 (s.dry.map Sp.hi) (i:=i) (by simpa using hi)
 have gj:=j5 (s.dry.map Sp.hi) (i:=j) (by simpa using hj)
 rcases x4 with hx|⟨b4,o4,sp4,row4,rfl,rr4,x4⟩
 ·rw[hx]at hl;simp at hl
 have e1:row4[o4+i]? =some (.int .i64 (s.high i)):=by simpa[aQ,CoatS.high]using(x4 _ _ gi).2 0 (by omega)
 have e2:row4[o4+j]? =some (.int .i64 (s.high j)):=by simpa[aQ,CoatS.high]using(x4 _ _ gj).2 0 (by omega)
 have n4:=af hk rr4
 have bi:=CoatS.sums ho hi
 have bj:=CoatS.sums ho hj
 have ll:=CoatS.lens ho
 have w:IntKind.i64.wrap (s.high j -s.high i)=s.high j -s.high i:=by unfold CoatS.high;exact bG (by omega) (by omega)
 have li:i<(psum (s.dry.map Sp.hi)).length:=by omega
 have lj:j<(psum (s.dry.map Sp.hi)).length:=by omega
 simp(maxDischargeDepth:=30)only[AA,↓reduceIte,Q1,Q2,Q3,Q4,reduceCtorEq,Q5,Q6,Q7,BP,cG,cM,cS,bJ,aV,ba,bm,bh,hk]
 refine bR [(true,0),(true,1),(true,2),(true,3),(true,4),(true,5),(true,6),(true,7),(true,8),(true,9),(true,10),(true,11)] (by kernel_rfl) ?_
 simp(maxDischargeDepth:=30)only[AA,↓reduceIte,Q1,Q2,Q3,Q4,reduceCtorEq,Q5,Q6,Q7,BP,cG,cM,cS,bJ,aV,ba,bm,bh,hk,rr4,n4,li,lj,Nat.mul_one,e1,e2,w]
 exact⟨trivial,(Fr.refl hk).alloc _⟩
set_option maxRecDepth 10000 in
theorem J2 {h:Heap} (hk:HOK h) {v:Value} {s:CoatS} (hv:IsShop h v s) (ho:s.ok=true) {i j:Nat} (hi:i<=s.dry.length) (hj:j<=s.dry.length):
  CW CC 269 [v, .int .i64 i, .int .i64 j] h fun r h'=>r= .agg ⟨[.int .i64 (s.low j -s.low i), .int .i64 (s.high j -s.high i)]⟩/\ Fr h h':=by
 have hv':=hv
 obtain⟨a,b,c,l,g,rfl,hs,ql,qg⟩:=hv
 refine aw Tryz.f269 (by kernel_rfl) (by kernel_rfl) rfl rfl ?_
 simp only[Tryz.f269]
 simp(maxDischargeDepth:=30)only[AA,↓reduceIte,Q1,Q2,Q3,Q4,reduceCtorEq,Q5,Q6,Q7,wp,hk]
 refine bR [(true,0),(true,1),(true,2),(true,3),(true,5),(true,6),(true,7),(true,8),(true,4),(false,6),(true,9),(true,10),(true,11)] (by kernel_rfl) ?_
 simp(maxDischargeDepth:=30)only[AA,↓reduceIte,Q1,Q2,Q3,Q4,reduceCtorEq,Q5,Q6,Q7,wp,hk]
 have fH:Fr h ((((h.alloc (.row [a,b,c,l,g] 0 true)).alloc (.row [.int .i64 0, .int .i64 0] 0 true)).alloc (.row [.nilFunc, .nilFunc] 0 true)).set (h.next+1+1) (.row [.func (.func 303) ⟨[.agg ⟨[a,b,c,l,g]⟩]⟩ ⟨[]⟩, .func (.func 304) ⟨[.agg ⟨[a,b,c,l,g]⟩]⟩ ⟨[]⟩] 0 true)):=
  (((((Fr.refl hk).alloc _).alloc _).alloc _).set (by omega) (by simp) _)
 have rH:rowAt ((((h.alloc (.row [a,b,c,l,g] 0 true)).alloc (.row [.int .i64 0, .int .i64 0] 0 true)).alloc (.row [.nilFunc, .nilFunc] 0 true)).set (h.next+1+1) (.row [.func (.func 303) ⟨[.agg ⟨[a,b,c,l,g]⟩]⟩ ⟨[]⟩, .func (.func 304) ⟨[.agg ⟨[a,b,c,l,g]⟩]⟩ ⟨[]⟩] 0 true)) (h.next+1+1)=some [.func (.func 303) ⟨[.agg ⟨[a,b,c,l,g]⟩]⟩ ⟨[]⟩, .func (.func 304) ⟨[.agg ⟨[a,b,c,l,g]⟩]⟩ ⟨[]⟩]:=cT _ _ _ _ _
 have gH:((((h.alloc (.row [a,b,c,l,g] 0 true)).alloc (.row [.int .i64 0, .int .i64 0] 0 true)).alloc (.row [.nilFunc, .nilFunc] 0 true)).set (h.next+1+1) (.row [.func (.func 303) ⟨[.agg ⟨[a,b,c,l,g]⟩]⟩ ⟨[]⟩, .func (.func 304) ⟨[.agg ⟨[a,b,c,l,g]⟩]⟩ ⟨[]⟩] 0 true)).get (h.next+1)=some (.row [.int .i64 0, .int .i64 0] 0 true):=by
  rw[dD _ (by omega),cP _ (by simp)];exact dr _ (by simp)
 have nH:h.next+1+1<((((h.alloc (.row [a,b,c,l,g] 0 true)).alloc (.row [.int .i64 0, .int .i64 0] 0 true)).alloc (.row [.nilFunc, .nilFunc] 0 true)).set (h.next+1+1) (.row [.func (.func 303) ⟨[.agg ⟨[a,b,c,l,g]⟩]⟩ ⟨[]⟩, .func (.func 304) ⟨[.agg ⟨[a,b,c,l,g]⟩]⟩ ⟨[]⟩] 0 true)).next:=by simp
 generalize((((h.alloc (.row [a,b,c,l,g] 0 true)).alloc (.row [.int .i64 0, .int .i64 0] 0 true)).alloc (.row [.nilFunc, .nilFunc] 0 true)).set (h.next+1+1) (.row [.func (.func 303) ⟨[.agg ⟨[a,b,c,l,g]⟩]⟩ ⟨[]⟩, .func (.func 304) ⟨[.agg ⟨[a,b,c,l,g]⟩]⟩ ⟨[]⟩] 0 true))=H at fH rH gH nH⊢
 refine bk (Jt fH.ok (hv'.fr hk fH) ho hi hj) ?_
 rintro _ h2 ⟨rfl,fr2⟩
 have r2:=fr2.row' fH.ok rH
 have g2:=fr2.get' fH.ok gH
 have f2:=fH.trans fr2
 obtain⟨p1,c1,rfl,_⟩:=hs.dry.open
 obtain⟨p2,c2,rfl,_⟩:=hs.work.open
 obtain⟨p3,c3,rfl,_⟩:=hs.coats.open
 obtain⟨p4,c4,rfl,_⟩:=ql.open
 obtain⟨p5,c5,rfl,_⟩:=qg.open
 have sv:=lK (f:=304) (l:=[.agg ⟨[.slice p1 s.dry.length c1, .slice p2 s.work.length c2, .slice p3 s.coats.length c3, .slice p4 (psum (s.dry.map Sp.lo)).length c4, .slice p5 (psum (s.dry.map Sp.hi)).length c5]⟩]) (m:=[]) rfl rfl
 simp(maxDischargeDepth:=30)only[AA,↓reduceIte,Q1,Q2,Q3,Q4,reduceCtorEq,Q5,Q6,Q7,dk,wp,f2.ok,r2,sv]
 refine bk (CM f2.ok (hv'.fr hk f2) ho hi hj) ?_
 rintro _ h3 ⟨rfl,fr3⟩
 have g3:=fr3.get' f2.ok g2
 have f3:=f2.trans fr3
 have r3:rowAt h3 (h.next+1)=some [.int .i64 0, .int .i64 0]:=by unfold rowAt;rw[g3];rfl
 simp(maxDischargeDepth:=30)only[AA,↓reduceIte,Q1,Q2,Q3,Q4,reduceCtorEq,Q5,Q6,Q7,dk,wp,f3.ok,r3,g3,am,cT]
 exact⟨trivial,f3.set (by omega) (by have:=fr2.next;have:=fr3.next;omega) _⟩
end Go.Am

namespace Go.Am
open Go Go.Proofs
def kf:=A2 @LI<|A2 @xu<|A2 @xr<|A2 @BS<|A2 @BR<|A2 @ry<|A2 @iR<|A2 @iQ<|A2 @sV<|A2 @Hp<|A2 @Ra<|A2 @lP<|A2 @cS<|A2 @Dx<|A2 @Yn<|A2 @qU<|A2 @jW<|A2 @eU<|A2 @u6<|A2 @mX<|A2 @Gh<|A2 @Gg<|A2 @oK<|A2 @N8<|A2 @oJ<|A2 @uM @mQ
def CoatS.standsB (s:CoatS) (coat i j:Nat) (peels:Bool):Option Int:=
 if s.low j -s.low i<(s.coats.getD coat ⟨0,0⟩).need then some 1 else if peels&&decide ((s.coats.getD coat ⟨0,0⟩).peel<s.high j -s.high i)then some 2 else none
set_option maxRecDepth 10000 in
theorem qM {h:Heap} (hk:HOK h) {v:Value} {s:CoatS} (hv:IsShop h v s) (ho:s.ok=true) {k i j:Nat} (hc:k<s.coats.length) (hi:i<=s.dry.length) (hj:j<=s.dry.length) (peels:Bool):
  CX CC 225 [v, .int .i64 k, .int .i64 i, .int .i64 j, .bool peels] h (fun _ h'=>s.standsB k i j peels=none/\ Fr h h')
   (fun e h'=>(∃r,s.standsB k i j peels=some r/\ e= .iface 333 (.agg ⟨[.int .i64 k, .int .i64 r]⟩))/\ Fr h h'):=by
 have hv':=hv
 obtain⟨a,b,c,l,g,rfl,hs,ql,qg⟩:=hv
 obtain⟨p1,c1,rfl,_⟩:=hs.dry.open
 obtain⟨p2,c2,rfl,_⟩:=hs.work.open
 obtain⟨p3,c3,rfl,x3⟩:=hs.coats.open
 obtain⟨p4,c4,rfl,_⟩:=ql.open
 obtain⟨p5,c5,rfl,_⟩:=qg.open
 refine CG Tryz.f225 (by kernel_rfl) (by kernel_rfl) rfl rfl ?_
 simp only[Tryz.f225]
 obtain⟨x,gx⟩: ∃x,s.coats[k]? =some x:=⟨_,List.getElem?_eq_getElem hc⟩
 rcases x3 with hx|⟨b3,o3,sp3,row3,rfl,rr3,x3⟩
 ·rw[hx]at hc;simp at hc
 have e1:aA row3 (o3+k*2) 2=some x.cells:=(x3 _ _ gx).1
 have n3:=af hk rr3
 simp(maxDischargeDepth:=30)only[AA,↓reduceIte,Q1,Q2,Q3,Q4,reduceCtorEq,Q5,Q6,Q7,kf,hk]
 refine bR [(true,0),(true,1),(true,2),(true,4),(true,5),(true,6),(true,7),(true,8),(true,9),(true,10),(true,11),(true,3),(false,6),(false,9),(false,10),(false,11),(true,12),(false,6),(false,9),(true,13)] (by kernel_rfl) ?_
 simp(maxDischargeDepth:=30)only[AA,↓reduceIte,Q1,Q2,Q3,Q4,reduceCtorEq,Q5,Q6,Q7,kf,hk,rr3,n3,hc,e1]
 have f0: ∀x y z,Fr h (((h.alloc x).alloc y).alloc z):=fun x y z=>(((Fr.refl hk).alloc x).alloc y).alloc z
 refine bk (J2 (f0 _ _ _).ok (hv'.fr hk (f0 _ _ _)) ho hi hj) ?_
 rintro _ h2 ⟨rfl,fr2⟩
 have r0:rowAt h2 h.next=some [.slice p1 s.dry.length c1, .slice p2 s.work.length c2, .slice (some ⟨b3,o3,sp3⟩) s.coats.length c3, .slice p4 (psum (s.dry.map Sp.lo)).length c4, .slice p5 (psum (s.dry.map Sp.hi)).length c5]:=fr2.row' (f0 _ _ _).ok (by rw[cY _ (by first|(simp;done)|(simp;omega)),cY _ (by first|(simp;done)|(simp;omega))];exact fW _ _ _ _)
 have g1:h2.get (h.next+1)=some (.row [.int .i64 0, .int .i64 0] 0 true):=fr2.get' (f0 _ _ _).ok (by rw[cP _ (by simp)];exact dr _ (by simp))
 have g2:h2.get (h.next+1+1)=some (.row [.int .i64 0, .int .i64 0] 0 true):=fr2.get' (f0 _ _ _).ok (dr _ (by simp))
 have n2:h.next+1+1<h2.next:=by have:=fr2.next;simp at this;omega
 have f2:=(f0 _ _ _).trans fr2
 have rr2:=f2.row' hk rr3
 have n32:b3<h.next:=n3
 have sx:dq (.agg ⟨x.cells⟩) (.agg ⟨x.cells⟩)=true:=Dg rfl
 have sm:sameAt (.row [.int .i64 0, .int .i64 0] 0 true) (some (.row [.int .i64 0, .int .i64 0] 0 true))=true:=kX 0 rfl
 clear f0 fr2
 have lx:x.cells.length=2:=rfl
 have q2:(h2.set (h.next+1) (.row [.int .i64 (s.low j -s.low i), .int .i64 (s.high j -s.high i)] 0 true)).get (h.next+1+1)=some (.row [.int .i64 0, .int .i64 0] 0 true):=by rw[BL _ (by omega)];exact g2
 have q0:rowAt (h2.set (h.next+1) (.row [.int .i64 (s.low j -s.low i), .int .i64 (s.high j -s.high i)] 0 true)) h.next=some [.slice p1 s.dry.length c1, .slice p2 s.work.length c2, .slice (some ⟨b3,o3,sp3⟩) s.coats.length c3, .slice p4 (psum (s.dry.map Sp.lo)).length c4, .slice p5 (psum (s.dry.map Sp.hi)).length c5]:=by rw[cV _ (by omega)];exact r0
 have q3:rowAt (h2.set (h.next+1) (.row [.int .i64 (s.low j -s.low i), .int .i64 (s.high j -s.high i)] 0 true)) b3=some row3:=by rw[cV _ (by omega)];exact rr2
 have q1:rowAt (h2.set (h.next+1) (.row [.int .i64 (s.low j -s.low i), .int .i64 (s.high j -s.high i)] 0 true)) (h.next+1)=some [.int .i64 (s.low j -s.low i), .int .i64 (s.high j -s.high i)]:=cT _ _ _ _ _
 have f3:Fr h (h2.set (h.next+1) (.row [.int .i64 (s.low j -s.low i), .int .i64 (s.high j -s.high i)] 0 true)):=f2.set (by omega) (by omega) _
 have c0:x.cells[0]? =some (.int .i64 x.need):=rfl
 have c1':x.cells[0+1]? =some (.int .i64 x.peel):=rfl
 have c2':x.cells[1]? =some (.int .i64 x.peel):=rfl
 simp(maxDischargeDepth:=30)only[AA,↓reduceIte,Q1,Q2,Q3,Q4,reduceCtorEq,Q5,Q6,Q7,dk,kf,f2.ok,r0,rr2,hc,e1,sx,sm,g1,g2,lx]
 have n3':(h2.set (h.next+1) (.row [.int .i64 (s.low j -s.low i), .int .i64 (s.high j -s.high i)] 0 true)).next=h2.next:=Heap.next_set _ _ _
 generalize(h2.set (h.next+1) (.row [.int .i64 (s.low j -s.low i), .int .i64 (s.high j -s.high i)] 0 true))=h3 at q0 q1 q2 q3 f3 n3'⊢
 have ax:bF x.cells=true:=rfl
 simp(maxDischargeDepth:=30)only[AA,↓reduceIte,Q1,Q2,Q3,Q4,reduceCtorEq,Q5,Q6,Q7,dk,kf,f3.ok,q0,q1,q2,q3,hc,e1,sx,sm,lx,ax]
 have f4:Fr h (h3.set (h.next+1+1) (.row x.cells 0 true)):=f3.set (by omega) (by omega) _
 have t1:rowAt (h3.set (h.next+1+1) (.row x.cells 0 true)) (h.next+1)=some [.int .i64 (s.low j -s.low i), .int .i64 (s.high j -s.high i)]:=by rw[cV _ (by omega)];exact q1
 have t2:rowAt (h3.set (h.next+1+1) (.row x.cells 0 true)) (h.next+1+1)=some x.cells:=cT _ _ _ _ _
 generalize(h3.set (h.next+1+1) (.row x.cells 0 true))=h4 at f4 t1 t2⊢
 have gd:s.coats.getD k ⟨0,0⟩=x:=by simp[List.getD_eq_getElem?_getD,gx]
 by_cases d1:s.low j -s.low i<x.need
 ·have d1':decide (s.low j -s.low i<x.need)=true:=by simpa using d1
  simp(maxDischargeDepth:=30)only[AA,↓reduceIte,Q1,Q2,Q3,Q4,reduceCtorEq,Q5,Q6,Q7,kf,f4.ok,t1,t2,c0,d1',tv,la,eJ,jg]
  exact⟨⟨1,by simp[CoatS.standsB,gx,d1],rfl⟩,f4⟩
 ·have d1':decide (s.low j -s.low i<x.need)=false:=by simpa using d1
  cases peels with
  |false=>
   simp(maxDischargeDepth:=30)only[AA,↓reduceIte,Q1,Q2,Q3,Q4,reduceCtorEq,Q5,Q6,Q7,kf,f4.ok,t1,t2,c0,d1',tv,la,eJ,jg]
   exact⟨by simp[CoatS.standsB,gx,d1],f4⟩
  |true=>
  by_cases d2:x.peel<s.high j -s.high i
  ·have d2':decide (s.high j -s.high i>x.peel)=true:=by simpa using d2
   simp(maxDischargeDepth:=30)only[AA,↓reduceIte,Q1,Q2,Q3,Q4,reduceCtorEq,Q5,Q6,Q7,kf,f4.ok,t1,t2,c0,c1',c2',d1',d2',tv,la,eJ,jg]
   exact⟨⟨2,by simp[CoatS.standsB,gx,d1,d2],rfl⟩,f4⟩
  ·have d2':decide (s.high j -s.high i>x.peel)=false:=by simpa using d2
   simp(maxDischargeDepth:=30)only[AA,↓reduceIte,Q1,Q2,Q3,Q4,reduceCtorEq,Q5,Q6,Q7,kf,f4.ok,t1,t2,c0,c1',c2',d1',d2',tv,la,eJ,jg]
   exact⟨by simp[CoatS.standsB,gx,d1,d2],f4⟩
end Go.Am

namespace Go.Am
open Go Go.Proofs
def wy:=A2 @LI<|A2 @xu<|A2 @xr<|A2 @Q8<|A2 @QY<|A2 @mX<|A2 @sJ<|A2 @Gh<|A2 @Gg<|A2 @wO<|A2 @mQ @sr
def wq:=A2 @Q8<|A2 @mX<|A2 @PG<|A2 @sJ<|A2 @wO<|A2 @mQ<|A2 @N4 @sr
theorem TO (v:Value):gW CC (.iface 333 v) 333 true=some (.tuple ⟨[v, .bool true]⟩):=by kernel_rfl
theorem JV (c:Bool) (t:TypeId) (v:Value):eI CC .eql 20 c (.iface t v) .nilIface=some (.bool false):=by cases c<;>kernel_rfl
theorem EQ (t:Tmp):eI CC .eql 20 (dF (.tmp t)||dF (.const .nilIface)) .nilIface .nilIface=some (.bool true):=by kernel_rfl
set_option maxRecDepth 10000 in
theorem zg (p q:Nat) (h:Heap) (hk:HOK h): ∃v h',eo CC (bH CC) 268 [.pointer (some ⟨p,0,none⟩), .pointer (some ⟨q,0,none⟩)] h none=some (.ret v h' none)/\ h'=h:=by
 refine nI Tryz.f268 (Q:=fun _ h'=>h'=h) (by kernel_rfl) rfl rfl ?_
 simp only[Tryz.f268]
 simp(maxDischargeDepth:=30)only[AA,↓reduceIte,Q1,Q2,Q3,Q4,reduceCtorEq,Q5,Q6,Q7,wq,hk,uJ,EQ,kc]
set_option maxRecDepth 10000 in
theorem vR (p q:Nat) (i r:Int) (x x' y:Value) (h:Heap) (hk:HOK h) (hp:h.get p=some (.row [x,x'] 0 true)) (hq:h.get q=some (.row [y] 0 true)) (hpq:p<q):
  ∃v h',eo CC (bH CC) 268 [.pointer (some ⟨p,0,none⟩), .pointer (some ⟨q,0,none⟩)] h (some (.iface 333 (.agg ⟨[.int .i64 i, .int .i64 r]⟩)))=some (.ret v h' none)/\
   rowAt h' p=some [.int .i64 i, .int .i64 r]/\ rowAt h' q=some [.int .i64 7]/\ HOK h'/\ h.next<=h'.next/\ ∀j,j<h.next ->j≠p ->j≠q ->h'.get j=h.get j:=by
 have ml:=aF hk hp
 have mq:=aF hk hq
 refine nI Tryz.f268 (Q:=fun _ h'=>rowAt h' p=some [.int .i64 i, .int .i64 r]/\ rowAt h' q=some [.int .i64 7]/\ HOK h'/\ h.next<=h'.next/\ ∀j,j<h.next ->j≠p ->j≠q ->h'.get j=h.get j) (by kernel_rfl) rfl rfl ?_
 simp only[Tryz.f268]
 simp(maxDischargeDepth:=30)only[AA,↓reduceIte,Q1,Q2,Q3,Q4,reduceCtorEq,Q5,Q6,Q7,wq,hk,yu,JV,TO,List.set_cons_zero]
 have f1:Fr h ((h.alloc (.row [.int .i64 0, .int .i64 0] 0 true)).set h.next (.row [.int .i64 i, .int .i64 r] 0 true)):=((Fr.refl hk).alloc _).set (Nat.le_refl _) (by simp) _
 generalize((h.alloc (.row [.int .i64 0, .int .i64 0] 0 true)).set h.next (.row [.int .i64 i, .int .i64 r] 0 true))=h1 at f1⊢
 have p1:=f1.get' hk hp
 have q1:=f1.get' hk hq
 have n1:=f1.next
 simp(maxDischargeDepth:=30)only[AA,↓reduceIte,Q1,Q2,Q3,Q4,reduceCtorEq,Q5,Q6,Q7,wq,f1.ok,p1,List.set_cons_zero]
 have q2:(h1.set p (.row [.int .i64 i, .int .i64 r] 0 true)).get q=some (.row [y] 0 true):=by rw[Heap.get_set_ne _ _ (by omega)];exact q1
 simp(maxDischargeDepth:=30)only[AA,↓reduceIte,Q1,Q2,Q3,Q4,reduceCtorEq,Q5,Q6,Q7,wq,q2,List.set_cons_zero,kc]
 refine⟨?_,trivial,(f1.ok.set (by omega) _).set (by rw[Heap.next_set];omega) _,by omega,fun j hj a b=> ?_⟩
 ·rw[cV _ hpq];exact cT _ _ _ _ _
 ·rw[Heap.get_set_ne _ _ b,Heap.get_set_ne _ _ a];exact f1.get j hj
set_option maxRecDepth 10000 in
theorem pP {g:FuncId} {caps:List Value} {P0:Prop} {P1:Int ->Int ->Prop} {h:Heap} (hk:HOK h)
  (hg: ∀h1,Fr h h1 ->CX CC g caps h1 (fun _ h'=>P0/\ Fr h1 h') (fun v h'=>(∃i r,v= .iface 333 (.agg ⟨[.int .i64 i, .int .i64 r]⟩)/\ P1 i r)/\ Fr h1 h')):
  CW CC 223 [.func (.func g) ⟨[]⟩ ⟨caps⟩] h fun r h'=>((P0/\ r= .tuple ⟨[.agg ⟨[.int .i64 0, .int .i64 0]⟩, .int .i64 0]⟩) \/ ∃i k,P1 i k/\ r= .tuple ⟨[.agg ⟨[.int .i64 i, .int .i64 k]⟩, .int .i64 7]⟩)/\ Fr h h':=by
 have key:W (bH CC none [.code Tryz.f223.body.get!] ⟨T 8 (jt [.func (.func g) ⟨[]⟩ ⟨caps⟩]),[],none⟩ h) fun r s h'=>
   s.defers=[{target:= .fn (.func 268) ⟨[.pointer (some ⟨h.next,0,none⟩), .pointer (some ⟨h.next+1,0,none⟩)]⟩,args:=⟨[]⟩}]/\ s.pan=none/\ (∃f,s.tmps=T 8 f/\ f 2= .pointer (some ⟨h.next,0,none⟩)/\ f 3= .pointer (some ⟨h.next+1,0,none⟩))/\
   h'.get h.next=some (.row [.int .i64 0, .int .i64 0] 0 true)/\ h'.get (h.next+1)=some (.row [.int .i64 0] 0 true)/\ Fr h h'/\
   ((r= .ended (some .ret)/\ P0) \/ ∃i k,r= .panic (.iface 333 (.agg ⟨[.int .i64 i, .int .i64 k]⟩))/\ P1 i k):=by
  simp only[Tryz.f223,Option.get!]
  have f0:Fr h ((h.alloc (.row [.int .i64 0, .int .i64 0] 0 true)).alloc (.row [.int .i64 0] 0 true)):=((Fr.refl hk).alloc _).alloc _
  have z1:((h.alloc (.row [.int .i64 0, .int .i64 0] 0 true)).alloc (.row [.int .i64 0] 0 true)).get h.next=some (.row [.int .i64 0, .int .i64 0] 0 true):=by rw[cP _ (by simp)];exact dr _ rfl
  have z2:((h.alloc (.row [.int .i64 0, .int .i64 0] 0 true)).alloc (.row [.int .i64 0] 0 true)).get (h.next+1)=some (.row [.int .i64 0] 0 true):=dr _ (by simp)
  have n0:((h.alloc (.row [.int .i64 0, .int .i64 0] 0 true)).alloc (.row [.int .i64 0] 0 true)).next=h.next+2:=by simp
  simp(maxDischargeDepth:=30)only[AA,↓reduceIte,Q1,Q2,Q3,Q4,reduceCtorEq,Q5,Q6,Q7,wy,hk,Fu,yq,ff]
  generalize((h.alloc (.row [.int .i64 0, .int .i64 0] 0 true)).alloc (.row [.int .i64 0] 0 true))=h1 at f0 z1 z2 n0⊢
  refine tu (hg h1 f0) ?_ ?_
  ·rintro v h2 ⟨p0,fr2⟩
   have f2:=f0.trans fr2
   have y1:=fr2.get' f0.ok z1
   have y2:=fr2.get' f0.ok z2
   have n2:=fr2.next
   have y3:(h2.set h.next (.row [.int .i64 0, .int .i64 0] 0 true)).get (h.next+1)=some (.row [.int .i64 0] 0 true):=by rw[Heap.get_set_ne _ _ (by omega)];exact y2
   simp(maxDischargeDepth:=30)only[AA,↓reduceIte,Q1,Q2,Q3,Q4,reduceCtorEq,Q5,Q6,Q7,wy,f2.ok,y1,y3,List.set_cons_zero]
   exact⟨trivial,trivial,⟨_,rfl,by simp[aa],by simp[aa]⟩,trivial,trivial,(f2.set (by omega) (by omega) _).set (by omega) (by rw[Heap.next_set];omega) _, .inl ⟨trivial,p0⟩⟩
  ·rintro v h2 ⟨⟨i,k,rfl,p1⟩,fr2⟩
   exact⟨rfl,rfl,⟨_,rfl,by simp[aa],by simp[aa]⟩,fr2.get' f0.ok z1,fr2.get' f0.ok z2,f0.trans fr2, .inr ⟨i,k,rfl,p1⟩⟩
 obtain⟨r,s,h1,e,hd,hp,⟨f,ht,f2,f3⟩,z1,z2,fr,hc⟩:=key
 have l1:=aF fr.ok z1
 have l2:=aF fr.ok z2
 rcases hc with⟨rfl,p0⟩|⟨i,k,rfl,p1⟩
 ·obtain⟨v,h2,e2,rfl⟩:=zg h.next (h.next+1) h1 fr.ok
  have w1:rowAt h2 h.next=some [.int .i64 0, .int .i64 0]:=by unfold rowAt;rw[z1];rfl
  have w2:rowAt h2 (h.next+1)=some [.int .i64 0]:=by unfold rowAt;rw[z2];rfl
  have hr:aR CC s.tmps h2 Tryz.f223.results.toList=some [.agg ⟨[.int .i64 0, .int .i64 0]⟩, .int .i64 0]:=by
   rw[ht];simp only[Tryz.f223];simp(maxDischargeDepth:=30)only[AA,↓reduceIte,Q1,Q2,Q3,Q4,reduceCtorEq,Q5,Q6,Q7,wy,f2,f3,w1,w2]
  exact⟨_,h2,jf (fn:=Tryz.f223) (c:=Tryz.f223.body.get!) (by kernel_rfl) (by kernel_rfl) rfl rfl e rfl hd hp (by kernel_rfl) e2 hr, .inl ⟨p0,rfl⟩,fr⟩
 ·obtain⟨v,h2,e2,w1,w2,k2,n2,g2⟩:=vR h.next (h.next+1) i k (.int .i64 0) (.int .i64 0) (.int .i64 0) h1 fr.ok z1 z2 (by omega)
  have hr:aR CC s.tmps h2 Tryz.f223.results.toList=some [.agg ⟨[.int .i64 i, .int .i64 k]⟩, .int .i64 7]:=by
   rw[ht];simp only[Tryz.f223];simp(maxDischargeDepth:=30)only[AA,↓reduceIte,Q1,Q2,Q3,Q4,reduceCtorEq,Q5,Q6,Q7,wy,f2,f3,w1,w2]
  refine⟨_,h2,jf (fn:=Tryz.f223) (c:=Tryz.f223.body.get!) (by kernel_rfl) (by kernel_rfl) rfl rfl e rfl hd hp (by kernel_rfl) e2 hr, .inr ⟨i,k,p1,rfl⟩,k2,by have:=fr.next;omega,fun j hj=> ?_⟩
  rw[g2 j (by have:=fr.next;omega) (by omega) (by omega)]
  exact fr.get j hj
end Go.Am

namespace Go.Am
open Go Go.Proofs
section
variable {α:Type} (K V:α ->Value)
def MemoK (es:List MapEntry):Prop:= ∀e∈es,∃x,e.key=K x/\ e.val=V x
def Fx:Prop:= ∀x y,∃b,nW (K x) (K y)=some b/\ (b=true ->V x=V y)
def HasK (h:Heap) (m:Nat):Prop:= ∃es c,h.get m=some (.map es c)/\ MemoK K V es
structure FrK (m:Nat) (h h':Heap):Prop where
 ok:HOK h'
 next:h.next<=h'.next
 get: ∀i,i<h.next ->i≠m ->h'.get i=h.get i
 map:HasK K V h' m
end
section
variable {α:Type} {K V:α ->Value}
theorem B4 (hq:Fx K V) (x:α): ∀(es:List MapEntry) (i:Nat),MemoK K V es ->jA (K x) es i=some none \/ ∃j,jA (K x) es i=some (some (j,V x))
 |[],i,_=> .inl rfl
 |e::es,i,hm=>by
  obtain⟨y,h1,h2⟩:=hm e List.mem_cons_self
  have ih:=B4 hq x es (i+1) fun z hz=>hm z (List.mem_cons_of_mem _ hz)
  obtain⟨b,hb,hv⟩:=hq x y
  rw[pU,h1,hb]
  cases b with
  |true=>right;exact⟨i,by rw[h2,hv rfl]⟩
  |false=>exact ih
theorem MemoK.nil:MemoK K V []:=fun e he=>by simp at he
theorem MemoK.snoc {es:List MapEntry} (hm:MemoK K V es) (x:α) (c:Nat):MemoK K V (es++[{key:=K x,val:=V x,born:=c}]):=by
 intro e he
 rcases List.mem_append.1 he with h|h
 ·exact hm e h
 ·simp at h;subst h;exact⟨x,rfl,rfl⟩
theorem MemoK.put {es:List MapEntry} (hm:MemoK K V es) (x:α): ∀j,MemoK K V (jk es (K x) (V x) j):=by
 induction es with
 |nil=>intro j;exact MemoK.nil
 |cons e es ih=>
  intro j
  have ht:MemoK K V es:=fun y hy=>hm y (List.mem_cons_of_mem _ hy)
  cases j with
  |zero=>
   intro y hy
   rcases List.mem_cons.1 hy with rfl|hy
   ·exact⟨x,rfl,rfl⟩
   ·exact ht y hy
  |succ j=>
   intro y hy
   rcases List.mem_cons.1 hy with rfl|hy
   ·exact hm _ List.mem_cons_self
   ·exact ih ht j y hy
theorem HasK.lt {h:Heap} {m:Nat} (hk:HOK h) (q:HasK K V h m):m<h.next:=by
 obtain⟨es,c,e,_⟩:=q;exact aF hk e
theorem HasK.fr {h h':Heap} {m:Nat} (q:HasK K V h m) (hk:HOK h) (f:Fr h h'):HasK K V h' m:=by
 obtain⟨es,c,e,q⟩:=q;exact⟨es,c,f.get' hk e,q⟩
theorem Fr.frK {h h':Heap} {m:Nat} (f:Fr h h') (hk:HOK h) (q:HasK K V h m):FrK K V m h h':=⟨f.ok,f.next,fun i hi _=>f.get i hi,q.fr hk f⟩
theorem FrK.trans {m:Nat} {a b c:Heap} (h:FrK K V m a b) (h':FrK K V m b c):FrK K V m a c:=⟨h'.ok,Nat.le_trans h.next h'.next,fun i hi hm=>(h'.get i (Nat.lt_of_lt_of_le hi h.next) hm).trans (h.get i hi hm),h'.map⟩
theorem FrK.fr {m:Nat} {a b c:Heap} (h:Fr a b) (hm:a.next<=m) (h':FrK K V m b c):Fr a c:=⟨h'.ok,Nat.le_trans h.next h'.next,fun i hi=>(h'.get i (Nat.lt_of_lt_of_le hi h.next) (by omega)).trans (h.get i hi)⟩
theorem FrK.rk {m:Nat} {h h':Heap} (f:FrK K V m h h') (hk:HOK h) (q:HasK K V h m):RK h h':=by
 refine⟨f.ok,f.next,fun i l s o hr=> ?_⟩
 obtain⟨es,c,e,_⟩:=q
 rw[f.get i (aF hk hr) (by rintro rfl;rw[e]at hr;simp at hr)]
 exact hr
theorem mU {C:Ctx} {t k e:TypeId} {h:Heap} {m:Nat} (hq:Fx K V) (hu:C.und t=some (.map k e)) (x:α) (hf:iP C k (K x)=true) (hm:HasK K V h m):
  ∃es c,dK C t (.map (some m)) (K x) (V x) h=some (h.set m (.map es c))/\ MemoK K V es:=by
 obtain⟨es,c,hg,hm⟩:=hm
 rcases B4 hq x es 0 hm with hn|⟨j,hn⟩
 ·exact⟨es++[{key:=K x,val:=V x,born:=c}],c+1,C3 hu hf hg hn,hm.snoc x c⟩
 ·refine⟨jk es (K x) (V x) j,c,?_,hm.put x j⟩
  unfold dK;rw[hu];simp only[au,jo,hf,aK,Dt,hg,Bm,hn,qT]
end
def CoatS.goesK (s:CoatS):Nat ->Nat ->Bool
 |0,day=>(s.standsB (s.coats.length -1) day s.dry.length false).isNone
 |k+1,day=>s.work.any fun n=>decide ((day:Int)<n)&&((s.standsB (s.coats.length -1 -(k+1)) day n.toNat true).isNone&&s.goesK k n.toNat)
def CoatS.goesP (s:CoatS) (coat day:Nat):Bool:=s.goesK (s.coats.length -1 -coat) day
def eh (p:Nat×Nat):Value:= .agg ⟨[.int .i64 p.1, .int .i64 p.2]⟩
def CoatS.goesV (s:CoatS) (p:Nat×Nat):Value:= .bool (s.goesP p.1 p.2)
theorem jV (V:Nat×Nat ->Value):Fx eh V:=by
 rintro⟨a,b⟩ ⟨c,d⟩
 refine⟨decide (a=c/\ b=d),?_,fun h=>by
  have:=of_decide_eq_true h
  rw[this.1,this.2]⟩
 show aX (cW [.int .i64 (a:Int), .int .i64 (b:Int)] [.int .i64 (c:Int), .int .i64 (d:Int)]) (bP _ _)=_
 rw[show cW [.int .i64 (a:Int), .int .i64 (b:Int)] [.int .i64 (c:Int), .int .i64 (d:Int)]=true from rfl,aK]
 simp only[eh,yW,yV]
 by_cases h1:a=c
 ·by_cases h2:b=d
  ·simp[h1,h2]
  ·have: ¬(b:Int)=d:=by omega
   simp[h1,h2,this]
 ·have: ¬(a:Int)=c:=by omega
  simp[h1,this]
theorem kW (p:Nat×Nat):iP CC 387 (eh p)=true:=by kernel_rfl
set_option maxRecDepth 10000 in
theorem JR {h:Heap} (hk:HOK h) {cs:List Value} {s:CoatS} (hv:IsShop h (.agg ⟨cs⟩) s) (ho:s.ok=true) {k i b0 b1 b2:Nat} (hc:k<s.coats.length) (hi:i<=s.dry.length)
  (r0:rowAt h b0=some cs) (r1:rowAt h b1=some [.int .i64 k]) (r2:rowAt h b2=some [.int .i64 i]):
  CX CC 266 [.pointer (some ⟨b0,0,none⟩), .pointer (some ⟨b1,0,none⟩), .pointer (some ⟨b2,0,none⟩)] h (fun _ h'=>s.standsB k i s.dry.length false=none/\ Fr h h')
   (fun e h'=>(∃a r,e= .iface 333 (.agg ⟨[.int .i64 a, .int .i64 r]⟩)/\ s.standsB k i s.dry.length false=some r)/\ Fr h h'):=by
 have hv':=hv
 obtain⟨a,b,c,l,g,e,hs,ql,qg⟩:=hv
 obtain rfl:cs=[a,b,c,l,g]:=by simpa using e
 obtain⟨p1,c1,rfl,_⟩:=hs.dry.open
 have n0:=af hk r0
 have n1:=af hk r1
 have n2:=af hk r2
 refine CG Tryz.f266 (by kernel_rfl) (by kernel_rfl) rfl rfl ?_
 simp only[Tryz.f266]
 simp(maxDischargeDepth:=30)only[AA,↓reduceIte,Q1,Q2,Q3,Q4,reduceCtorEq,Q5,Q6,Q7,ry,pH,lP,Bw,cS,uj,hk,r0,r1,r2,n0,n1,n2]
 refine tu (qM hk hv' ho hc hi (Nat.le_refl _) false) ?_ ?_
 ·rintro v h2 ⟨p0,fr2⟩
  simp(maxDischargeDepth:=30)only[AA,↓reduceIte,Q1,Q2,Q3,Q4,reduceCtorEq,Q5,Q6,Q7,ry,pH,lP,Bw,cS,uj,jg]
  exact⟨p0,fr2⟩
 ·rintro e h2 ⟨⟨r,p1,rfl⟩,fr2⟩
  simp only[eJ]
  exact⟨⟨_,r,rfl,p1⟩,fr2⟩
set_option maxRecDepth 10000 in
theorem JQ {h:Heap} (hk:HOK h) {cs:List Value} {s:CoatS} (hv:IsShop h (.agg ⟨cs⟩) s) (ho:s.ok=true) {k i j b0 b1 b2 b3:Nat} (hc:k<s.coats.length) (hi:i<=s.dry.length) (hj:j<=s.dry.length)
  (r0:rowAt h b0=some cs) (r1:rowAt h b1=some [.int .i64 k]) (r2:rowAt h b2=some [.int .i64 i]) (r3:rowAt h b3=some [.int .i64 j]):
  CX CC 267 [.pointer (some ⟨b0,0,none⟩), .pointer (some ⟨b1,0,none⟩), .pointer (some ⟨b2,0,none⟩), .pointer (some ⟨b3,0,none⟩)] h (fun _ h'=>s.standsB k i j true=none/\ Fr h h')
   (fun e h'=>(∃a r,e= .iface 333 (.agg ⟨[.int .i64 a, .int .i64 r]⟩)/\ s.standsB k i j true=some r)/\ Fr h h'):=by
 have hv':=hv
 obtain⟨a,b,c,l,g,e,hs,ql,qg⟩:=hv
 obtain rfl:cs=[a,b,c,l,g]:=by simpa using e
 have n0:=af hk r0
 have n1:=af hk r1
 have n2:=af hk r2
 have n3:=af hk r3
 refine CG Tryz.f267 (by kernel_rfl) (by kernel_rfl) rfl rfl ?_
 simp only[Tryz.f267]
 simp(maxDischargeDepth:=30)only[AA,↓reduceIte,Q1,Q2,Q3,Q4,reduceCtorEq,Q5,Q6,Q7,lP,cS,hk,r0,r1,r2,r3,n0,n1,n2,n3]
 refine tu (qM hk hv' ho hc hi hj true) ?_ ?_
 ·rintro v h2 ⟨p0,fr2⟩
  simp(maxDischargeDepth:=30)only[AA,↓reduceIte,Q1,Q2,Q3,Q4,reduceCtorEq,Q5,Q6,Q7,lP,cS,jg]
  exact⟨p0,fr2⟩
 ·rintro e h2 ⟨⟨r,p1,rfl⟩,fr2⟩
  simp only[eJ]
  exact⟨⟨_,r,rfl,p1⟩,fr2⟩
end Go.Am
