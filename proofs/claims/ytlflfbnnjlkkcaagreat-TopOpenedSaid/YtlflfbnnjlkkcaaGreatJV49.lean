/- Parts V49, V50, V52 of the abstract machine over this program, joined: what each part says stands at its head. -/
import Derived.Test.YtlflfbnnjlkkcaaGreatJV44
set_option linter.unusedSimpArgs false
set_option linter.unusedVariables false
set_option linter.defProp false
open Nat renaming reduceLT→Q1,reduceEqDiff→Q2,reduceAdd→Q3,reduceMul→Q4,reduceLeDiff→Q5
open Int renaming reduceNe→Q6,reduceEq→Q7
namespace Go.Am
open Go Go.Proofs
def dx:=A2 @WD<|A2 @DH<|A2 @DG<|A2 @ry<|A2 @vM<|A2 @sV<|A2 @cG<|A2 @cM<|A2 @lP<|A2 @cS<|A2 @Dx<|A2 @Yy<|A2 @cA<|A2 @Bt<|A2 @bJ<|A2 @aV<|A2 @ba<|A2 @AI<|A2 @mX<|A2 @Gn<|A2 @OZ<|A2 @OY<|A2 @bm<|A2 @KG<|A2 @kE<|A2 @bh<|A2 @Ae<|A2 @zZ<|A2 @mQ @FC
theorem IsShop.rk {h h':Heap} {v:Value} {s:CoatS} (q:IsShop h v s) (f:RK h h'):IsShop h' v s:=by
 obtain⟨a,b,c,l,g,e,q1,q2,q3⟩:=q
 exact⟨a,b,c,l,g,e,⟨q1.dry.rk f,q1.work.rk f,q1.coats.rk f⟩,q2.rk f,q3.rk f⟩
theorem CoatS.work_at {s:CoatS} (h:s.ok=true) {i:Nat} {x:Int} (hx:s.work[i]? =some x):0<=x/\ x<s.dry.length:=by
 simp only[CoatS.ok,Bool.and_eq_true,Bool.not_eq_true']at h
 have:=(List.any_eq_false.1 h.2.2.2.2.2) x (List.mem_of_getElem? hx)
 simp[cL]at this
 omega
theorem CoatS.goesP_last (s:CoatS) {k:Nat} (i:Nat) (h:k+0+1=s.coats.length):s.goesP k i=(s.standsB k i s.dry.length false).isNone:=by
 unfold CoatS.goesP
 rw[show s.coats.length -1 -k=0 by omega]
 simp only[CoatS.goesK]
 rw[show s.coats.length -1=k by omega]
theorem CoatS.goesP_more (s:CoatS) {k r:Nat} (i:Nat) (h:k+(r+1)+1=s.coats.length):s.goesP k i=s.work.any fun n=>decide ((i:Int)<n)&&((s.standsB k i n.toNat true).isNone&&s.goesP (k+1) n.toNat):=by
 unfold CoatS.goesP
 rw[show s.coats.length -1 -k=r+1 by omega,show s.coats.length -1 -(k+1)=r by omega]
 simp only[CoatS.goesK]
 rw[show s.coats.length -1 -(r+1)=k by omega]
set_option maxRecDepth 10000 in
set_option maxHeartbeats 2000000 in
theorem DD {s:CoatS} (ho:s.ok=true) (hw:s.work.length<=1000): ∀(r:Nat) {h:Heap} (hk:HOK h) {v:Value} (hv:IsShop h v s) {m:Nat} (hm:HasK eh s.goesV h m) {k i:Nat} (hc:k+r+1=s.coats.length) (hi:i<s.dry.length),
  CW CC 222 [v, .int .i64 k, .int .i64 i, .map (some m)] h fun x h'=>x= .bool (s.goesP k i)/\ FrK eh s.goesV m h h':=by
 intro r
 induction r with
 |zero=>
  intro h hk v hv m hm k i hc hi
  have hv':=hv
  obtain⟨a,b,c,l,g,rfl,hs,ql,qg⟩:=hv
  obtain⟨p1,c1,rfl,_⟩:=hs.dry.open
  obtain⟨p2,c2,rfl,x2⟩:=hs.work.open
  obtain⟨p3,c3,rfl,_⟩:=hs.coats.open
  obtain⟨p4,c4,rfl,_⟩:=ql.open
  obtain⟨p5,c5,rfl,_⟩:=qg.open
  have ll:=CoatS.lens ho
  have ml:=hm.lt hk
  have hm0:=hm
  obtain⟨es,cl,em,hmem⟩:=hm
  have hf:=B4 (jV _) (k,i) es 0 hmem
  have hl:=fun (h':Heap) (e:h'.get m=some (.map es cl))=>nV (ok:=true) kE (kW (k,i)) D6 e
  simp only[eh,CoatS.goesV]at hf hl
  refine aw Tryz.f222 (by kernel_rfl) (by kernel_rfl) rfl rfl ?_
  simp only[Tryz.f222]
  have fa: ∀x y z w u,Fr h (((((h.alloc x).alloc y).alloc z).alloc w).set (h.next+1+1+1) u):=fun x y z w u=>(((((Fr.refl hk).alloc x).alloc y).alloc z).alloc w).set (by omega) (by simp) u
  have wl:IntKind.i64.wrap ((s.coats.length:Int) -1)=(s.coats.length:Int) -1:=bG (by omega) (by omega)
  have ce:((k:Int)==(s.coats.length:Int) -1)=true:=by simp;omega
  rcases hf with hf|⟨j,hf⟩
  ·simp(maxDischargeDepth:=30)only[AA,↓reduceIte,Q1,Q2,Q3,Q4,reduceCtorEq,Q5,Q6,Q7,dx,hk,ml,em,hl,hf,uB,wl,ce]
   have fH:=fa (.row [.slice p1 s.dry.length c1, .slice p2 s.work.length c2, .slice p3 s.coats.length c3, .slice p4 (psum (s.dry.map Sp.lo)).length c4, .slice p5 (psum (s.dry.map Sp.hi)).length c5] 0 true) (.row [.int .i64 k] 0 true) (.row [.int .i64 i] 0 true) (.row [.int .i64 0, .int .i64 0] 0 true) (.row [.int .i64 k, .int .i64 i] 0 true)
   have r0:rowAt (((((h.alloc (.row [.slice p1 s.dry.length c1, .slice p2 s.work.length c2, .slice p3 s.coats.length c3, .slice p4 (psum (s.dry.map Sp.lo)).length c4, .slice p5 (psum (s.dry.map Sp.hi)).length c5] 0 true)).alloc (.row [.int .i64 k] 0 true)).alloc (.row [.int .i64 i] 0 true)).alloc (.row [.int .i64 0, .int .i64 0] 0 true)).set (h.next+1+1+1) (.row [.int .i64 k, .int .i64 i] 0 true)) h.next=some [.slice p1 s.dry.length c1, .slice p2 s.work.length c2, .slice p3 s.coats.length c3, .slice p4 (psum (s.dry.map Sp.lo)).length c4, .slice p5 (psum (s.dry.map Sp.hi)).length c5]:=by
    rw[cV _ (by omega),cY _ (by first|(simp;done)|(simp;omega)),cY _ (by first|(simp;done)|(simp;omega)),cY _ (by first|(simp;done)|(simp;omega))];exact fW _ _ _ _
   have r1:rowAt (((((h.alloc (.row [.slice p1 s.dry.length c1, .slice p2 s.work.length c2, .slice p3 s.coats.length c3, .slice p4 (psum (s.dry.map Sp.lo)).length c4, .slice p5 (psum (s.dry.map Sp.hi)).length c5] 0 true)).alloc (.row [.int .i64 k] 0 true)).alloc (.row [.int .i64 i] 0 true)).alloc (.row [.int .i64 0, .int .i64 0] 0 true)).set (h.next+1+1+1) (.row [.int .i64 k, .int .i64 i] 0 true)) (h.next+1)=some [.int .i64 k]:=by
    rw[cV _ (by omega),cY _ (by first|(simp;done)|(simp;omega)),cY _ (by first|(simp;done)|(simp;omega))];exact nt _ _ _ (by simp)
   have r2:rowAt (((((h.alloc (.row [.slice p1 s.dry.length c1, .slice p2 s.work.length c2, .slice p3 s.coats.length c3, .slice p4 (psum (s.dry.map Sp.lo)).length c4, .slice p5 (psum (s.dry.map Sp.hi)).length c5] 0 true)).alloc (.row [.int .i64 k] 0 true)).alloc (.row [.int .i64 i] 0 true)).alloc (.row [.int .i64 0, .int .i64 0] 0 true)).set (h.next+1+1+1) (.row [.int .i64 k, .int .i64 i] 0 true)) (h.next+1+1)=some [.int .i64 i]:=by
    rw[cV _ (by omega),cY _ (by simp)];exact nt _ _ _ (by simp)
   have r3:rowAt (((((h.alloc (.row [.slice p1 s.dry.length c1, .slice p2 s.work.length c2, .slice p3 s.coats.length c3, .slice p4 (psum (s.dry.map Sp.lo)).length c4, .slice p5 (psum (s.dry.map Sp.hi)).length c5] 0 true)).alloc (.row [.int .i64 k] 0 true)).alloc (.row [.int .i64 i] 0 true)).alloc (.row [.int .i64 0, .int .i64 0] 0 true)).set (h.next+1+1+1) (.row [.int .i64 k, .int .i64 i] 0 true)) (h.next+1+1+1)=some [.int .i64 k, .int .i64 i]:=cT _ _ _ _ _
   generalize(((((h.alloc (.row [.slice p1 s.dry.length c1, .slice p2 s.work.length c2, .slice p3 s.coats.length c3, .slice p4 (psum (s.dry.map Sp.lo)).length c4, .slice p5 (psum (s.dry.map Sp.hi)).length c5] 0 true)).alloc (.row [.int .i64 k] 0 true)).alloc (.row [.int .i64 i] 0 true)).alloc (.row [.int .i64 0, .int .i64 0] 0 true)).set (h.next+1+1+1) (.row [.int .i64 k, .int .i64 i] 0 true))=H at fH r0 r1 r2 r3⊢
   refine aC (pP (P0:=s.standsB k i s.dry.length false=none) (P1:=fun _ r=>s.standsB k i s.dry.length false=some r) fH.ok fun h1 f1=>JR f1.ok (hv'.fr hk (fH.trans f1)) ho (by omega) (by omega) (f1.row' fH.ok r0) (f1.row' fH.ok r1) (f1.row' fH.ok r2)) ?_
   rintro _ h2 ⟨q,fr2⟩
   have f2:=fH.trans fr2
   have k2:=f2.ok
   have rk:=fr2.row' fH.ok r3
   have m2:=f2.next
   have z00:((0:Int)==0)=true:=rfl
   have z70:((7:Int)==0)=false:=rfl
   have f3: ∀x,Fr h ((h2.alloc (.row [.int .i64 0, .int .i64 0] 0 true)).set h2.next x):=fun x=>(f2.alloc _).set (by omega) (by simp) x
   have rk3: ∀l c o,rowAt ((h2.alloc (.row [.int .i64 0, .int .i64 0] 0 true)).set h2.next (.row l c o)) (h.next+1+1+1)=some [.int .i64 k, .int .i64 i]:=fun l c o=>by
    have:=af k2 rk
    rw[cV _ this,cY _ this];exact rk
   rcases q with⟨q,rfl⟩|⟨a,b,q,rfl⟩
   ·simp(maxDischargeDepth:=30)only[AA,↓reduceIte,Q1,Q2,Q3,Q4,reduceCtorEq,Q5,Q6,Q7,dx,k2,z00]
    have f4:=f3 (.row [.int .i64 0, .int .i64 0] 0 true)
    have r4:=rk3 [.int .i64 0, .int .i64 0] 0 true
    generalize((h2.alloc (.row [.int .i64 0, .int .i64 0] 0 true)).set h2.next (.row [.int .i64 0, .int .i64 0] 0 true))=h4 at f4 r4⊢
    obtain⟨es',cl',eu,hm'⟩:=mU (C:=CC) (jV s.goesV) kE (k,i) (kW (k,i)) (hm0.fr hk f4)
    simp only[eh,CoatS.goesV,CoatS.goesP_last s i hc,q,Option.isNone_none]at eu
    simp(maxDischargeDepth:=30)only[AA,↓reduceIte,Q1,Q2,Q3,Q4,reduceCtorEq,Q5,Q6,Q7,dx,f4.ok,r4,eu]
    refine⟨by rw[CoatS.goesP_last s i hc,q];rfl,f4.ok.set (aF f4.ok ((hm0.fr hk f4).choose_spec.choose_spec.1)) _,by simpa using f4.next,fun j hj hne=> ?_,_,_,Heap.get_set_self _ _ _,hm'⟩
    rw[Heap.get_set_ne _ _ hne];exact f4.get j hj
   ·simp(maxDischargeDepth:=30)only[AA,↓reduceIte,Q1,Q2,Q3,Q4,reduceCtorEq,Q5,Q6,Q7,dx,k2,z70]
    have f4:=f3 (.row [.int .i64 a, .int .i64 b] 0 true)
    have r4:=rk3 [.int .i64 a, .int .i64 b] 0 true
    generalize((h2.alloc (.row [.int .i64 0, .int .i64 0] 0 true)).set h2.next (.row [.int .i64 a, .int .i64 b] 0 true))=h4 at f4 r4⊢
    obtain⟨es',cl',eu,hm'⟩:=mU (C:=CC) (jV s.goesV) kE (k,i) (kW (k,i)) (hm0.fr hk f4)
    simp only[eh,CoatS.goesV,CoatS.goesP_last s i hc,q,Option.isNone_some]at eu
    simp(maxDischargeDepth:=30)only[AA,↓reduceIte,Q1,Q2,Q3,Q4,reduceCtorEq,Q5,Q6,Q7,dx,f4.ok,r4,eu]
    refine⟨by rw[CoatS.goesP_last s i hc,q];rfl,f4.ok.set (aF f4.ok ((hm0.fr hk f4).choose_spec.choose_spec.1)) _,by simpa using f4.next,fun j hj hne=> ?_,_,_,Heap.get_set_self _ _ _,hm'⟩
    rw[Heap.get_set_ne _ _ hne];exact f4.get j hj
  ·simp(maxDischargeDepth:=30)only[AA,↓reduceIte,Q1,Q2,Q3,Q4,reduceCtorEq,Q5,Q6,Q7,dx,hk,ml,em,hl,hf,xo]
   exact⟨trivial,(fa _ _ _ _ _).frK hk hm0⟩
 |succ r ihr=>
  intro h hk v hv m hm k i hc hi
  have hv':=hv
  obtain⟨a,b,c,l,g,rfl,hs,ql,qg⟩:=hv
  obtain⟨p1,c1,rfl,_⟩:=hs.dry.open
  obtain⟨p2,c2,rfl,x2⟩:=hs.work.open
  obtain⟨p3,c3,rfl,_⟩:=hs.coats.open
  obtain⟨p4,c4,rfl,_⟩:=ql.open
  obtain⟨p5,c5,rfl,_⟩:=qg.open
  have ll:=CoatS.lens ho
  have ml:=hm.lt hk
  have hm0:=hm
  obtain⟨es,cl,em,hmem⟩:=hm
  have hf:=B4 (jV _) (k,i) es 0 hmem
  have hl:=fun (h':Heap) (e:h'.get m=some (.map es cl))=>nV (ok:=true) kE (kW (k,i)) D6 e
  simp only[eh,CoatS.goesV]at hf hl
  refine aw Tryz.f222 (by kernel_rfl) (by kernel_rfl) rfl rfl ?_
  simp only[Tryz.f222]
  have fa: ∀x y z w u,Fr h (((((h.alloc x).alloc y).alloc z).alloc w).set (h.next+1+1+1) u):=fun x y z w u=>(((((Fr.refl hk).alloc x).alloc y).alloc z).alloc w).set (by omega) (by simp) u
  have wl:IntKind.i64.wrap ((s.coats.length:Int) -1)=(s.coats.length:Int) -1:=bG (by omega) (by omega)
  have ce:((k:Int)==(s.coats.length:Int) -1)=false:=by simp;omega
  rcases hf with hf|⟨j,hf⟩
  rotate_left
  ·simp(maxDischargeDepth:=30)only[AA,↓reduceIte,Q1,Q2,Q3,Q4,reduceCtorEq,Q5,Q6,Q7,dx,hk,ml,em,hl,hf,xo]
   exact⟨trivial,(fa _ _ _ _ _).frK hk hm0⟩
  simp(maxDischargeDepth:=30)only[AA,↓reduceIte,Q1,Q2,Q3,Q4,reduceCtorEq,Q5,Q6,Q7,dx,hk,ml,em,hl,hf,uB,wl,ce]
  have fH:=fa (.row [.slice p1 s.dry.length c1, .slice p2 s.work.length c2, .slice p3 s.coats.length c3, .slice p4 (psum (s.dry.map Sp.lo)).length c4, .slice p5 (psum (s.dry.map Sp.hi)).length c5] 0 true) (.row [.int .i64 k] 0 true) (.row [.int .i64 i] 0 true) (.row [.int .i64 0, .int .i64 0] 0 true) (.row [.int .i64 k, .int .i64 i] 0 true)
  have r0:rowAt (((((h.alloc (.row [.slice p1 s.dry.length c1, .slice p2 s.work.length c2, .slice p3 s.coats.length c3, .slice p4 (psum (s.dry.map Sp.lo)).length c4, .slice p5 (psum (s.dry.map Sp.hi)).length c5] 0 true)).alloc (.row [.int .i64 k] 0 true)).alloc (.row [.int .i64 i] 0 true)).alloc (.row [.int .i64 0, .int .i64 0] 0 true)).set (h.next+1+1+1) (.row [.int .i64 k, .int .i64 i] 0 true)) h.next=some [.slice p1 s.dry.length c1, .slice p2 s.work.length c2, .slice p3 s.coats.length c3, .slice p4 (psum (s.dry.map Sp.lo)).length c4, .slice p5 (psum (s.dry.map Sp.hi)).length c5]:=by
   rw[cV _ (by omega),cY _ (by first|(simp;done)|(simp;omega)),cY _ (by first|(simp;done)|(simp;omega)),cY _ (by first|(simp;done)|(simp;omega))];exact fW _ _ _ _
  have r1:rowAt (((((h.alloc (.row [.slice p1 s.dry.length c1, .slice p2 s.work.length c2, .slice p3 s.coats.length c3, .slice p4 (psum (s.dry.map Sp.lo)).length c4, .slice p5 (psum (s.dry.map Sp.hi)).length c5] 0 true)).alloc (.row [.int .i64 k] 0 true)).alloc (.row [.int .i64 i] 0 true)).alloc (.row [.int .i64 0, .int .i64 0] 0 true)).set (h.next+1+1+1) (.row [.int .i64 k, .int .i64 i] 0 true)) (h.next+1)=some [.int .i64 k]:=by
   rw[cV _ (by omega),cY _ (by first|(simp;done)|(simp;omega)),cY _ (by first|(simp;done)|(simp;omega))];exact nt _ _ _ (by simp)
  have r2:rowAt (((((h.alloc (.row [.slice p1 s.dry.length c1, .slice p2 s.work.length c2, .slice p3 s.coats.length c3, .slice p4 (psum (s.dry.map Sp.lo)).length c4, .slice p5 (psum (s.dry.map Sp.hi)).length c5] 0 true)).alloc (.row [.int .i64 k] 0 true)).alloc (.row [.int .i64 i] 0 true)).alloc (.row [.int .i64 0, .int .i64 0] 0 true)).set (h.next+1+1+1) (.row [.int .i64 k, .int .i64 i] 0 true)) (h.next+1+1)=some [.int .i64 i]:=by
   rw[cV _ (by omega),cY _ (by simp)];exact nt _ _ _ (by simp)
  have r3:rowAt (((((h.alloc (.row [.slice p1 s.dry.length c1, .slice p2 s.work.length c2, .slice p3 s.coats.length c3, .slice p4 (psum (s.dry.map Sp.lo)).length c4, .slice p5 (psum (s.dry.map Sp.hi)).length c5] 0 true)).alloc (.row [.int .i64 k] 0 true)).alloc (.row [.int .i64 i] 0 true)).alloc (.row [.int .i64 0, .int .i64 0] 0 true)).set (h.next+1+1+1) (.row [.int .i64 k, .int .i64 i] 0 true)) (h.next+1+1+1)=some [.int .i64 k, .int .i64 i]:=cT _ _ _ _ _
  generalize(((((h.alloc (.row [.slice p1 s.dry.length c1, .slice p2 s.work.length c2, .slice p3 s.coats.length c3, .slice p4 (psum (s.dry.map Sp.lo)).length c4, .slice p5 (psum (s.dry.map Sp.hi)).length c5] 0 true)).alloc (.row [.int .i64 k] 0 true)).alloc (.row [.int .i64 i] 0 true)).alloc (.row [.int .i64 0, .int .i64 0] 0 true)).set (h.next+1+1+1) (.row [.int .i64 k, .int .i64 i] 0 true))=H at fH r0 r1 r2 r3⊢
  have gm:=CoatS.goesP_more s i hc
  refine eT s.work.length (fun mm f h'=> ∃j,j<=s.work.length/\ mm=s.work.length -j/\ f 3= .map (some m)/\ f 4= .pointer (some ⟨h.next,0,none⟩)/\ f 5= .pointer (some ⟨h.next+1,0,none⟩)/\ f 6= .pointer (some ⟨h.next+1+1,0,none⟩)/\ f 9= .pointer (some ⟨h.next+1+1+1,0,none⟩)/\ f 12= .bool false/\
    f 46= .slice p2 s.work.length c2/\ f 47= .int .i64 s.work.length/\ f 48= .int .i64 j/\ (∀(j':Nat) x,j'<j ->s.work[j']? =some x ->(decide ((i:Int)<x)&&((s.standsB k i x.toNat true).isNone&&s.goesP (k+1) x.toNat))=false)/\
    FrK eh s.goesV m h h'/\ rowAt h' h.next=some [.slice p1 s.dry.length c1, .slice p2 s.work.length c2, .slice p3 s.coats.length c3, .slice p4 (psum (s.dry.map Sp.lo)).length c4, .slice p5 (psum (s.dry.map Sp.hi)).length c5]/\
    rowAt h' (h.next+1)=some [.int .i64 k]/\ rowAt h' (h.next+1+1)=some [.int .i64 i]/\ rowAt h' (h.next+1+1+1)=some [.int .i64 k, .int .i64 i])
   ⟨0,by omega,by omega,by simp[aa,aW],by simp[aa],by simp[aa],by simp[aa],by simp[aa],by simp[aa],by simp[aa],by simp[aa],by simp[aa],fun j x hj=>by omega,fH.frK hk hm0,r0,r1,r2,r3⟩ ?_
  clear fH r0 r1 r2 r3 H
  rintro mm f h' ⟨j,hj,rfl,f3,f4,f5,f6,f9,f12,f46,f47,f48,hall,frk,r0,r1,r2,r3⟩ ih
  have k':=frk.ok
  have n0:=af k' r0
  have n1:=af k' r1
  have n2:=af k' r2
  have n3:=af k' r3
  by_cases hjl:j<s.work.length
  ·obtain⟨x,gx⟩: ∃x,s.work[j]? =some x:=⟨_,List.getElem?_eq_getElem hjl⟩
   have hx:=CoatS.work_at ho gx
   obtain⟨y,rfl⟩: ∃y:Nat,x=y:=⟨x.toNat,by omega⟩
   have hy:y<s.dry.length:=by omega
   rcases x2 with hx|⟨b2,o2,sp2,row2,rfl,rr2,x2⟩
   ·rw[hx]at hjl;simp at hjl
   have e2:row2[o2+j]? =some (.int .i64 y):=by simpa[aQ]using(x2 _ _ gx).2 0 (by omega)
   have rr2':=(frk.rk hk hm0).rowAt rr2
   have nn:=bp hjl hw
   simp(maxDischargeDepth:=30)only[AA,↓reduceIte,Q1,Q2,Q3,Q4,reduceCtorEq,Q5,Q6,Q7,dx,k',f3,f4,f5,f6,f9,f12,f46,f47,f48,cX hjl,hjl,rr2',Nat.mul_one,e2,List.set_cons_zero]
   have fb:Fr h' ((h'.alloc (.row [.int .i64 0] 0 true)).set h'.next (.row [.int .i64 y] 0 true)):=((Fr.refl k').alloc _).set (by omega) (by simp) _
   have q0:=fb.row' k' r0
   have q1:=fb.row' k' r1
   have q2:=fb.row' k' r2
   have q3:=fb.row' k' r3
   have q4:rowAt ((h'.alloc (.row [.int .i64 0] 0 true)).set h'.next (.row [.int .i64 y] 0 true)) h'.next=some [.int .i64 y]:=cT _ _ _ _ _
   have frk1:=frk.trans (fb.frK k' frk.map)
   generalize((h'.alloc (.row [.int .i64 0] 0 true)).set h'.next (.row [.int .i64 y] 0 true))=h1 at fb q0 q1 q2 q3 q4 frk1⊢
   have k1:=fb.ok
   by_cases hle:(y:Int)<=i
   ·have d1:decide ((y:Int)<=(i:Int))=true:=by simpa using hle
    simp(maxDischargeDepth:=30)only[AA,↓reduceIte,Q1,Q2,Q3,Q4,reduceCtorEq,Q5,Q6,Q7,dx,k1,f6,f48,q2,q4,d1,nn]
    refine ih (s.work.length -(j+1)) _ _ (by omega) ?_
    exact⟨j+1,by omega,rfl,by simp[aa,f3],by simp[aa,f4],by simp[aa,f5],by simp[aa,f6],by simp[aa,f9],by simp[aa,f12],by simp[aa,f46],by simp[aa,f47],by simp[aa],eZ (g:=fun x=>decide ((i:Int)<x)&&((s.standsB k i x.toNat true).isNone&&s.goesP (k+1) x.toNat)) gx (by simp;omega) hall,frk1,q0,q1,q2,q3⟩
   ·have d1:decide ((y:Int)<=(i:Int))=false:=by simpa using hle
    simp(maxDischargeDepth:=30)only[AA,↓reduceIte,Q1,Q2,Q3,Q4,reduceCtorEq,Q5,Q6,Q7,dx,k1,f3,f4,f5,f6,f48,q2,q4,d1,nn]
    refine aC (pP (P0:=s.standsB k i y true=none) (P1:=fun _ r=>s.standsB k i y true=some r) k1 fun h2 f2=>JQ f2.ok ((hv'.rk (frk1.rk hk hm0)).fr k1 f2) ho (by omega) (by omega) (by omega) (f2.row' k1 q0) (f2.row' k1 q1) (f2.row' k1 q2) (f2.row' k1 q4)) ?_
    rintro _ h2 ⟨q,fr2⟩
    have frk2:=frk1.trans (fr2.frK k1 frk1.map)
    have k2:=fr2.ok
    have z00:((0:Int)==0)=true:=rfl
    have z70:((7:Int)==0)=false:=rfl
    have fc: ∀x,Fr h2 ((h2.alloc (.row [.int .i64 0, .int .i64 0] 0 true)).set h2.next x):=fun x=>((Fr.refl k2).alloc _).set (by omega) (by simp) x
    have q0:=fr2.row' k1 q0
    have q1:=fr2.row' k1 q1
    have q2:=fr2.row' k1 q2
    have q3:=fr2.row' k1 q3
    have q4:=fr2.row' k1 q4
    rcases q with⟨q,rfl⟩|⟨a,b,q,rfl⟩
    rotate_left
    ·simp(maxDischargeDepth:=30)only[AA,↓reduceIte,Q1,Q2,Q3,Q4,reduceCtorEq,Q5,Q6,Q7,dx,k2,z70]
     have f4':=fc (.row [.int .i64 a, .int .i64 b] 0 true)
     generalize((h2.alloc (.row [.int .i64 0, .int .i64 0] 0 true)).set h2.next (.row [.int .i64 a, .int .i64 b] 0 true))=h4 at f4'⊢
     simp(maxDischargeDepth:=30)only[AA,↓reduceIte,Q1,Q2,Q3,Q4,reduceCtorEq,Q5,Q6,Q7,dx,f4'.ok,f48,nn]
     refine ih (s.work.length -(j+1)) _ _ (by omega) ?_
     exact⟨j+1,by omega,rfl,by simp[aa,f3],by simp[aa,f4],by simp[aa,f5],by simp[aa,f6],by simp[aa,f9],by simp[aa,f12],by simp[aa,f46],by simp[aa,f47],by simp[aa],eZ (g:=fun x=>decide ((i:Int)<x)&&((s.standsB k i x.toNat true).isNone&&s.goesP (k+1) x.toNat)) gx (by simp[q]) hall,frk2.trans (f4'.frK k2 frk2.map),f4'.row' k2 q0,f4'.row' k2 q1,f4'.row' k2 q2,f4'.row' k2 q3⟩
    simp(maxDischargeDepth:=30)only[AA,↓reduceIte,Q1,Q2,Q3,Q4,reduceCtorEq,Q5,Q6,Q7,dx,k2,z00]
    have f4':=fc (.row [.int .i64 0, .int .i64 0] 0 true)
    generalize((h2.alloc (.row [.int .i64 0, .int .i64 0] 0 true)).set h2.next (.row [.int .i64 0, .int .i64 0] 0 true))=h4 at f4'⊢
    have frk4:=frk2.trans (f4'.frK k2 frk2.map)
    have q0:=f4'.row' k2 q0
    have q1:=f4'.row' k2 q1
    have q2:=f4'.row' k2 q2
    have q3:=f4'.row' k2 q3
    have q4:=f4'.row' k2 q4
    have wk:IntKind.i64.wrap ((k:Int)+1)=((k+1:Nat):Int):=by rw[bG (by omega) (by omega)];omega
    simp(maxDischargeDepth:=30)only[AA,↓reduceIte,Q1,Q2,Q3,Q4,reduceCtorEq,Q5,Q6,Q7,dx,f4'.ok,f3,f4,f5,q0,q1,q4,wk]
    refine aC (ihr f4'.ok (hv'.rk (frk4.rk hk hm0)) frk4.map (k:=k+1) (i:=y) (by omega) hy) ?_
    rintro _ h5 ⟨rfl,frk5⟩
    have frk6:=frk4.trans frk5
    have rk5:=frk5.rk f4'.ok frk4.map
    have q0:=rk5.rowAt q0
    have q1:=rk5.rowAt q1
    have q2:=rk5.rowAt q2
    have q3:=rk5.rowAt q3
    cases hg:s.goesP (k+1) y with
    |false=>
     simp(maxDischargeDepth:=30)only[AA,↓reduceIte,Q1,Q2,Q3,Q4,reduceCtorEq,Q5,Q6,Q7,dx,frk6.ok,f48,nn]
     refine ih (s.work.length -(j+1)) _ _ (by omega) ?_
     exact⟨j+1,by omega,rfl,by simp[aa,f3],by simp[aa,f4],by simp[aa,f5],by simp[aa,f6],by simp[aa,f9],by simp[aa,f12],by simp[aa,f46],by simp[aa,f47],by simp[aa],eZ (g:=fun x=>decide ((i:Int)<x)&&((s.standsB k i x.toNat true).isNone&&s.goesP (k+1) x.toNat)) gx (by simp[hg]) hall,frk6,q0,q1,q2,q3⟩
    |true=>
     have gt:s.goesP k i=true:=by
      rw[gm,List.any_eq_true]
      exact⟨_,List.mem_of_getElem? gx,by simp[q,hg];omega⟩
     obtain⟨es',cl',eu,hm'⟩:=mU (C:=CC) (jV s.goesV) kE (k,i) (kW (k,i)) frk6.map
     simp only[eh,CoatS.goesV,gt]at eu
     simp(maxDischargeDepth:=30)only[AA,↓reduceIte,Q1,Q2,Q3,Q4,reduceCtorEq,Q5,Q6,Q7,dx,frk6.ok,f3,f9,q3,eu]
     refine⟨by rw[gt],frk6.ok.set (frk6.map.lt frk6.ok) _,by simpa using frk6.next,fun j hj hne=> ?_,_,_,Heap.get_set_self _ _ _,hm'⟩
     rw[Heap.get_set_ne _ _ hne];exact frk6.get j hj hne
  ·have he:j=s.work.length:=by omega
   subst he
   have gf:s.goesP k i=false:=by rw[gm];exact ij rfl hall
   obtain⟨es',cl',eu,hm'⟩:=mU (C:=CC) (jV s.goesV) kE (k,i) (kW (k,i)) frk.map
   simp only[eh,CoatS.goesV,gf]at eu
   simp(maxDischargeDepth:=30)only[AA,↓reduceIte,Q1,Q2,Q3,Q4,reduceCtorEq,Q5,Q6,Q7,dx,k',f3,f9,f12,f47,f48,dL,r3,eu]
   refine⟨by rw[gf],k'.set (frk.map.lt k') _,by simpa using frk.next,fun j hj hne=> ?_,_,_,Heap.get_set_self _ _ _,hm'⟩
   rw[Heap.get_set_ne _ _ hne];exact frk.get j hj hne
end Go.Am

namespace Go.Am
open Go Go.Proofs
def wB:=A2 @LG<|A2 @tM<|A2 @Hl<|A2 @kN<|A2 @aV<|A2 @kJ<|A2 @jh @kD
structure Eats {α:Type} (Item:Nat ->Heap ->α ->Value ->Prop) (Bk:Value ->Nat ->Prop) (J:(Nat ->Prop) ->List α ->Heap ->Prop) (S:List α ->Heap ->Prop) (l:Nat) (h0:Heap) (M:Nat):Prop where
 low: ∀F D h,J F D h -> ∀i,F i ->h0.next<=i/\ i<h.next
 stay: ∀F D h h',J F D h ->HOK h' ->h.next<=h'.next ->(∀i,F i ->h'.get i=h.get i) ->J F D h'
 round: ∀F D h v q,HOK h ->0<h.next ->Fr h0 h ->J F D h ->Item h0.next h q v ->(∀i,Bk v i -> ¬F i) ->D.length+1<=M ->
  ∃b h',jO (bH CC) l [v] h=some (.ret (.bool b) h' none)/\ Gr F h h'/\ ((b=true/\ ∃F',(∀i,F' i ->F i \/Bk v i \/h.next<=i)/\ J F' (D++[q]) h') \/(b=false/\ S (D++[q]) h'))
def Ux {α:Type} (Item:Nat ->Heap ->α ->Value ->Prop) (Bk:Value ->Nat ->Prop) (g:FuncId) (caps:List Value) (L:List α) (h0:Heap):Prop:=
 ∀(J:(Nat ->Prop) ->List α ->Heap ->Prop) (S:List α ->Heap ->Prop) (l:Nat) (F:Nat ->Prop) (h1:Heap) (M:Nat),Fr h0 h1 ->0<h1.next ->Eats Item Bk J S l h0 M ->L.length<=M ->J F [] h1 ->
  CW CC g (.func (.yield l) ⟨[]⟩ ⟨[]⟩::caps) h1 fun _ h'=>Gr F h1 h'/\ ((∃F',J F' L h'/\ ∀i,F' i ->F i \/h1.next<=i) \/ ∃l1 l2,L=l1++l2/\ S l1 h')
theorem Gr.trans' {F F':Nat ->Prop} {a b c:Heap} (g:Gr F a b) (g':Gr F' b c) (hx: ∀i,F' i ->F i \/a.next<=i):Gr F a c:=
 ⟨g'.ok,Nat.le_trans g.next g'.next,fun i hi hn=>(g'.get i (Nat.lt_of_lt_of_le hi g.next) fun hf=>(hx i hf).elim hn fun h=>by omega).trans (g.get i hi hn)⟩
def gZ (N:Nat) (h:Heap) (q:List Int) (v:Value):Prop:=SL N h v (q.flatMap aQ) 1 q.length
def IE (v:Value) (i:Nat):Prop:=ay v=some i
structure AJ (N c d l:Nat) (R:ALoop) (F:Nat ->Prop) (D:List (List Int)) (h:Heap):Prop where
 ok:HOK h
 ex: ∃us out,(∀i,F i↔i=c \/i=d \/i=l \/ay out=some i \/ ∃u,u∈us/\ ay u=some i)/\ h.get c=some (.row [out] 0 true)/\ h.get d=some (.deferred true)/\ h.get l=some (.loop R)/\
  SL N h out us 1 us.length/\ LR (fun h u w=>gZ N h w u) h us D/\ ∀u,u∈us -> ∀i,ay u=some i ->ay out≠some i
theorem TS:AppT CC 33 33 1:=qE (by kernel_rfl)
theorem Wy {v:Value} (h:cellsOf v=[v]):bn CC 33 1 [(0,v)]=some (.new (.row [v] 1 true) (aG 1 1 1)):=LG h
set_option maxRecDepth 10000 in
set_option maxHeartbeats 2000000 in
theorem Cq {h:Heap} (hk:HOK h) (hp:0<h.next) {g:FuncId} {caps:List Value} {L:List (List Int)} (hL:L.length<=1000000) (hf:Ux gZ IE g caps L h):
  CW CC 219 [.slice none 0 0, .func (.func g) ⟨[]⟩ ⟨caps⟩] h fun r h'=>(∃us,SL h.next h' r us 1 us.length/\ LR (fun g u w=>gZ h.next g w u) h' us L)/\ Fr h h':=by
 refine CH Tryz.f219 (by kernel_rfl) (by kernel_rfl) rfl rfl ?_
 simp only[Tryz.f219]
 simp(maxDischargeDepth:=30)only[AA,↓reduceIte,Q1,Q2,Q3,Q4,reduceCtorEq,Q5,Q6,Q7,wB,hk,pW]
 have fA:Fr h (h.alloc (.row [.slice none 0 0] 0 true)):=(Fr.refl hk).alloc _
 have gA:(h.alloc (.row [.slice none 0 0] 0 true)).get h.next=some (.row [.slice none 0 0] 0 true):=dr _ rfl
 have nA:(h.alloc (.row [.slice none 0 0] 0 true)).next=h.next+1:=by simp
 generalize(h.alloc (.row [.slice none 0 0] 0 true))=hA at fA gA nA⊢
 refine rR (P:=fun R _ h'=>(∃F,AJ h.next h.next hA.next (hA.next+1) R F L h')/\ Fr h h') ?_ ?_
 ·intro R hR
  have f4:Fr hA ((hA.alloc (.deferred true)).alloc (.loop R)):=((Fr.refl fA.ok).alloc _).alloc _
  have d4:((hA.alloc (.deferred true)).alloc (.loop R)).get hA.next=some (.deferred true):=by rw[cP _ (by simp)];exact dr _ rfl
  have l4:((hA.alloc (.deferred true)).alloc (.loop R)).get (hA.next+1)=some (.loop R):=dr _ (by simp)
  have c4:=f4.get' fA.ok gA
  have n4:((hA.alloc (.deferred true)).alloc (.loop R)).next=hA.next+2:=by simp
  have E:Eats gZ IE (AJ h.next h.next hA.next (hA.next+1) R) (fun _ _=>False) (hA.next+1) h 1000000:=by
   refine⟨?_,?_,?_⟩
   ·rintro F D g hJ i hi
    obtain⟨us,out,hF,gc,gd,gl,qo,hR',nd⟩:=hJ.ex
    have a1:=aF hJ.ok gc
    have a2:=aF hJ.ok gd
    have a3:=aF hJ.ok gl
    rcases(hF i).1 hi with rfl|rfl|rfl|hb|⟨u,hu,hb⟩
    ·omega
    ·omega
    ·omega
    ·exact qo.blk_lt hJ.ok hb
    ·obtain⟨j,hj⟩:=List.mem_iff_getElem?.1 hu
     obtain⟨w,hw,hi⟩:=hR'.get' hj
     exact SL.blk_lt hi hJ.ok hb
   ·rintro F D g g' hJ kg' hn hs
    obtain⟨us,out,hF,gc,gd,gl,qo,hR',nd⟩:=hJ.ex
    refine⟨kg',us,out,hF,?_,?_,?_,?_,?_,nd⟩
    ·rw[hs _ ((hF _).2 (by simp))];exact gc
    ·rw[hs _ ((hF _).2 (by simp))];exact gd
    ·rw[hs _ ((hF _).2 (by simp))];exact gl
    ·exact qo.keep fun b hb=>hs _ ((hF _).2 (by simp[hb]))
    ·refine⟨hR'.1,fun j u w hu hw=>SL.keep (hR'.2 j u w hu hw) fun b hb=>hs _ ((hF _).2 (.inr (.inr (.inr (.inr ⟨u,List.mem_of_getElem? hu,hb⟩)))))⟩
   ·rintro F D g v q kg hg0 fg hJ hI hdis dl
    obtain⟨us,out,hF,gc,gd,gl,qo,hR',nd⟩:=hJ.ex
    have rok:pt R.state=true:=by rw[hR];rfl
    have hA1:R.assign=_:=congrArg ALoop.assign hR
    have hA2:R.body=_:=congrArg ALoop.body hR
    have hA3:R.params=_:=congrArg ALoop.params hR
    have hA4:R.tmps=_:=congrArg ALoop.tmps hR
    have hR1:(R.turn .busy R.pending).turn (gK none) none=R:=by rw[hR];rfl
    simp only[iN]at hA1 hA2 hA3 hA4
    clear hR
    refine uQ gl (by rw[hA3];rfl) ?_
    rw[hA1,hA2,hA3,hA4,oW]
    have lg:=aF kg gl
    have cg:=aF kg gc
    have dg:=aF kg gd
    simp(maxDischargeDepth:=30)only[AA,↓reduceIte,Q1,Q2,Q3,Q4,reduceCtorEq,Q5,Q6,Q7,wB,kg,zS gl rok]
    have aN:hA.next=h.next+1:=nA
    have qB:SL h.next (g.set (hA.next+1) (.loop (R.turn .busy R.pending))) out us 1 us.length:=qo.keep fun b hb=>Heap.get_set_ne _ _ (by rintro rfl;rcases qo with⟨rfl,_⟩|⟨b',rfl,_,_,g',_⟩<;>simp[ay]at hb;subst hb;rw[gl]at g';simp at g')
    have fB:Fr h (g.set (hA.next+1) (.loop (R.turn .busy R.pending))):=fg.set (by omega) (by omega) _
    have cB:(g.set (hA.next+1) (.loop (R.turn .busy R.pending))).get h.next=some (.row [out] 0 true):=by rw[Heap.get_set_ne _ _ (by omega)];exact gc
    have dB:(g.set (hA.next+1) (.loop (R.turn .busy R.pending))).get hA.next=some (.deferred true):=by rw[Heap.get_set_ne _ _ (by omega)];exact gd
    have lB:(g.set (hA.next+1) (.loop (R.turn .busy R.pending))).get (hA.next+1)=some (.loop (R.turn .busy R.pending)):=am _ _ _
    have oB: ∀i,i≠hA.next+1 ->(g.set (hA.next+1) (.loop (R.turn .busy R.pending))).get i=g.get i:=fun i hi=>Heap.get_set_ne _ _ hi
    have nB:(g.set (hA.next+1) (.loop (R.turn .busy R.pending))).next=g.next:=Heap.next_set _ _ _
    generalize(g.set (hA.next+1) (.loop (R.turn .busy R.pending)))=hB at qB fB cB dB lB oB nB⊢
    have rB:rowAt hB h.next=some [out]:=by unfold rowAt;rw[cB];rfl
    obtain⟨pv,cv,ev⟩:=SL.value hI
    have ov:jx v=true:=by rw[ev];rfl
    have cl:cellsOf v=[v]:=by rw[ev];rfl
    have ul:us.length=D.length:=hR'.1
    obtain⟨hC,eC,qC,fC,nC,gC⟩:=Km (ts:=[]) TS fB (by omega) qB ov (by omega)
    have tc:ay out≠some h.next:=qB.tag cB (by omega)
    have cC:hC.get h.next=some (.row [out] 0 true):=by rw[gC _ (by omega) tc];exact cB
    simp(maxDischargeDepth:=30)only[AA,↓reduceIte,Q1,Q2,Q3,Q4,reduceCtorEq,Q5,Q6,Q7,wB,fB.ok,fC.ok,rB,Wy cl,aG,eC,cC,List.set_cons_zero]
    have gl': ∀i b,i=h.next \/i=hA.next \/i=hA.next+1 ->ay v=some b ->b≠i:=by
     rintro i b hi hb rfl
     exact hdis b hb ((hF b).2 (by rcases hi with h|h|h<;>simp[h]))
    have tl:ay out≠some (hA.next+1):=fun hb=>by
     rcases qB with⟨rfl,_⟩|⟨b',rfl,_,_,g',_⟩
     ·simp[ay]at hb
     ·simp[ay]at hb;subst hb;rw[lB]at g';simp at g'
    have td:ay out≠some hA.next:=fun hb=>by
     rcases qB with⟨rfl,_⟩|⟨b',rfl,_,_,g',_⟩
     ·simp[ay]at hb
     ·simp[ay]at hb;subst hb;rw[dB]at g';simp at g'
    have fin: ∀i,i<g.next ->i≠h.next ->i≠hA.next+1 ->ay out≠some i -> ∀x y,((hC.set h.next x).set (hA.next+1) y).get i=g.get i:=fun i hi h1 h2 h3 x y=>by
     rw[Heap.get_set_ne _ _ h2,Heap.get_set_ne _ _ h1,gC i (by omega) h3,oB i h2]
    refine⟨none,_,rfl,trivial,by rw[Heap.get_set_ne _ _ (by omega),gC _ (by omega) tl];exact lB,?_, .inl ⟨rfl,fun i=>i=h.next \/i=hA.next \/i=hA.next+1 \/i=hB.next+1 \/ ∃u,u∈us++[v]/\ ay u=some i,?_,?_⟩⟩
    ·refine⟨(fC.ok.set (by omega) _).set (by simp;omega) _,by simp;omega,fun i hi hn=>fin i hi (fun e=>hn ((hF i).2 (.inl e))) (fun e=>hn ((hF i).2 (.inr (.inr (.inl e))))) (fun e=>hn ((hF i).2 (.inr (.inr (.inr (.inl e)))))) _ _⟩
    ·rintro i (h|h|h|h|⟨u,hu,hb⟩)
     ·exact .inl ((hF i).2 (.inl h))
     ·exact .inl ((hF i).2 (.inr (.inl h)))
     ·exact .inl ((hF i).2 (.inr (.inr (.inl h))))
     ·exact .inr (.inr (by omega))
     ·rcases List.mem_append.1 hu with hu|hu
      ·exact .inl ((hF i).2 (.inr (.inr (.inr (.inr ⟨u,hu,hb⟩)))))
      ·simp at hu;subst hu;exact .inr (.inl hb)
    ·have key: ∀u w,u∈us++[v] ->gZ h.next g w u ->gZ h.next ((hC.set h.next (.row [.slice (some ⟨hB.next+1,0,some 1⟩) (us.length+1) (us.length+1)] 0 true)).set (hA.next+1) (.loop ((R.turn .busy R.pending).turn (gK none) none))) w u:=by
      intro u w hu hi
      refine SL.keep hi fun b hb=> ?_
      have hbl:=(SL.blk_lt hi kg hb).2
      rcases List.mem_append.1 hu with hu|hu
      ·have hFb:=(hF b).2 (.inr (.inr (.inr (.inr ⟨u,hu,hb⟩))))
       refine fin b hbl ?_ ?_ (nd u hu b hb) _ _
       ·rintro rfl;exact absurd hb (SL.tag hi gc (by omega))
       ·rintro rfl
        rcases hi with⟨rfl,_⟩|⟨b',rfl,_,_,g',_⟩
        ·simp[ay]at hb
        ·simp[ay]at hb;subst hb;rw[gl]at g';simp at g'
      ·simp at hu;subst hu
       exact fin b hbl (gl' _ b (.inl rfl) hb) (gl' _ b (.inr (.inr rfl)) hb) (fun e=>hdis b hb ((hF b).2 (.inr (.inr (.inr (.inl e)))))) _ _
     refine⟨(fC.ok.set (by omega) _).set (by simp;omega) _,us++[v], .slice (some ⟨hB.next+1,0,some 1⟩) (us.length+1) (us.length+1),?_,?_,?_,?_,?_,?_,?_⟩
     ·intro i
      constructor
      ·rintro(h|h|h|h|h)
       ·exact .inl h
       ·exact .inr (.inl h)
       ·exact .inr (.inr (.inl h))
       ·exact .inr (.inr (.inr (.inl (by simp[ay,h]))))
       ·exact .inr (.inr (.inr (.inr h)))
      ·rintro(h|h|h|h|h)
       ·exact .inl h
       ·exact .inr (.inl h)
       ·exact .inr (.inr (.inl h))
       ·exact .inr (.inr (.inr (.inl (by simpa[ay]using h.symm))))
       ·exact .inr (.inr (.inr (.inr h)))
     ·rw[Heap.get_set_ne _ _ (by omega)];exact am _ _ _
     ·rw[Heap.get_set_ne _ _ (by omega),Heap.get_set_ne _ _ (by omega),gC _ (by omega) td];exact dB
     ·rw[am,hR1]
     ·rw[List.length_append]
      refine qC.keep fun b hb=> ?_
      simp[ay]at hb;subst hb
      rw[Heap.get_set_ne _ _ (by omega),Heap.get_set_ne _ _ (by omega)]
     ·refine⟨by simp[ul],fun j u w hu hw=>key u w (List.mem_of_getElem? hu) ?_⟩
      by_cases hj:j<us.length
      ·rw[List.getElem?_append_left hj]at hu
       rw[List.getElem?_append_left (by omega)]at hw
       exact hR'.2 j u w hu hw
      ·rw[List.getElem?_append_right (by omega)]at hu hw
       have:j -us.length=0:=by
        cases e:j -us.length with
        |zero=>rfl
        |succ n=>rw[e]at hu;simp at hu
       rw[this]at hu
       rw[show j -D.length=0 by omega]at hw
       simp at hu hw
       subst hu;subst hw;exact hI
     ·intro u hu i hb
      have hi:i<g.next:=by
       rcases List.mem_append.1 hu with hu|hu
       ·obtain⟨j,hj⟩:=List.mem_iff_getElem?.1 hu
        obtain⟨w,hw,hi⟩:=hR'.get' hj
        exact(SL.blk_lt hi kg hb).2
       ·simp at hu;subst hu;exact(SL.blk_lt hI kg hb).2
      simp[ay];omega
  obtain⟨rv,h',e,gr,hq⟩:=hf (AJ h.next h.next hA.next (hA.next+1) R) (fun _ _=>False) (hA.next+1) (fun i=>i=h.next \/i=hA.next \/i=hA.next+1) _ 1000000 (fA.trans f4) (by omega) E hL
   ⟨f4.ok,[], .slice none 0 0,fun i=>by simp[ay],c4,d4,l4,SL.nil _ _ _,⟨rfl,fun j u w hu=>by simp at hu⟩,fun u hu=>by simp at hu⟩
  refine⟨rv,h',e,?_,gr.fr (fA.trans f4) fun i hi=>by omega⟩
  rcases hq with⟨F',hJ,_⟩|⟨_,_,_,hn⟩
  ·exact⟨F',hJ⟩
  ·exact hn.elim
 ·rintro R hR rv h' ⟨⟨F,hJ⟩,fr⟩
  obtain⟨us,out,hF,gc,gd,gl,qo,hR',nd⟩:=hJ.ex
  refine⟨R,gl,by rw[hR];rfl,?_⟩
  have hp':R.pending=none:=by rw[hR];rfl
  rw[hp',lQ,nR]
  have k':=hJ.ok
  have ml:=aF k' gl
  have c2:rowAt (h'.set (hA.next+1) (.loop (R.turn .exhausted none))) h.next=some [out]:=by unfold rowAt;rw[Heap.get_set_ne _ _ (by omega),gc];rfl
  have d2:(h'.set (hA.next+1) (.loop (R.turn .exhausted none))).get hA.next=some (.deferred true):=by rw[Heap.get_set_ne _ _ (by omega)];exact gd
  have f2:Fr h (h'.set (hA.next+1) (.loop (R.turn .exhausted none))):=fr.set (by omega) (by omega) _
  have ol: ∀v l n,SL h.next h' v l 1 n -> ∀b,ay v=some b ->b≠hA.next/\ b≠hA.next+1:=by
   intro v l n q b hb
   rcases q with⟨rfl,_⟩|⟨b',rfl,_,_,g',_⟩
   ·simp[ay]at hb
   ·simp[ay]at hb;subst hb
    exact⟨by rintro rfl;rw[gd]at g';simp at g',by rintro rfl;rw[gl]at g';simp at g'⟩
  have o2: ∀b,b≠hA.next ->b≠hA.next+1 ->((h'.set (hA.next+1) (.loop (R.turn .exhausted none))).set hA.next (.deferred false)).get b=h'.get b:=fun b h1 h2=>by rw[Heap.get_set_ne _ _ h1,Heap.get_set_ne _ _ h2]
  have m2:hA.next<(h'.set (hA.next+1) (.loop (R.turn .exhausted none))).next:=aF f2.ok d2
  generalize(h'.set (hA.next+1) (.loop (R.turn .exhausted none)))=h2 at c2 d2 f2 o2 m2⊢
  simp(maxDischargeDepth:=30)only[AA,↓reduceIte,Q1,Q2,Q3,Q4,reduceCtorEq,Q5,Q6,Q7,wB,f2.ok,c2,pV]
  refine⟨d2,⟨us,qo.keep fun b hb=>o2 b (ol _ _ _ qo b hb).1 (ol _ _ _ qo b hb).2,hR'.1,fun j u w hu hw=>SL.keep (hR'.2 j u w hu hw) fun b hb=>o2 b (ol _ _ _ (hR'.2 j u w hu hw) b hb).1 (ol _ _ _ (hR'.2 j u w hu hw) b hb).2⟩,?_⟩
  exact f2.set (by omega) m2 _
end Go.Am

namespace Go.Am
open Go Go.Proofs
set_option maxRecDepth 10000 in
theorem GY {h:Heap} (hk:HOK h) {cs:List Value} {s:CoatS} (hv:IsShop h (.agg ⟨cs⟩) s) (ho:s.ok=true) {n i j b0 b1 b2 b3 c:Nat} {p:Option Addr} {now:List Int} (hn:now.length=n+1) (hc:n<s.coats.length) (hi:i<=s.dry.length) (hj:j<=s.dry.length)
  (hnow:LS h (.slice p now.length c) now aQ 1) (hlast:now[n]? =some (i:Int))
  (r0:rowAt h b0=some cs) (r1:rowAt h b1=some [.int .i64 ((n+1:Nat):Int)]) (r2:rowAt h b2=some [.slice p now.length c]) (r3:rowAt h b3=some [.int .i64 j]):
  CX CC 224 [.pointer (some ⟨b0,0,none⟩), .pointer (some ⟨b1,0,none⟩), .pointer (some ⟨b2,0,none⟩), .pointer (some ⟨b3,0,none⟩)] h (fun _ h'=>s.standsB n i j true=none/\ Fr h h')
   (fun e h'=>(∃a r,e= .iface 333 (.agg ⟨[.int .i64 a, .int .i64 r]⟩)/\ s.standsB n i j true=some r)/\ Fr h h'):=by
 have hv':=hv
 have ll:=CoatS.lens ho
 obtain⟨a,b,c',l,g,e,hs,ql,qg⟩:=hv
 obtain rfl:cs=[a,b,c',l,g]:=by simpa using e
 have n0:=af hk r0
 have n1:=af hk r1
 have n2:=af hk r2
 have n3:=af hk r3
 obtain⟨b4,o4,sp4,row4,rfl,rr4,e4⟩:=hnow.cell hlast
 have n4:=af hk rr4
 have hil:n<now.length:=by omega
 have w1:IntKind.i64.wrap (((n+1:Nat):Int) -1)=(n:Int):=by rw[bG (by omega) (by omega)];omega
 refine CG Tryz.f224 (by kernel_rfl) (by kernel_rfl) rfl rfl ?_
 simp only[Tryz.f224]
 refine bR [(true,0),(true,1),(true,2),(true,3),(true,4),(true,5),(true,6),(true,7),(true,8),(true,9)] (by kernel_rfl) ?_
 simp(maxDischargeDepth:=30)only[AA,↓reduceIte,Q1,Q2,Q3,Q4,reduceCtorEq,Q5,Q6,Q7,cG,cM,lP,cS,bJ,aV,ba,bm,bh,hk,r0,r1,r2,r3,n0,n1,n2,n3,n4,w1,hil,rr4,e4,Nat.mul_one]
 refine T3 (qM hk hv' ho hc hi hj true) ?_ ?_
 ·rintro v h2 ⟨p0,fr2⟩
  simp(maxDischargeDepth:=30)only[AA,↓reduceIte,Q1,Q2,Q3,Q4,reduceCtorEq,Q5,Q6,Q7,cG,cM,lP,cS,bJ,aV,ba,bm,bh,jg]
  exact⟨p0,fr2⟩
 ·rintro e h2 ⟨⟨r,p1,rfl⟩,fr2⟩
  simp only[eJ]
  exact⟨⟨_,r,rfl,p1⟩,fr2⟩
def CoatS.ext (s:CoatS):Nat ->List Int ->List (List Int)
 |0,now=>[now]
 |d+1,now=>s.work.flatMap fun day=>
  if(now.length≠0/\ day<=now.getD (now.length -1) 0) \/s.goesP now.length day.toNat=false then[]
  else if now.length≠0/\ s.standsB (now.length -1) (now.getD (now.length -1) 0).toNat day.toNat true≠none then[]
  else s.ext d (now++[day])
def CoatS.plans (s:CoatS):List (List Int):=s.ext s.coats.length []
end Go.Am
