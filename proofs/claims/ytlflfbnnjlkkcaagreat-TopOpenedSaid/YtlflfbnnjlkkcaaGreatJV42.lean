/- Parts V42, V43 of the abstract machine over this program, joined: what each part says stands at its head. -/
import Derived.Test.YtlflfbnnjlkkcaaGreatJV84
set_option linter.unusedSimpArgs false
set_option linter.unusedVariables false
set_option linter.defProp false
open Nat renaming reduceLT→Q1,reduceEqDiff→Q2,reduceAdd→Q3,reduceMul→Q4,reduceLeDiff→Q5
open Int renaming reduceNe→Q6,reduceEq→Q7
namespace Go.Am
open Go Go.Proofs
def wD:=A2 @tO<|A2 @Hg<|A2 @Bu<|A2 @jS<|A2 @jR<|A2 @gv<|A2 @ji @jN
def wx:=A2 @tM<|A2 @cM<|A2 @ko<|A2 @kN<|A2 @aV<|A2 @kJ<|A2 @jh @kD
def wv:=A2 @Lh<|A2 @XF<|A2 @Br<|A2 @zy<|A2 @zw<|A2 @oU<|A2 @qI @zl
def wu:=A2 @Lg<|A2 @Rc<|A2 @Jq<|A2 @vp<|A2 @lI<|A2 @zu<|A2 @qH @zj
def wt:=A2 @Hq<|A2 @tK<|A2 @uj<|A2 @o8<|A2 @eU<|A2 @u7<|A2 @oM @uN
def wr:=A2 @Hp<|A2 @Ra<|A2 @Bt<|A2 @qU<|A2 @jW<|A2 @u6<|A2 @oK @uM
theorem LR.get {α β:Type} {R:Heap ->α ->β ->Prop} {h:Heap} {us:List α} {ws:List β} (q:LR R h us ws) {i:Nat} {w:β} (hw:ws[i]? =some w): ∃u,us[i]? =some u/\ R h u w:=by
 have hi:i<us.length:=by rw[q.1];exact(List.getElem?_eq_some_iff.1 hw).1
 exact⟨us[i],List.getElem?_eq_getElem hi,q.2 i _ w (List.getElem?_eq_getElem hi) hw⟩
theorem LR.get' {α β:Type} {R:Heap ->α ->β ->Prop} {h:Heap} {us:List α} {ws:List β} (q:LR R h us ws) {i:Nat} {u:α} (hu:us[i]? =some u): ∃w,ws[i]? =some w/\ R h u w:=by
 have hi:i<ws.length:=by rw[<-q.1];exact(List.getElem?_eq_some_iff.1 hu).1
 exact⟨ws[i],List.getElem?_eq_getElem hi,q.2 i u _ hu (List.getElem?_eq_getElem hi)⟩
structure IsCoats (h:Heap) (a b c:Value) (s:CoatS):Prop where
 dry:LS h a s.dry Sp.cells 2
 work:LS h b s.work aQ 1
 coats:LS h c s.coats CoatC.cells 2
theorem IsCoats.fr {h h':Heap} {a b c:Value} {s:CoatS} (q:IsCoats h a b c s) (hk:HOK h) (f:Fr h h'):IsCoats h' a b c s:=⟨q.dry.fr hk f,q.work.fr hk f,q.coats.fr hk f⟩
theorem bZ (x lo hi:Int) (h:Heap):cI CC (bH CC) 101 [.int .i64 x, .int .i64 lo, .int .i64 hi] h=some (.ret (.bool (cL x lo hi)) h none):=by
 refine CW.eq (aw Tryz.f101 (by kernel_rfl) (by kernel_rfl) rfl rfl ?_)
 simp only[Tryz.f101]
 by_cases h1:x>=lo
 ·simp(maxDischargeDepth:=30)only[AA,↓reduceIte,Q1,Q2,Q3,Q4,reduceCtorEq,Q5,Q6,Q7,h1]
  simp[cL,show lo<=x from h1]
 ·simp(maxDischargeDepth:=30)only[AA,↓reduceIte,Q1,Q2,Q3,Q4,reduceCtorEq,Q5,Q6,Q7,h1]
  simp[cL,show¬lo<=x from h1]
theorem Rq (x lo hi:Int) (h:Heap):cI CC (bH CC) 116 [.int .i64 x, .int .i64 lo, .int .i64 hi] h=some (.ret (.bool (cL x lo hi)) h none):=by
 refine CW.eq (aw Tryz.f116 (by kernel_rfl) (by kernel_rfl) rfl rfl ?_)
 simp only[Tryz.f116]
 by_cases h1:x>=lo
 ·simp(maxDischargeDepth:=30)only[AA,↓reduceIte,Q1,Q2,Q3,Q4,reduceCtorEq,Q5,Q6,Q7,h1]
  simp[cL,show lo<=x from h1]
 ·simp(maxDischargeDepth:=30)only[AA,↓reduceIte,Q1,Q2,Q3,Q4,reduceCtorEq,Q5,Q6,Q7,h1]
  simp[cL,show¬lo<=x from h1]
theorem fP (x lo hi:Int) (h:Heap):cI CC (bH CC) 124 [.int .i64 x, .int .i64 lo, .int .i64 hi] h=some (.ret (.bool (cL x lo hi)) h none):=by
 refine CW.eq (aw Tryz.f124 (by kernel_rfl) (by kernel_rfl) rfl rfl ?_)
 simp only[Tryz.f124]
 by_cases h1:x>=lo
 ·simp(maxDischargeDepth:=30)only[AA,↓reduceIte,Q1,Q2,Q3,Q4,reduceCtorEq,Q5,Q6,Q7,h1]
  simp[cL,show lo<=x from h1]
 ·simp(maxDischargeDepth:=30)only[AA,↓reduceIte,Q1,Q2,Q3,Q4,reduceCtorEq,Q5,Q6,Q7,h1]
  simp[cL,show¬lo<=x from h1]
theorem di (x lo hi:Int) (h:Heap):cI CC (bH CC) 135 [.int .i64 x, .int .i64 lo, .int .i64 hi] h=some (.ret (.bool (cL x lo hi)) h none):=by
 refine CW.eq (aw Tryz.f135 (by kernel_rfl) (by kernel_rfl) rfl rfl ?_)
 simp only[Tryz.f135]
 by_cases h1:x>=lo
 ·simp(maxDischargeDepth:=30)only[AA,↓reduceIte,Q1,Q2,Q3,Q4,reduceCtorEq,Q5,Q6,Q7,h1]
  simp[cL,show lo<=x from h1]
 ·simp(maxDischargeDepth:=30)only[AA,↓reduceIte,Q1,Q2,Q3,Q4,reduceCtorEq,Q5,Q6,Q7,h1]
  simp[cL,show¬lo<=x from h1]
theorem JO (x lo hi:Int) (h:Heap):cI CC (bH CC) 153 [.int .i64 x, .int .i64 lo, .int .i64 hi] h=some (.ret (.bool (cL x lo hi)) h none):=by
 refine CW.eq (aw Tryz.f153 (by kernel_rfl) (by kernel_rfl) rfl rfl ?_)
 simp only[Tryz.f153]
 by_cases h1:x>=lo
 ·simp(maxDischargeDepth:=30)only[AA,↓reduceIte,Q1,Q2,Q3,Q4,reduceCtorEq,Q5,Q6,Q7,h1]
  simp[cL,show lo<=x from h1]
 ·simp(maxDischargeDepth:=30)only[AA,↓reduceIte,Q1,Q2,Q3,Q4,reduceCtorEq,Q5,Q6,Q7,h1]
  simp[cL,show¬lo<=x from h1]
theorem jr (x lo hi:Int) (h:Heap):cI CC (bH CC) 212 [.int .i64 x, .int .i64 lo, .int .i64 hi] h=some (.ret (.bool (cL x lo hi)) h none):=by
 refine CW.eq (aw Tryz.f212 (by kernel_rfl) (by kernel_rfl) rfl rfl ?_)
 simp only[Tryz.f212]
 by_cases h1:x>=lo
 ·simp(maxDischargeDepth:=30)only[AA,↓reduceIte,Q1,Q2,Q3,Q4,reduceCtorEq,Q5,Q6,Q7,h1]
  simp[cL,show lo<=x from h1]
 ·simp(maxDischargeDepth:=30)only[AA,↓reduceIte,Q1,Q2,Q3,Q4,reduceCtorEq,Q5,Q6,Q7,h1]
  simp[cL,show¬lo<=x from h1]
set_option maxRecDepth 10000 in
theorem JM {h:Heap} (hk:HOK h) {v fv:Value} {xs:List Value} (g:Value ->Bool) (hv:LS h v xs jB 1) (hl:xs.length<=1000)
  (hcl: ∀h1,Fr h h1 -> ∀x∈xs,∃h2,iy CC fv [x] h1=some (.ret (.bool (g x)) h2 none)/\ Fr h1 h2):
  CW CC 226 [v,fv] h fun r h'=>(∃i:Int,r= .int .i64 i/\ decide (i>=0)=xs.any g)/\ Fr h h':=by
 obtain⟨p,c,rfl,hx⟩:=hv.open
 refine aw Tryz.f226 (by kernel_rfl) (by kernel_rfl) rfl rfl ?_
 simp only[Tryz.f226]
 simp(maxDischargeDepth:=30)only[AA,↓reduceIte,Q1,Q2,Q3,Q4,reduceCtorEq,Q5,Q6,Q7,wx,hk]
 refine eT xs.length (fun m f h'=> ∃i,i<=xs.length/\ m=xs.length -i/\ f 0= .slice p xs.length c/\ f 1=fv/\ f 7= .int .i64 xs.length/\ f 8= .int .i64 i/\ (∀(j:Nat) x,j<i ->xs[j]? =some x ->g x=false)/\ Fr h h')
  ⟨0,by omega,by omega,by simp[aa,aW],by simp[aa,aW],by simp[aa,aW],by simp[aa],fun j x hj=>by omega,Fr.refl hk⟩ ?_
 rintro m f h' ⟨i,hi,rfl,f0,f1,f7,f8,hall,fr⟩ ih
 have hk':=fr.ok
 by_cases hil:i<xs.length
 ·have hlt:=cX hil
  obtain⟨x,g1⟩: ∃x,xs[i]? =some x:=⟨_,List.getElem?_eq_getElem hil⟩
  rcases hx with hx|⟨b,o,sp,row,rfl,hr,hx⟩
  ·rw[hx]at hil;simp at hil
  have k1:row[o+i]? =some (x):=by simpa[aQ,jB]using(hx _ _ g1).2 0 (by omega)
  have hr':=fr.row' hk hr
  obtain⟨h2,e2,fr2⟩:=hcl h' fr x (List.mem_of_getElem? g1)
  cases hg:g x with
  |true=>
   rw[hg]at e2
   simp(maxDischargeDepth:=30)only[AA,↓reduceIte,Q1,Q2,Q3,Q4,reduceCtorEq,Q5,Q6,Q7,wx,hk',f0,f1,f7,f8,hlt,hil,hr',Nat.mul_one,k1,e2]
   refine⟨⟨_,rfl,?_⟩,fr.trans fr2⟩
   rw[show xs.any g=true from List.any_eq_true.2 ⟨x,List.mem_of_getElem? g1,hg⟩];simp
  |false=>
   rw[hg]at e2
   have w:=bp hil hl
   simp(maxDischargeDepth:=30)only[AA,↓reduceIte,Q1,Q2,Q3,Q4,reduceCtorEq,Q5,Q6,Q7,wx,hk',f0,f1,f7,f8,hlt,hil,hr',Nat.mul_one,k1,e2,w]
   refine ih (xs.length -(i+1)) _ _ (by omega) ?_
   exact⟨i+1,by omega,rfl,by simp[aa,f0],by simp[aa,f1],by simp[aa,f7],by simp[aa],eZ g1 hg hall,fr.trans fr2⟩
 ·have he:i=xs.length:=by omega
  subst he
  have hlt:=dL xs.length
  simp(maxDischargeDepth:=30)only[AA,↓reduceIte,Q1,Q2,Q3,Q4,reduceCtorEq,Q5,Q6,Q7,wx,hk',f0,f1,f7,f8,hlt]
  refine⟨⟨_,rfl,?_⟩,fr⟩
  rw[ij rfl hall];simp
theorem CS {h:Heap} (hk:HOK h) {v fv:Value} {xs:List Value} (g:Value ->Bool) (hv:LS h v xs jB 1) (hl:xs.length<=1000)
  (hcl: ∀h1,Fr h h1 -> ∀x∈xs,∃h2,iy CC fv [x] h1=some (.ret (.bool (g x)) h2 none)/\ Fr h1 h2):
  CW CC 117 [v,fv] h fun r h'=>r= .bool (xs.any g)/\ Fr h h':=by
 obtain⟨r,h1,e,⟨i,rfl,hi⟩,fr⟩:=JM hk g hv hl hcl
 refine aw Tryz.f117 (by kernel_rfl) (by kernel_rfl) rfl rfl ?_
 simp only[Tryz.f117]
 simp(maxDischargeDepth:=30)only[AA,↓reduceIte,Q1,Q2,Q3,Q4,reduceCtorEq,Q5,Q6,Q7,fT,hk,e]
 exact⟨by rw[hi],fr⟩
set_option maxRecDepth 10000 in
theorem Hv {h:Heap} (hk:HOK h) {v fv:Value} {xs:List WordV} (g:WordV ->Bool) (hv:LS h v xs WordV.cells 3) (hl:xs.length<=1000)
  (hcl: ∀h1,Fr h h1 -> ∀x∈xs,∃h2,iy CC fv [.agg ⟨x.cells⟩] h1=some (.ret (.bool (g x)) h2 none)/\ Fr h1 h2):
  CW CC 200 [v,fv] h fun r h'=>(∃i:Int,r= .int .i64 i/\ decide (i>=0)=xs.any g)/\ Fr h h':=by
 obtain⟨p,c,rfl,hx⟩:=hv.open
 refine aw Tryz.f200 (by kernel_rfl) (by kernel_rfl) rfl rfl ?_
 simp only[Tryz.f200]
 simp(maxDischargeDepth:=30)only[AA,↓reduceIte,Q1,Q2,Q3,Q4,reduceCtorEq,Q5,Q6,Q7,wD,hk]
 refine eT xs.length (fun m f h'=> ∃i,i<=xs.length/\ m=xs.length -i/\ f 0= .slice p xs.length c/\ f 1=fv/\ f 7= .int .i64 xs.length/\ f 8= .int .i64 i/\ (∀(j:Nat) x,j<i ->xs[j]? =some x ->g x=false)/\ Fr h h')
  ⟨0,by omega,by omega,by simp[aa,aW],by simp[aa,aW],by simp[aa,aW],by simp[aa],fun j x hj=>by omega,Fr.refl hk⟩ ?_
 rintro m f h' ⟨i,hi,rfl,f0,f1,f7,f8,hall,fr⟩ ih
 have hk':=fr.ok
 by_cases hil:i<xs.length
 ·have hlt:=cX hil
  obtain⟨x,g1⟩: ∃x,xs[i]? =some x:=⟨_,List.getElem?_eq_getElem hil⟩
  rcases hx with hx|⟨b,o,sp,row,rfl,hr,hx⟩
  ·rw[hx]at hil;simp at hil
  have k1:aA row (o+i*3) 3=some (x.cells):=(hx i x g1).1
  have hr':=fr.row' hk hr
  obtain⟨h2,e2,fr2⟩:=hcl h' fr x (List.mem_of_getElem? g1)
  cases hg:g x with
  |true=>
   rw[hg]at e2
   simp(maxDischargeDepth:=30)only[AA,↓reduceIte,Q1,Q2,Q3,Q4,reduceCtorEq,Q5,Q6,Q7,wD,hk',f0,f1,f7,f8,hlt,hil,hr',Nat.mul_one,k1,e2]
   refine⟨⟨_,rfl,?_⟩,fr.trans fr2⟩
   rw[show xs.any g=true from List.any_eq_true.2 ⟨x,List.mem_of_getElem? g1,hg⟩];simp
  |false=>
   rw[hg]at e2
   have w:=bp hil hl
   simp(maxDischargeDepth:=30)only[AA,↓reduceIte,Q1,Q2,Q3,Q4,reduceCtorEq,Q5,Q6,Q7,wD,hk',f0,f1,f7,f8,hlt,hil,hr',Nat.mul_one,k1,e2,w]
   refine ih (xs.length -(i+1)) _ _ (by omega) ?_
   exact⟨i+1,by omega,rfl,by simp[aa,f0],by simp[aa,f1],by simp[aa,f7],by simp[aa],eZ g1 hg hall,fr.trans fr2⟩
 ·have he:i=xs.length:=by omega
  subst he
  have hlt:=dL xs.length
  simp(maxDischargeDepth:=30)only[AA,↓reduceIte,Q1,Q2,Q3,Q4,reduceCtorEq,Q5,Q6,Q7,wD,hk',f0,f1,f7,f8,hlt]
  refine⟨⟨_,rfl,?_⟩,fr⟩
  rw[ij rfl hall];simp
theorem Cb {h:Heap} (hk:HOK h) {v fv:Value} {xs:List WordV} (g:WordV ->Bool) (hv:LS h v xs WordV.cells 3) (hl:xs.length<=1000)
  (hcl: ∀h1,Fr h h1 -> ∀x∈xs,∃h2,iy CC fv [.agg ⟨x.cells⟩] h1=some (.ret (.bool (g x)) h2 none)/\ Fr h1 h2):
  CW CC 107 [v,fv] h fun r h'=>r= .bool (xs.any g)/\ Fr h h':=by
 obtain⟨r,h1,e,⟨i,rfl,hi⟩,fr⟩:=Hv hk g hv hl hcl
 refine aw Tryz.f107 (by kernel_rfl) (by kernel_rfl) rfl rfl ?_
 simp only[Tryz.f107]
 simp(maxDischargeDepth:=30)only[AA,↓reduceIte,Q1,Q2,Q3,Q4,reduceCtorEq,Q5,Q6,Q7,fT,hk,e]
 exact⟨by rw[hi],fr⟩
set_option maxRecDepth 10000 in
theorem EC {h:Heap} (hk:HOK h) {v fv:Value} {xs:List Board} (g:Board ->Bool) (hv:LS h v xs Board.cells 5) (hl:xs.length<=1000)
  (hcl: ∀h1,Fr h h1 -> ∀x∈xs,∃h2,iy CC fv [.agg ⟨x.cells⟩] h1=some (.ret (.bool (g x)) h2 none)/\ Fr h1 h2):
  CW CC 232 [v,fv] h fun r h'=>(∃i:Int,r= .int .i64 i/\ decide (i>=0)=xs.any g)/\ Fr h h':=by
 obtain⟨p,c,rfl,hx⟩:=hv.open
 refine aw Tryz.f232 (by kernel_rfl) (by kernel_rfl) rfl rfl ?_
 simp only[Tryz.f232]
 simp(maxDischargeDepth:=30)only[AA,↓reduceIte,Q1,Q2,Q3,Q4,reduceCtorEq,Q5,Q6,Q7,wv,hk]
 refine eT xs.length (fun m f h'=> ∃i,i<=xs.length/\ m=xs.length -i/\ f 0= .slice p xs.length c/\ f 1=fv/\ f 7= .int .i64 xs.length/\ f 8= .int .i64 i/\ (∀(j:Nat) x,j<i ->xs[j]? =some x ->g x=false)/\ Fr h h')
  ⟨0,by omega,by omega,by simp[aa,aW],by simp[aa,aW],by simp[aa,aW],by simp[aa],fun j x hj=>by omega,Fr.refl hk⟩ ?_
 rintro m f h' ⟨i,hi,rfl,f0,f1,f7,f8,hall,fr⟩ ih
 have hk':=fr.ok
 by_cases hil:i<xs.length
 ·have hlt:=cX hil
  obtain⟨x,g1⟩: ∃x,xs[i]? =some x:=⟨_,List.getElem?_eq_getElem hil⟩
  rcases hx with hx|⟨b,o,sp,row,rfl,hr,hx⟩
  ·rw[hx]at hil;simp at hil
  have k1:aA row (o+i*5) 5=some (x.cells):=(hx i x g1).1
  have hr':=fr.row' hk hr
  obtain⟨h2,e2,fr2⟩:=hcl h' fr x (List.mem_of_getElem? g1)
  cases hg:g x with
  |true=>
   rw[hg]at e2
   simp(maxDischargeDepth:=30)only[AA,↓reduceIte,Q1,Q2,Q3,Q4,reduceCtorEq,Q5,Q6,Q7,wv,hk',f0,f1,f7,f8,hlt,hil,hr',Nat.mul_one,k1,e2]
   refine⟨⟨_,rfl,?_⟩,fr.trans fr2⟩
   rw[show xs.any g=true from List.any_eq_true.2 ⟨x,List.mem_of_getElem? g1,hg⟩];simp
  |false=>
   rw[hg]at e2
   have w:=bp hil hl
   simp(maxDischargeDepth:=30)only[AA,↓reduceIte,Q1,Q2,Q3,Q4,reduceCtorEq,Q5,Q6,Q7,wv,hk',f0,f1,f7,f8,hlt,hil,hr',Nat.mul_one,k1,e2,w]
   refine ih (xs.length -(i+1)) _ _ (by omega) ?_
   exact⟨i+1,by omega,rfl,by simp[aa,f0],by simp[aa,f1],by simp[aa,f7],by simp[aa],eZ g1 hg hall,fr.trans fr2⟩
 ·have he:i=xs.length:=by omega
  subst he
  have hlt:=dL xs.length
  simp(maxDischargeDepth:=30)only[AA,↓reduceIte,Q1,Q2,Q3,Q4,reduceCtorEq,Q5,Q6,Q7,wv,hk',f0,f1,f7,f8,hlt]
  refine⟨⟨_,rfl,?_⟩,fr⟩
  rw[ij rfl hall];simp
theorem zf {h:Heap} (hk:HOK h) {v fv:Value} {xs:List Board} (g:Board ->Bool) (hv:LS h v xs Board.cells 5) (hl:xs.length<=1000)
  (hcl: ∀h1,Fr h h1 -> ∀x∈xs,∃h2,iy CC fv [.agg ⟨x.cells⟩] h1=some (.ret (.bool (g x)) h2 none)/\ Fr h1 h2):
  CW CC 137 [v,fv] h fun r h'=>r= .bool (xs.any g)/\ Fr h h':=by
 obtain⟨r,h1,e,⟨i,rfl,hi⟩,fr⟩:=EC hk g hv hl hcl
 refine aw Tryz.f137 (by kernel_rfl) (by kernel_rfl) rfl rfl ?_
 simp only[Tryz.f137]
 simp(maxDischargeDepth:=30)only[AA,↓reduceIte,Q1,Q2,Q3,Q4,reduceCtorEq,Q5,Q6,Q7,fT,hk,e]
 exact⟨by rw[hi],fr⟩
set_option maxRecDepth 10000 in
theorem JL {h:Heap} (hk:HOK h) {v fv:Value} {xs:List Tar} (g:Tar ->Bool) (hv:LS h v xs Tar.cells 5) (hl:xs.length<=1000)
  (hcl: ∀h1,Fr h h1 -> ∀x∈xs,∃h2,iy CC fv [.agg ⟨x.cells⟩] h1=some (.ret (.bool (g x)) h2 none)/\ Fr h1 h2):
  CW CC 233 [v,fv] h fun r h'=>(∃i:Int,r= .int .i64 i/\ decide (i>=0)=xs.any g)/\ Fr h h':=by
 obtain⟨p,c,rfl,hx⟩:=hv.open
 refine aw Tryz.f233 (by kernel_rfl) (by kernel_rfl) rfl rfl ?_
 simp only[Tryz.f233]
 simp(maxDischargeDepth:=30)only[AA,↓reduceIte,Q1,Q2,Q3,Q4,reduceCtorEq,Q5,Q6,Q7,wu,hk]
 refine eT xs.length (fun m f h'=> ∃i,i<=xs.length/\ m=xs.length -i/\ f 0= .slice p xs.length c/\ f 1=fv/\ f 7= .int .i64 xs.length/\ f 8= .int .i64 i/\ (∀(j:Nat) x,j<i ->xs[j]? =some x ->g x=false)/\ Fr h h')
  ⟨0,by omega,by omega,by simp[aa,aW],by simp[aa,aW],by simp[aa,aW],by simp[aa],fun j x hj=>by omega,Fr.refl hk⟩ ?_
 rintro m f h' ⟨i,hi,rfl,f0,f1,f7,f8,hall,fr⟩ ih
 have hk':=fr.ok
 by_cases hil:i<xs.length
 ·have hlt:=cX hil
  obtain⟨x,g1⟩: ∃x,xs[i]? =some x:=⟨_,List.getElem?_eq_getElem hil⟩
  rcases hx with hx|⟨b,o,sp,row,rfl,hr,hx⟩
  ·rw[hx]at hil;simp at hil
  have k1:aA row (o+i*5) 5=some (x.cells):=(hx i x g1).1
  have hr':=fr.row' hk hr
  obtain⟨h2,e2,fr2⟩:=hcl h' fr x (List.mem_of_getElem? g1)
  cases hg:g x with
  |true=>
   rw[hg]at e2
   simp(maxDischargeDepth:=30)only[AA,↓reduceIte,Q1,Q2,Q3,Q4,reduceCtorEq,Q5,Q6,Q7,wu,hk',f0,f1,f7,f8,hlt,hil,hr',Nat.mul_one,k1,e2]
   refine⟨⟨_,rfl,?_⟩,fr.trans fr2⟩
   rw[show xs.any g=true from List.any_eq_true.2 ⟨x,List.mem_of_getElem? g1,hg⟩];simp
  |false=>
   rw[hg]at e2
   have w:=bp hil hl
   simp(maxDischargeDepth:=30)only[AA,↓reduceIte,Q1,Q2,Q3,Q4,reduceCtorEq,Q5,Q6,Q7,wu,hk',f0,f1,f7,f8,hlt,hil,hr',Nat.mul_one,k1,e2,w]
   refine ih (xs.length -(i+1)) _ _ (by omega) ?_
   exact⟨i+1,by omega,rfl,by simp[aa,f0],by simp[aa,f1],by simp[aa,f7],by simp[aa],eZ g1 hg hall,fr.trans fr2⟩
 ·have he:i=xs.length:=by omega
  subst he
  have hlt:=dL xs.length
  simp(maxDischargeDepth:=30)only[AA,↓reduceIte,Q1,Q2,Q3,Q4,reduceCtorEq,Q5,Q6,Q7,wu,hk',f0,f1,f7,f8,hlt]
  refine⟨⟨_,rfl,?_⟩,fr⟩
  rw[ij rfl hall];simp
theorem CR {h:Heap} (hk:HOK h) {v fv:Value} {xs:List Tar} (g:Tar ->Bool) (hv:LS h v xs Tar.cells 5) (hl:xs.length<=1000)
  (hcl: ∀h1,Fr h h1 -> ∀x∈xs,∃h2,iy CC fv [.agg ⟨x.cells⟩] h1=some (.ret (.bool (g x)) h2 none)/\ Fr h1 h2):
  CW CC 140 [v,fv] h fun r h'=>r= .bool (xs.any g)/\ Fr h h':=by
 obtain⟨r,h1,e,⟨i,rfl,hi⟩,fr⟩:=JL hk g hv hl hcl
 refine aw Tryz.f140 (by kernel_rfl) (by kernel_rfl) rfl rfl ?_
 simp only[Tryz.f140]
 simp(maxDischargeDepth:=30)only[AA,↓reduceIte,Q1,Q2,Q3,Q4,reduceCtorEq,Q5,Q6,Q7,fT,hk,e]
 exact⟨by rw[hi],fr⟩
set_option maxRecDepth 10000 in
theorem Hw {h:Heap} (hk:HOK h) {v fv:Value} {xs:List Sp} (g:Sp ->Bool) (hv:LS h v xs Sp.cells 2) (hl:xs.length<=1000)
  (hcl: ∀h1,Fr h h1 -> ∀x∈xs,∃h2,iy CC fv [.agg ⟨x.cells⟩] h1=some (.ret (.bool (g x)) h2 none)/\ Fr h1 h2):
  CW CC 264 [v,fv] h fun r h'=>(∃i:Int,r= .int .i64 i/\ decide (i>=0)=xs.any g)/\ Fr h h':=by
 obtain⟨p,c,rfl,hx⟩:=hv.open
 refine aw Tryz.f264 (by kernel_rfl) (by kernel_rfl) rfl rfl ?_
 simp only[Tryz.f264]
 simp(maxDischargeDepth:=30)only[AA,↓reduceIte,Q1,Q2,Q3,Q4,reduceCtorEq,Q5,Q6,Q7,wt,hk]
 refine eT xs.length (fun m f h'=> ∃i,i<=xs.length/\ m=xs.length -i/\ f 0= .slice p xs.length c/\ f 1=fv/\ f 7= .int .i64 xs.length/\ f 8= .int .i64 i/\ (∀(j:Nat) x,j<i ->xs[j]? =some x ->g x=false)/\ Fr h h')
  ⟨0,by omega,by omega,by simp[aa,aW],by simp[aa,aW],by simp[aa,aW],by simp[aa],fun j x hj=>by omega,Fr.refl hk⟩ ?_
 rintro m f h' ⟨i,hi,rfl,f0,f1,f7,f8,hall,fr⟩ ih
 have hk':=fr.ok
 by_cases hil:i<xs.length
 ·have hlt:=cX hil
  obtain⟨x,g1⟩: ∃x,xs[i]? =some x:=⟨_,List.getElem?_eq_getElem hil⟩
  rcases hx with hx|⟨b,o,sp,row,rfl,hr,hx⟩
  ·rw[hx]at hil;simp at hil
  have k1:aA row (o+i*2) 2=some (x.cells):=(hx i x g1).1
  have hr':=fr.row' hk hr
  obtain⟨h2,e2,fr2⟩:=hcl h' fr x (List.mem_of_getElem? g1)
  cases hg:g x with
  |true=>
   rw[hg]at e2
   simp(maxDischargeDepth:=30)only[AA,↓reduceIte,Q1,Q2,Q3,Q4,reduceCtorEq,Q5,Q6,Q7,wt,hk',f0,f1,f7,f8,hlt,hil,hr',Nat.mul_one,k1,e2]
   refine⟨⟨_,rfl,?_⟩,fr.trans fr2⟩
   rw[show xs.any g=true from List.any_eq_true.2 ⟨x,List.mem_of_getElem? g1,hg⟩];simp
  |false=>
   rw[hg]at e2
   have w:=bp hil hl
   simp(maxDischargeDepth:=30)only[AA,↓reduceIte,Q1,Q2,Q3,Q4,reduceCtorEq,Q5,Q6,Q7,wt,hk',f0,f1,f7,f8,hlt,hil,hr',Nat.mul_one,k1,e2,w]
   refine ih (xs.length -(i+1)) _ _ (by omega) ?_
   exact⟨i+1,by omega,rfl,by simp[aa,f0],by simp[aa,f1],by simp[aa,f7],by simp[aa],eZ g1 hg hall,fr.trans fr2⟩
 ·have he:i=xs.length:=by omega
  subst he
  have hlt:=dL xs.length
  simp(maxDischargeDepth:=30)only[AA,↓reduceIte,Q1,Q2,Q3,Q4,reduceCtorEq,Q5,Q6,Q7,wt,hk',f0,f1,f7,f8,hlt]
  refine⟨⟨_,rfl,?_⟩,fr⟩
  rw[ij rfl hall];simp
theorem Cc {h:Heap} (hk:HOK h) {v fv:Value} {xs:List Sp} (g:Sp ->Bool) (hv:LS h v xs Sp.cells 2) (hl:xs.length<=1000)
  (hcl: ∀h1,Fr h h1 -> ∀x∈xs,∃h2,iy CC fv [.agg ⟨x.cells⟩] h1=some (.ret (.bool (g x)) h2 none)/\ Fr h1 h2):
  CW CC 214 [v,fv] h fun r h'=>r= .bool (xs.any g)/\ Fr h h':=by
 obtain⟨r,h1,e,⟨i,rfl,hi⟩,fr⟩:=Hw hk g hv hl hcl
 refine aw Tryz.f214 (by kernel_rfl) (by kernel_rfl) rfl rfl ?_
 simp only[Tryz.f214]
 simp(maxDischargeDepth:=30)only[AA,↓reduceIte,Q1,Q2,Q3,Q4,reduceCtorEq,Q5,Q6,Q7,fT,hk,e]
 exact⟨by rw[hi],fr⟩
set_option maxRecDepth 10000 in
theorem Hx {h:Heap} (hk:HOK h) {v fv:Value} {xs:List CoatC} (g:CoatC ->Bool) (hv:LS h v xs CoatC.cells 2) (hl:xs.length<=1000)
  (hcl: ∀h1,Fr h h1 -> ∀x∈xs,∃h2,iy CC fv [.agg ⟨x.cells⟩] h1=some (.ret (.bool (g x)) h2 none)/\ Fr h1 h2):
  CW CC 265 [v,fv] h fun r h'=>(∃i:Int,r= .int .i64 i/\ decide (i>=0)=xs.any g)/\ Fr h h':=by
 obtain⟨p,c,rfl,hx⟩:=hv.open
 refine aw Tryz.f265 (by kernel_rfl) (by kernel_rfl) rfl rfl ?_
 simp only[Tryz.f265]
 simp(maxDischargeDepth:=30)only[AA,↓reduceIte,Q1,Q2,Q3,Q4,reduceCtorEq,Q5,Q6,Q7,wr,hk]
 refine eT xs.length (fun m f h'=> ∃i,i<=xs.length/\ m=xs.length -i/\ f 0= .slice p xs.length c/\ f 1=fv/\ f 7= .int .i64 xs.length/\ f 8= .int .i64 i/\ (∀(j:Nat) x,j<i ->xs[j]? =some x ->g x=false)/\ Fr h h')
  ⟨0,by omega,by omega,by simp[aa,aW],by simp[aa,aW],by simp[aa,aW],by simp[aa],fun j x hj=>by omega,Fr.refl hk⟩ ?_
 rintro m f h' ⟨i,hi,rfl,f0,f1,f7,f8,hall,fr⟩ ih
 have hk':=fr.ok
 by_cases hil:i<xs.length
 ·have hlt:=cX hil
  obtain⟨x,g1⟩: ∃x,xs[i]? =some x:=⟨_,List.getElem?_eq_getElem hil⟩
  rcases hx with hx|⟨b,o,sp,row,rfl,hr,hx⟩
  ·rw[hx]at hil;simp at hil
  have k1:aA row (o+i*2) 2=some (x.cells):=(hx i x g1).1
  have hr':=fr.row' hk hr
  obtain⟨h2,e2,fr2⟩:=hcl h' fr x (List.mem_of_getElem? g1)
  cases hg:g x with
  |true=>
   rw[hg]at e2
   simp(maxDischargeDepth:=30)only[AA,↓reduceIte,Q1,Q2,Q3,Q4,reduceCtorEq,Q5,Q6,Q7,wr,hk',f0,f1,f7,f8,hlt,hil,hr',Nat.mul_one,k1,e2]
   refine⟨⟨_,rfl,?_⟩,fr.trans fr2⟩
   rw[show xs.any g=true from List.any_eq_true.2 ⟨x,List.mem_of_getElem? g1,hg⟩];simp
  |false=>
   rw[hg]at e2
   have w:=bp hil hl
   simp(maxDischargeDepth:=30)only[AA,↓reduceIte,Q1,Q2,Q3,Q4,reduceCtorEq,Q5,Q6,Q7,wr,hk',f0,f1,f7,f8,hlt,hil,hr',Nat.mul_one,k1,e2,w]
   refine ih (xs.length -(i+1)) _ _ (by omega) ?_
   exact⟨i+1,by omega,rfl,by simp[aa,f0],by simp[aa,f1],by simp[aa,f7],by simp[aa],eZ g1 hg hall,fr.trans fr2⟩
 ·have he:i=xs.length:=by omega
  subst he
  have hlt:=dL xs.length
  simp(maxDischargeDepth:=30)only[AA,↓reduceIte,Q1,Q2,Q3,Q4,reduceCtorEq,Q5,Q6,Q7,wr,hk',f0,f1,f7,f8,hlt]
  refine⟨⟨_,rfl,?_⟩,fr⟩
  rw[ij rfl hall];simp
theorem Ce {h:Heap} (hk:HOK h) {v fv:Value} {xs:List CoatC} (g:CoatC ->Bool) (hv:LS h v xs CoatC.cells 2) (hl:xs.length<=1000)
  (hcl: ∀h1,Fr h h1 -> ∀x∈xs,∃h2,iy CC fv [.agg ⟨x.cells⟩] h1=some (.ret (.bool (g x)) h2 none)/\ Fr h1 h2):
  CW CC 215 [v,fv] h fun r h'=>r= .bool (xs.any g)/\ Fr h h':=by
 obtain⟨r,h1,e,⟨i,rfl,hi⟩,fr⟩:=Hx hk g hv hl hcl
 refine aw Tryz.f215 (by kernel_rfl) (by kernel_rfl) rfl rfl ?_
 simp only[Tryz.f215]
 simp(maxDischargeDepth:=30)only[AA,↓reduceIte,Q1,Q2,Q3,Q4,reduceCtorEq,Q5,Q6,Q7,fT,hk,e]
 exact⟨by rw[hi],fr⟩
end Go.Am

namespace Go.Am
open Go Go.Proofs
def oH:=A2 @pH<|A2 @vM<|A2 @sV<|A2 @cM<|A2 @Bw<|A2 @Dx<|A2 @uj @Bt
def sa:=A2 @cG<|A2 @cS<|A2 @cA<|A2 @bJ<|A2 @aV<|A2 @ba<|A2 @bm @bh
def Sp.dryOK (x:Sp):Bool:=cL x.lo 0 24&&cL x.hi x.lo 24
def CoatC.ok (c:CoatC):Bool:=cL c.need 1 288&&cL c.peel c.need 400
def AT (l:List Int):Bool:=(List.range l.length).all fun i=>i==0||decide (l.getD (i -1) 0<l.getD i 0)
def CoatS.ok (s:CoatS):Bool:=cL s.dry.length 1 12&&(cL s.coats.length 1 5&&(!(s.dry.any fun x=> !x.dryOK)&&(!(s.coats.any fun c=> !c.ok)&&(AT s.work&& !(s.work.any fun n=> !cL n 0 (s.dry.length -1))))))
theorem GM {l:List Int} {i:Nat} (hi:i<l.length) (h0:i≠0) (h: ¬l.getD (i -1) 0<l.getD i 0):AT l=false:=by
 unfold AT
 rw[List.all_eq_false]
 exact⟨i,by simpa using hi,by simp[h0];simpa using h⟩
theorem I8 {l:List Int} (h: ∀i,i<l.length ->i≠0 ->l.getD (i -1) 0<l.getD i 0):AT l=true:=by
 unfold AT
 rw[List.all_eq_true]
 intro i hi
 have hi:i<l.length:=by simpa using hi
 by_cases h0:i=0
 ·simp[h0]
 ·simpa[h0]using h i hi h0
theorem TL (x:Sp) (h:Heap) (hk:HOK h):CW CC 211 [.agg ⟨x.cells⟩] h fun v h'=>v= .bool (!x.dryOK)/\ Fr h h':=by
 obtain⟨lo,hi⟩:=x
 refine aw Tryz.f211 (by kernel_rfl) (by kernel_rfl) rfl rfl ?_
 simp only[Tryz.f211,Sp.cells]
 cases c1:cL lo 0 24 with
 |false=>
  simp(maxDischargeDepth:=30)only[AA,↓reduceIte,Q1,Q2,Q3,Q4,reduceCtorEq,Q5,Q6,Q7,iR,iQ,cS,hk,jr,c1]
  exact⟨by simp[Sp.dryOK,c1],(Fr.refl hk).alloc _⟩
 |true=>
  simp(maxDischargeDepth:=30)only[AA,↓reduceIte,Q1,Q2,Q3,Q4,reduceCtorEq,Q5,Q6,Q7,iR,iQ,cS,hk,jr,c1]
  exact⟨by simp[Sp.dryOK,c1],(Fr.refl hk).alloc _⟩
theorem TM (x:CoatC) (h:Heap) (hk:HOK h):CW CC 213 [.agg ⟨x.cells⟩] h fun v h'=>v= .bool (!x.ok)/\ Fr h h':=by
 obtain⟨lo,hi⟩:=x
 refine aw Tryz.f213 (by kernel_rfl) (by kernel_rfl) rfl rfl ?_
 simp only[Tryz.f213,CoatC.cells]
 cases c1:cL lo 1 288 with
 |false=>
  simp(maxDischargeDepth:=30)only[AA,↓reduceIte,Q1,Q2,Q3,Q4,reduceCtorEq,Q5,Q6,Q7,BS,BR,cS,hk,jr,c1]
  exact⟨by simp[CoatC.ok,c1],(Fr.refl hk).alloc _⟩
 |true=>
  simp(maxDischargeDepth:=30)only[AA,↓reduceIte,Q1,Q2,Q3,Q4,reduceCtorEq,Q5,Q6,Q7,BS,BR,cS,hk,jr,c1]
  exact⟨by simp[CoatC.ok,c1],(Fr.refl hk).alloc _⟩
theorem JH (p q r:Option Addr) (a b c d e f:Nat) (x:Int) (h:Heap) (hk:HOK h) (ha:a<=1000):CW CC 218 [.agg ⟨[.slice p a b, .slice q c d, .slice r e f]⟩, .int .i64 x] h fun v h'=>v= .bool (cL x 0 (a -1))/\ Fr h h':=by
 refine aw Tryz.f218 (by kernel_rfl) (by kernel_rfl) rfl rfl ?_
 simp only[Tryz.f218]
 simp(maxDischargeDepth:=30)only[AA,↓reduceIte,Q1,Q2,Q3,Q4,reduceCtorEq,Q5,Q6,Q7,pH,Bw,uj,hk,bG (n:=(a:Int) -1) (by omega) (by omega),jr]
 exact⟨trivial,(Fr.refl hk).alloc _⟩
theorem Jm {h:Heap} (hk:HOK h) (x:Int) (b:Nat) (p q r:Option Addr) (n1 n2 n3 c1 c2 c3:Nat) (hr:rowAt h b=some [.slice p n1 c1, .slice q n2 c2, .slice r n3 c3]) (hn:n1<=1000):
  CW CC 217 [.int .i64 x, .pointer (some ⟨b,0,none⟩)] h fun v h'=>v= .bool (!(cL x 0 (n1 -1)))/\ Fr h h':=by
 refine aw Tryz.f217 (by kernel_rfl) (by kernel_rfl) rfl rfl ?_
 simp only[Tryz.f217]
 obtain⟨_,h2,e2,rfl,fr2⟩:=JH p q r n1 c1 n2 c2 n3 c3 x h hk hn
 have hb:=af hk hr
 simp(maxDischargeDepth:=30)only[AA,↓reduceIte,Q1,Q2,Q3,Q4,reduceCtorEq,Q5,Q6,Q7,lO,hk,hb,hr,e2]
 exact⟨trivial,fr2⟩
set_option maxRecDepth 10000 in
theorem I7 {h:Heap} (hk:HOK h) {v:Value} {xs:List Int} (hv:LS h v xs aQ 1) (hl:xs.length<=1000):
  CW CC 216 [v] h fun r h'=>r= .bool (AT xs)/\ Fr h h':=by
 obtain⟨p,c,rfl,hx⟩:=hv.open
 refine aw Tryz.f216 (by kernel_rfl) (by kernel_rfl) rfl rfl ?_
 simp only[Tryz.f216]
 simp(maxDischargeDepth:=30)only[AA,↓reduceIte,Q1,Q2,Q3,Q4,reduceCtorEq,Q5,Q6,Q7,sa,hk]
 refine eT xs.length (fun m f h'=> ∃i,i<=xs.length/\ m=xs.length -i/\ f 0= .slice p xs.length c/\ f 5= .slice p xs.length c/\ f 6= .int .i64 xs.length/\ f 7= .int .i64 i/\ (∀j,j<i ->j≠0 ->xs.getD (j -1) 0<xs.getD j 0)/\ h'=h)
  ⟨0,by omega,by omega,by simp[aa,aW],by simp[aa,aW],by simp[aa,aW],by simp[aa],fun j hj=>by omega,rfl⟩ ?_
 rintro m f h' ⟨i,hi,rfl,f0,f5,f6,f7,hall,rfl⟩ ih
 by_cases hil:i<xs.length
 ·have hlt:=cX hil
  obtain⟨x,g1⟩: ∃x,xs[i]? =some x:=⟨_,List.getElem?_eq_getElem hil⟩
  rcases hx with hx|⟨b,o,sp,row,rfl,hr,hx⟩
  ·rw[hx]at hil;simp at hil
  have k1:row[o+i]? =some (.int .i64 x):=by simpa[aQ]using(hx _ _ g1).2 0 (by omega)
  have hb:=af hk hr
  have w:=bp hil hl
  have gx:xs.getD i 0=x:=by simp[List.getD_eq_getElem?_getD,g1]
  by_cases h0:i=0
  ·have z:decide ((i:Int)>0)=false:=by simp;omega
   simp(maxDischargeDepth:=30)only[AA,↓reduceIte,Q1,Q2,Q3,Q4,reduceCtorEq,Q5,Q6,Q7,sa,hk,f0,f5,f6,f7,hlt,hil,hr,hb,Nat.mul_one,k1,z,w]
   refine ih (xs.length -(i+1)) _ _ (by omega) ?_
   exact⟨i+1,by omega,rfl,by simp[aa,f0],by simp[aa,f5],by simp[aa,f6],by simp[aa],fun j hj h1=>by omega,rfl⟩
  ·have z:decide ((i:Int)>0)=true:=by simp;omega
   have hi1:i -1<xs.length:=by omega
   obtain⟨y,g2⟩: ∃y,xs[i -1]? =some y:=⟨_,List.getElem?_eq_getElem hi1⟩
   have k2:row[o+(i -1)]? =some (.int .i64 y):=by simpa[aQ]using(hx _ _ g2).2 0 (by omega)
   have gy:xs.getD (i -1) 0=y:=by simp[List.getD_eq_getElem?_getD,g2]
   have w1:IntKind.i64.wrap ((i:Int) -1)=((i -1:Nat):Int):=by rw[bG (by omega) (by omega)];omega
   by_cases hxy:x<=y
   ·have z2:decide (x<=y)=true:=by simpa using hxy
    simp(maxDischargeDepth:=30)only[AA,↓reduceIte,Q1,Q2,Q3,Q4,reduceCtorEq,Q5,Q6,Q7,sa,hk,f0,f5,f6,f7,hlt,hil,hi1,hr,hb,Nat.mul_one,k1,k2,z,w1,z2]
    exact⟨by rw[GM hil h0 (by rw[gx,gy];omega)],Fr.refl hk⟩
   ·have z2:decide (x<=y)=false:=by simpa using hxy
    simp(maxDischargeDepth:=30)only[AA,↓reduceIte,Q1,Q2,Q3,Q4,reduceCtorEq,Q5,Q6,Q7,sa,hk,f0,f5,f6,f7,hlt,hil,hi1,hr,hb,Nat.mul_one,k1,k2,z,w1,z2,w]
    refine ih (xs.length -(i+1)) _ _ (by omega) ?_
    refine⟨i+1,by omega,rfl,by simp[aa,f0],by simp[aa,f5],by simp[aa,f6],by simp[aa],fun j hj h1=> ?_,rfl⟩
    by_cases hji:j<i
    ·exact hall j hji h1
    ·have:j=i:=by omega
     subst this
     rw[gx,gy];omega
 ·have he:i=xs.length:=by omega
  subst he
  have hlt:=dL xs.length
  simp(maxDischargeDepth:=30)only[AA,↓reduceIte,Q1,Q2,Q3,Q4,reduceCtorEq,Q5,Q6,Q7,sa,hk,f0,f5,f6,f7,hlt]
  exact⟨by rw[I8 hall],Fr.refl hk⟩
set_option maxRecDepth 10000 in
theorem EA {h:Heap} (hk:HOK h) {a b c:Value} {s:CoatS} (hs:IsCoats h a b c s) (hw:s.work.length<=1000):
  CW CC 112 [.agg ⟨[a,b,c]⟩] h fun r h'=>r= .bool s.ok/\ Fr h h':=by
 obtain⟨p1,c1,rfl,_⟩:=hs.dry.open
 obtain⟨p2,c2,rfl,_⟩:=hs.work.open
 obtain⟨p3,c3,rfl,_⟩:=hs.coats.open
 refine aw Tryz.f112 (by kernel_rfl) (by kernel_rfl) rfl rfl ?_
 simp only[Tryz.f112]
 cases i1:cL s.dry.length 1 12 with
 |false=>
  simp(maxDischargeDepth:=30)only[AA,↓reduceIte,Q1,Q2,Q3,Q4,reduceCtorEq,Q5,Q6,Q7,oH,hk,jr,i1]
  exact⟨by simp[CoatS.ok,i1],(Fr.refl hk).alloc _⟩
 |true=>
 cases i2:cL s.coats.length 1 5 with
 |false=>
  simp(maxDischargeDepth:=30)only[AA,↓reduceIte,Q1,Q2,Q3,Q4,reduceCtorEq,Q5,Q6,Q7,oH,hk,jr,i1,i2]
  exact⟨by simp[CoatS.ok,i1,i2],(Fr.refl hk).alloc _⟩
 |true=>
 have j1:=of_decide_eq_true i1
 have j2:=of_decide_eq_true i2
 have f1:Fr h (h.alloc (.row [.slice p1 s.dry.length c1, .slice p2 s.work.length c2, .slice p3 s.coats.length c3] 0 true)):=(Fr.refl hk).alloc _
 have r1:rowAt (h.alloc (.row [.slice p1 s.dry.length c1, .slice p2 s.work.length c2, .slice p3 s.coats.length c3] 0 true)) h.next=some [.slice p1 s.dry.length c1, .slice p2 s.work.length c2, .slice p3 s.coats.length c3]:=fW _ _ _ _
 obtain⟨_,h2,e2,rfl,fr2⟩:=Cc f1.ok (v:= .slice p1 s.dry.length c1) (fv:= .func (.func 211) #[] #[]) (xs:=s.dry) (fun x=> !x.dryOK) (hs.dry.fr hk f1) (by omega) (fun h1 f x _=>by
  obtain⟨_,h2',e',rfl,fr'⟩:=TL x h1 f.ok
  exact⟨h2',by rw[ju];exact e',fr'⟩)
 have f2:=f1.trans fr2
 have r2:=fr2.row' f1.ok r1
 cases i4:(s.dry.any fun x=> !x.dryOK)with
 |true=>
  rw[i4]at e2
  simp(maxDischargeDepth:=30)only[AA,↓reduceIte,Q1,Q2,Q3,Q4,reduceCtorEq,Q5,Q6,Q7,oH,hk,jr,i1,i2,e2]
  exact⟨by simp[CoatS.ok,i4],f2⟩
 |false=>
 rw[i4]at e2
 obtain⟨_,h3,e3,rfl,fr3⟩:=Ce f2.ok (v:= .slice p3 s.coats.length c3) (fv:= .func (.func 213) #[] #[]) (xs:=s.coats) (fun b=> !b.ok) (hs.coats.fr hk f2) (by omega) (fun h1 f x _=>by
  obtain⟨_,h2',e',rfl,fr'⟩:=TM x h1 f.ok
  exact⟨h2',by rw[ju];exact e',fr'⟩)
 have f3:=f2.trans fr3
 have r3:=fr3.row' f2.ok r2
 cases i5:(s.coats.any fun b=> !b.ok)with
 |true=>
  rw[i5]at e3
  simp(maxDischargeDepth:=30)only[AA,↓reduceIte,Q1,Q2,Q3,Q4,reduceCtorEq,Q5,Q6,Q7,oH,hk,jr,i1,i2,e2,r2,e3]
  exact⟨by simp[CoatS.ok,i5],f3⟩
 |false=>
 rw[i5]at e3
 obtain⟨_,h4,e4,rfl,fr4⟩:=I7 f3.ok (v:= .slice p2 s.work.length c2) (hs.work.fr hk f3) hw
 have f4:=f3.trans fr4
 have r4:=fr4.row' f3.ok r3
 cases i6:AT s.work with
 |false=>
  rw[i6]at e4
  simp(maxDischargeDepth:=30)only[AA,↓reduceIte,Q1,Q2,Q3,Q4,reduceCtorEq,Q5,Q6,Q7,oH,hk,jr,i1,i2,e2,r2,e3,r3,e4]
  exact⟨by simp[CoatS.ok,i6],f4⟩
 |true=>
 rw[i6]at e4
 obtain⟨_,h5,e5,rfl,fr5⟩:=fX f4.ok (v:= .slice p2 s.work.length c2) (fv:= .func (.func 217) ⟨[]⟩ ⟨[.pointer (some ⟨h.next,0,none⟩)]⟩) (xs:=s.work) (fun n=> !cL n 0 (s.dry.length -1)) (hs.work.fr hk f4) hw (fun h1 f x _=>by
  obtain⟨_,h2',e',rfl,fr'⟩:=Jm f.ok x h.next p1 p2 p3 _ _ _ c1 c2 c3 (f.row' f4.ok r4) (by omega)
  exact⟨h2',by rw[ff];exact e',fr'⟩)
 have f5:=f4.trans fr5
 simp(maxDischargeDepth:=30)only[AA,↓reduceIte,Q1,Q2,Q3,Q4,reduceCtorEq,Q5,Q6,Q7,oH,hk,jr,i1,i2,e2,r2,e3,r3,e4,r4,e5]
 exact⟨by simp[CoatS.ok,i1,i2,i4,i5,i6],f5⟩
end Go.Am
