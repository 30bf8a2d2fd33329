/- Parts V111, V112 of the abstract machine over this program, joined: what each part says stands at its head. -/
import Derived.Test.YtlflfbnnjlkkcaaGreatJV108
set_option linter.unusedSimpArgs false
set_option linter.unusedVariables false
set_option linter.defProp false
open Nat renaming reduceLT→Q1,reduceEqDiff→Q2,reduceAdd→Q3,reduceMul→Q4,reduceLeDiff→Q5
open Int renaming reduceNe→Q6,reduceEq→Q7
namespace Go.Am
open Go Go.Proofs
def dO:=A2 @eF<|A2 @xJ<|A2 @DN<|A2 @xI<|A2 @DM<|A2 @xH<|A2 @xG<|A2 @xF<|A2 @DL<|A2 @xE<|A2 @xD<|A2 @Sj<|A2 @lU<|A2 @HM<|A2 @RY<|A2 @RX<|A2 @RW<|A2 @RV<|A2 @HL<|A2 @pG<|A2 @kR<|A2 @vJ<|A2 @vH<|A2 @pD<|A2 @vG<|A2 @cG<|A2 @YJ<|A2 @cM<|A2 @YD<|A2 @lO<|A2 @vA<|A2 @Ld<|A2 @XG<|A2 @cA<|A2 @xj<|A2 @bJ<|A2 @PQ<|A2 @aV<|A2 @PN<|A2 @PM<|A2 @ba<|A2 @u5<|A2 @Pj<|A2 @Pi<|A2 @Ph<|A2 @Pg<|A2 @Pf<|A2 @Pe<|A2 @Pd<|A2 @Pc<|A2 @Pb<|A2 @Pa<|A2 @UZ<|A2 @bm<|A2 @KH<|A2 @N9<|A2 @bh<|A2 @N6 @KB
def yx:=A2 @eF<|A2 @Si<|A2 @Wc<|A2 @YR<|A2 @cG<|A2 @YP<|A2 @cS<|A2 @ld_52<|A2 @ld_77<|A2 @XG<|A2 @VR<|A2 @cA<|A2 @bJ<|A2 @Vz<|A2 @PU<|A2 @aV<|A2 @ba<|A2 @u5<|A2 @Ea<|A2 @bm<|A2 @Ob<|A2 @bh @KB
theorem sd0_a (S:SuiteD) (u:SuiteV):(S.desk0 u)[0]? =some (.bool true):=rfl
theorem sd0_b (S:SuiteD) (u:SuiteV):aA (S.desk0 u) 1 35=some (S.cells u):=rfl
theorem sd0_c (S:SuiteD) (u:SuiteV):(S.desk0 u)[36]? =some (.slice none 0 0):=rfl
def SuiteD.stR (S:SuiteD) (u:SuiteV) (m:Nat) (pl ha ho pa:Value):List Value:=S.cells u++[.int .i64 0,pl, .int .i64 0, .map (some m),ha,ho, .int .i64 (-1),pa, .slice none 0 0]
section
variable (S:SuiteD) (u:SuiteV) (m:Nat) (pl ha ho pa x:Value)
theorem sr_t:aA (S.stR u m pl ha ho pa) 0 10=some (S.front.cells ⟨u.w,u.pr,u.wd⟩):=rfl
theorem sr_10:aA (S.stR u m pl ha ho pa) 10 3=some [u.dry,u.wk,u.ct]:=rfl
theorem sr_13:aA (S.stR u m pl ha ho pa) 13 2=some [.int .i64 S.board.names,u.sp]:=rfl
theorem sr_15:aA (S.stR u m pl ha ho pa) 15 3=some [.int .i64 S.bench.app,u.bo,u.st]:=rfl
theorem sr_16:(S.stR u m pl ha ho pa)[16]? =some u.bo:=rfl
theorem sr_17:(S.stR u m pl ha ho pa)[17]? =some u.st:=rfl
theorem sr_32:(S.stR u m pl ha ho pa)[32]? =some u.of:=rfl
theorem sr_36:(S.stR u m pl ha ho pa)[36]? =some pl:=rfl
theorem sr_38:(S.stR u m pl ha ho pa)[38]? =some (.map (some m)):=rfl
theorem sr_43:(S.stR u m pl ha ho pa)[43]? =some (.slice none 0 0):=rfl
theorem sr_n:(S.stR u m pl ha ho pa).length=44:=rfl
theorem XA:(S.stR u m pl ha ho pa).set 36 x=S.stR u m x ha ho pa:=rfl
theorem Xz:(S.stR u m pl ha ho pa).set 39 x=S.stR u m pl x ho pa:=rfl
theorem Xy:(S.stR u m pl ha ho pa).set 40 x=S.stR u m pl ha x pa:=rfl
theorem Xx:(S.stR u m pl ha ho pa).set 42 x=S.stR u m pl ha ho x:=rfl
end
def SR:=A2 @sr_t<|A2 @sr_10<|A2 @sr_13<|A2 @sr_15<|A2 @sr_16<|A2 @sr_17<|A2 @sr_32<|A2 @sr_36<|A2 @sr_38<|A2 @sr_43<|A2 @sr_n<|A2 @XA<|A2 @Xz<|A2 @Xy @Xx
theorem TD (S:SuiteD) (u:SuiteV) (m:Nat):cJ CC 257 [(0, .agg ⟨S.cells u⟩),(4, .map (some m)),(7, .int .i64 (-1))]=some (.agg ⟨S.stR u m (.slice none 0 0) (.slice none 0 0) (.slice none 0 0) (.slice none 0 0)⟩):=by kernel_rfl
theorem IQ (d:Nat) {h:Heap} (hk:HOK h):cI CC (bH CC) 157 [.pointer (some ⟨d,0,none⟩)] h=some (.ret (.func (.func 238) ⟨[]⟩ ⟨[.pointer (some ⟨h.next,0,none⟩)]⟩) (h.ex [.row [.pointer (some ⟨d,0,none⟩)] 0 true]) none):=by
 refine CW.eq (aw Tryz.f157 (by kernel_rfl) (by kernel_rfl) rfl rfl ?_)
 simp only[Tryz.f157]
 simp(maxDischargeDepth:=30)only[AA,↓reduceIte,Q1,Q2,Q3,Q4,reduceCtorEq,Q5,Q6,Q7,XH,fT,hk]
theorem Me {h:Heap} (hk:HOK h) {l d c:Nat} {S:SuiteD} {u:SuiteV} (rc:rowAt h c=some [.pointer (some ⟨d,0,none⟩)]) (rd:rowAt h d=some (S.desk0 u)):
  CW CC 238 [.func (.yield l) ⟨[]⟩ ⟨[]⟩, .pointer (some ⟨c,0,none⟩)] h fun _ h'=>h'=h:=by
 refine aw Tryz.f238 (by kernel_rfl) (by kernel_rfl) rfl rfl ?_
 simp only[Tryz.f238]
 have dl:decide ((0:Int)<((0:Nat):Int))=false:=rfl
 have nc:=af hk rc
 have nd:=af hk rd
 simp(maxDischargeDepth:=30)only[AA,↓reduceIte,Q1,Q2,Q3,Q4,reduceCtorEq,Q5,Q6,Q7,XH,yx,hk,rc,rd,sd0_c]
 rw[v9]
 simp(maxDischargeDepth:=30)only[AA,↓reduceIte,Q1,Q2,Q3,Q4,reduceCtorEq,Q5,Q6,Q7,XH,yx,hk,dl]
 rw[v9]
 simp(maxDischargeDepth:=30)only[AA,↓reduceIte,Q1,Q2,Q3,Q4,reduceCtorEq,Q5,Q6,Q7,XH,yx,hk,dl,kc]
abbrev YT:Int ->Value:=fun n=> .int .i64 n
abbrev OH:Int ->Value:=fun _=> .bool true
theorem YS:Fx YT OH:=fun x y=>⟨decide (x=y),by
 show(if IntKind.i64=IntKind.i64 then some (x==y)else none)=_
 rw[if_pos rfl]
 by_cases h:x=y<;>simp[h],fun _=>rfl⟩
theorem SuiteD.okD_at {S:SuiteD} (h:S.okD=true):S.bench.ok=true/\ S.prices.ok=true/\ S.front.setP.2.2=0/\ S.coats.firstP.2=0/\ S.board.firstP.2=0:=by
 unfold SuiteD.okD at h
 simp only[Bool.and_eq_true,beq_iff_eq]at h
 obtain⟨h1,_,_,h4,_,h6,h7,h8⟩:=h
 exact⟨h1,h4,h6,h7,h8⟩
structure StA (h:Heap) (X:List Value) (a:Heap):Prop where
 fr:Fr h a
 s:a.get (h.next+1)=some (.row X 0 true)
 c:a.get (h.next+2)=some (.row [.pointer (some ⟨h.next+1,0,none⟩)] 0 true)
 m:HasK YT OH a h.next
theorem StA.w {h a:Heap} {X:List Value} (q:StA h X a):rowAt a (h.next+1)=some X:=by unfold rowAt;rw[q.s];rfl
theorem StA.r {h a:Heap} {X:List Value} (q:StA h X a):rowAt a (h.next+2)=some [.pointer (some ⟨h.next+1,0,none⟩)]:=by unfold rowAt;rw[q.c];rfl
theorem StA.lt {h a:Heap} {X:List Value} (q:StA h X a):h.next+2<a.next:=aF q.fr.ok q.c
theorem StA.go {h a b:Heap} {X:List Value} (q:StA h X a) (f:Fr a b):StA h X b:=⟨q.fr.trans f,f.get' q.fr.ok q.s,f.get' q.fr.ok q.c,q.m.fr q.fr.ok f⟩
theorem StA.set {h a:Heap} {X:List Value} (q:StA h X a) (Y:List Value):StA h Y (a.set (h.next+1) (.row Y 0 true)):=by
 have:=q.lt
 refine⟨q.fr.set (by omega) (by omega) _,am _ _ _,by rw[Heap.get_set_ne _ _ (by omega)];exact q.c,?_⟩
 obtain⟨es,c,e,hm⟩:=q.m
 exact⟨es,c,by rw[Heap.get_set_ne _ _ (by omega)];exact e,hm⟩
theorem StA.put {h a:Heap} {X:List Value} (q:StA h X a) {es:List MapEntry} (c:Nat) (hm:MemoK YT OH es):StA h X (a.set h.next (.map es c)):=by
 have:=q.lt
 exact⟨q.fr.set (Nat.le_refl _) (by omega) _,by rw[Heap.get_set_ne _ _ (by omega)];exact q.s,by rw[Heap.get_set_ne _ _ (by omega)];exact q.c,es,c,am _ _ _,hm⟩
theorem SL.past {N:Nat} {a:Heap} {v:Value} {l:List Value} {s n i:Nat} (q:SL N a v l s n) (hk:HOK a) (hi:i<N) (x:AObj):SL N (a.set i x) v l s n:=
 q.keep fun b hb=>Heap.get_set_ne _ _ (by have:=q.blk_lt hk hb;omega)
set_option maxRecDepth 10000 in
set_option maxHeartbeats 4000000 in
theorem U7 {h:Heap} (hk:HOK h) (hp:0<h.next) {d:Nat} {S:SuiteD} {u0:SuiteV} (D:IsDesk0 h d S u0) (sm:S.Low) (ok:S.okD=true):
  CW CC 63 [.pointer (some ⟨d,0,none⟩)] h fun r h'=>(∃p u' m pl ha ho pa,r= .pointer (some ⟨p,0,none⟩)/\ rowAt h' p=some (S.stR u' m pl ha ho pa)/\ IsSuite (fun _=>True) h' u' S/\ LS h' pl S.coats.firstP.1 aQ 1)/\ Fr h h':=by
 obtain⟨okB,okP,_,okC,_⟩:=SuiteD.okD_at ok
 obtain⟨_,⟨ns1,ns2⟩,_⟩:=Bench.ok_at okB
 have nb:1<=S.bench.boards.length/\ S.bench.boards.length<=3:=by
  unfold Bench.ok at okB
  simp only[Bool.and_eq_true]at okB
  have:=of_decide_eq_true okB.2.1
  omega
 have no:S.prices.offs.length<=6:=by
  unfold Sheet.ok at okP
  simp only[Bool.and_eq_true]at okP
  have:=of_decide_eq_true okP.1
  omega
 have rd:rowAt h d=some (S.desk0 u0):=by unfold rowAt;rw[D.row];rfl
 have nd:=af hk rd
 refine CH Tryz.f63 (by kernel_rfl) (by kernel_rfl) rfl rfl ?_
 simp only[Tryz.f63]
 simp(maxDischargeDepth:=30)only[AA,↓reduceIte,Q1,Q2,Q3,Q4,reduceCtorEq,Q5,Q6,Q7,XH,dO,hk,rd,sd0_b]
 refine aC (XD hk hp D.suite D.sk sm.sm) ?_
 rintro _ h1 ⟨⟨u,rfl,iu,sk⟩,f1⟩
 have iu:IsSuite (fun _=>True) h1 u S:=iu.mono fun _ _=>trivial
 have n1:=f1.next
 have k1:=f1.ok
 obtain⟨p1,c1,e1⟩:=iu.bo.1.len
 obtain⟨p2,c2,e2⟩:=iu.st.len
 obtain⟨p3,c3,e3⟩:=iu.of.1.len
 obtain⟨X,hX⟩: ∃X,X=S.stR u h1.next (.slice none 0 0) (.slice none 0 0) (.slice none 0 0) (.slice none 0 0):=⟨_,rfl⟩
 have qa:StA h1 X (h1.ex [.map [] 0, .row X 0 true, .row [.pointer (some ⟨h1.next+1,0,none⟩)] 0 true]):=
  ⟨aI _ (Fr.refl k1),jd rfl (by simp),jd rfl (by simp),[],0,dG rfl,MemoK.nil⟩
 simp(maxDischargeDepth:=30)only[AA,↓reduceIte,Q1,Q2,Q3,Q4,reduceCtorEq,Q5,Q6,Q7,XH,dO,k1,TD]
 rw[<-hX]
 generalize(h1.ex [.map [] 0, .row X 0 true, .row [.pointer (some ⟨h1.next+1,0,none⟩)] 0 true])=a at qa⊢
 have x10:aA X 10 3=some [u.dry,u.wk,u.ct]:=by rw[hX];rfl
 have xn:X.length=44:=by rw[hX];rfl
 have na:=qa.lt
 refine bR [(true,0),(true,1),(true,2),(true,3),(true,4),(true,5),(true,6),(false,0),(true,7),(true,8),(true,9),(true,10),(true,11),(true,12)] (by kernel_rfl) ?_
 simp(maxDischargeDepth:=30)only[AA,↓reduceIte,Q1,Q2,Q3,Q4,reduceCtorEq,Q5,Q6,Q7,dk,XH,dO,qa.fr.ok,qa.w,qa.r,x10,na]
 refine bk (uC qa.fr.ok (by omega) (iu.coatV.fr k1 qa.fr) sm.work) ?_
 rintro _ b ⟨⟨pl,rfl,so⟩,fb⟩
 obtain⟨ppl,cpl,rfl⟩:=so.value
 have qb:=qa.go fb
 have nb':=qb.lt
 simp(maxDischargeDepth:=30)only[AA,↓reduceIte,Q1,Q2,Q3,Q4,reduceCtorEq,Q5,Q6,Q7,dk,XH,dO,qb.fr.ok,qb.w,qb.r,qb.s,show h1.next+1<b.next by omega,xn,am,iM]
 rw[hX,XA]
 clear hX x10 xn
 obtain⟨X,hX⟩: ∃X,X=S.stR u h1.next (.slice ppl S.coats.firstP.1.length cpl) (.slice none 0 0) (.slice none 0 0) (.slice none 0 0):=⟨_,rfl⟩
 have qc:=qb.set X
 have sc:=so.past fb.ok (show h1.next+1<a.next by omega) (.row X 0 true)
 rw[<-hX]
 generalize(b.set (h1.next+1) (.row X 0 true))=c at qc sc⊢
 have x17:X[17]? =some (.slice p2 S.bench.strokes.length c2):=by rw[hX];exact congrArg some e2
 have xn:X.length=44:=by rw[hX];rfl
 refine bR [(true,0),(true,1),(true,2),(true,3),(true,4),(true,5),(true,6),(true,7),(true,8),(true,9),(false,0),(true,10),(true,11),(true,12)] (by kernel_rfl) ?_
 have fd:=aI [.row [.int .i64 (-1)] 1 true] (Fr.refl qc.fr.ok)
 have qd:=qc.go fd
 have gd:rowAt (c.ex [.row [.int .i64 (-1)] 1 true]) c.next=some [.int .i64 (-1)]:=aZ rfl
 have nc:=qc.lt
 have nd':=qd.lt
 simp(maxDischargeDepth:=30)only[AA,↓reduceIte,Q1,Q2,Q3,Q4,reduceCtorEq,Q5,Q6,Q7,dk,XH,dO,qc.fr.ok,qc.w,qc.r,x17,nc]
 generalize(c.ex [.row [.int .i64 (-1)] 1 true])=d' at fd qd gd nd'⊢
 simp(maxDischargeDepth:=30)only[AA,↓reduceIte,Q1,Q2,Q3,Q4,reduceCtorEq,Q5,Q6,Q7,dk,XH,dO,qd.fr.ok,qd.w,qd.r,x17,nd']
 refine bk (GO qd.fr.ok (by omega) gd (by omega) ns2) ?_
 rintro _ e ⟨sh,fe⟩
 obtain⟨ph,ch,rfl⟩:=sh.value
 have qe:=qd.go fe
 have ne:=qe.lt
 simp(maxDischargeDepth:=30)only[AA,↓reduceIte,Q1,Q2,Q3,Q4,reduceCtorEq,Q5,Q6,Q7,dk,XH,dO,qe.fr.ok,qe.w,qe.r,qe.s,show h1.next+1<e.next by omega,xn,am,iM]
 rw[hX,Xz]
 clear hX x17 xn
 obtain⟨X,hX⟩: ∃X,X=S.stR u h1.next (.slice ppl S.coats.firstP.1.length cpl) (.slice ph S.bench.strokes.length ch) (.slice none 0 0) (.slice none 0 0):=⟨_,rfl⟩
 have qf:=qe.set X
 have sf:=((sc.fr qc.fr.ok fd).fr qd.fr.ok fe).past qe.fr.ok (show h1.next+1<a.next by omega) (.row X 0 true)
 rw[<-hX]
 generalize(e.set (h1.next+1) (.row X 0 true))=f at qf sf⊢
 have x16:X[16]? =some (.slice p1 S.bench.boards.length c1):=by rw[hX];exact congrArg some e1
 have xn:X.length=44:=by rw[hX];rfl
 refine bR [(true,0),(true,1),(true,2),(true,3),(true,4),(true,5),(true,6),(true,7),(true,8),(true,9),(false,0),(true,10),(true,11),(true,12)] (by kernel_rfl) ?_
 have fg:=aI [.row [.int .i64 (-1)] 1 true] (Fr.refl qf.fr.ok)
 have qg:=qf.go fg
 have gg:rowAt (f.ex [.row [.int .i64 (-1)] 1 true]) f.next=some [.int .i64 (-1)]:=aZ rfl
 have nf:=qf.lt
 have ng:=qg.lt
 simp(maxDischargeDepth:=30)only[AA,↓reduceIte,Q1,Q2,Q3,Q4,reduceCtorEq,Q5,Q6,Q7,dk,XH,dO,qf.fr.ok,qf.w,qf.r,x16,nf]
 generalize(f.ex [.row [.int .i64 (-1)] 1 true])=g at fg qg gg ng⊢
 simp(maxDischargeDepth:=30)only[AA,↓reduceIte,Q1,Q2,Q3,Q4,reduceCtorEq,Q5,Q6,Q7,dk,XH,dO,qg.fr.ok,qg.w,qg.r,x16,ng]
 refine bk (GO qg.fr.ok (by omega) gg (by omega) (by omega)) ?_
 rintro _ i ⟨so',fi⟩
 obtain⟨po,co,rfl⟩:=so'.value
 have qi:=qg.go fi
 have ni:=qi.lt
 simp(maxDischargeDepth:=30)only[AA,↓reduceIte,Q1,Q2,Q3,Q4,reduceCtorEq,Q5,Q6,Q7,dk,XH,dO,qi.fr.ok,qi.w,qi.r,qi.s,show h1.next+1<i.next by omega,xn,am,iM]
 rw[hX,Xy]
 clear hX x16 xn
 obtain⟨X,hX⟩: ∃X,X=S.stR u h1.next (.slice ppl S.coats.firstP.1.length cpl) (.slice ph S.bench.strokes.length ch) (.slice po S.bench.boards.length co) (.slice none 0 0):=⟨_,rfl⟩
 have qj:=qi.set X
 have sj:=((sf.fr qf.fr.ok fg).fr qg.fr.ok fi).past qi.fr.ok (show h1.next+1<a.next by omega) (.row X 0 true)
 rw[<-hX]
 generalize(i.set (h1.next+1) (.row X 0 true))=j at qj sj⊢
 have x32:X[32]? =some (.slice p3 S.prices.offs.length c3):=by rw[hX];exact congrArg some e3
 have xn:X.length=44:=by rw[hX];rfl
 refine bR [(true,0),(true,1),(true,2),(true,3),(true,4),(true,5),(true,6),(true,7),(true,8),(true,9),(true,10),(true,11)] (by kernel_rfl) ?_
 have fl:=aI [.row ((List.replicate S.prices.offs.length (0:Int)).flatMap aQ) 1 true] (Fr.refl qj.fr.ok)
 have ql:=qj.go fl
 have nj:=qj.lt
 have nl:=ql.lt
 simp(maxDischargeDepth:=30)only[AA,↓reduceIte,Q1,Q2,Q3,Q4,reduceCtorEq,Q5,Q6,Q7,dk,XH,dO,qj.fr.ok,qj.w,qj.r,x32,nj,mk_6 no]
 generalize(j.ex [.row ((List.replicate S.prices.offs.length (0:Int)).flatMap aQ) 1 true])=l at fl ql nl⊢
 simp(maxDischargeDepth:=30)only[AA,↓reduceIte,Q1,Q2,Q3,Q4,reduceCtorEq,Q5,Q6,Q7,dk,XH,dO,ql.fr.ok,ql.w,ql.r,ql.s,show h1.next+1<l.next by omega,xn,am,iM]
 rw[hX,Xx]
 clear hX x32 xn
 obtain⟨X,hX⟩: ∃X,X=S.stR u h1.next (.slice ppl S.coats.firstP.1.length cpl) (.slice ph S.bench.strokes.length ch) (.slice po S.bench.boards.length co) (.slice (some ⟨j.next,0,some 1⟩) S.prices.offs.length S.prices.offs.length):=⟨_,rfl⟩
 have qm:=ql.set X
 have sm':=(sj.fr qj.fr.ok fl).past ql.fr.ok (show h1.next+1<a.next by omega) (.row X 0 true)
 rw[<-hX]
 generalize(l.set (h1.next+1) (.row X 0 true))=m at qm sm'⊢
 have x17:X[17]? =some (.slice p2 S.bench.strokes.length c2):=by rw[hX];exact congrArg some e2
 have x38:X[38]? =some (.map (some h1.next)):=by rw[hX];rfl
 simp(maxDischargeDepth:=30)only[AA,↓reduceIte,Q1,Q2,Q3,Q4,reduceCtorEq,Q5,Q6,Q7,XH,dO,qm.fr.ok,qm.w,qm.r,x17,qm.lt]
 refine dN [4,69,70,71,72,73,74,75,76,77] 69 S.bench.strokes.length (fun i g h'=>StA h1 X h'/\ SL a.next h' (.slice ppl S.coats.firstP.1.length cpl) (S.coats.firstP.1.flatMap aQ) 1 S.coats.firstP.1.length)
  (by simp only[aa,↓reduceIte]) ⟨qm,sm'⟩ ?_ ?_
 ·rintro i g h' hi ag g69 ⟨q,s⟩ ih
  obtain⟨es,cl,eu,hm⟩:=mU YS KH (i:Int) (by kernel_rfl) q.m
  have lq:=q.lt
  simp(maxDischargeDepth:=30)only[AA,↓reduceIte,Q1,Q2,Q3,Q4,reduceCtorEq,Q5,Q6,Q7,XH,dO,ag.r,NE,g69,q.fr.ok,cX hi,q.w,q.r,x38,lq,eu,bp hi (by omega)]
  exact ih _ _ (by simp only[AG,Nat.reduceEqDiff,ag]) (by simp only[aa,↓reduceIte]) ⟨q.put cl hm,s.past q.fr.ok (by omega) _⟩
 ·rintro g h2 ag g69 ⟨q,s⟩
  simp(maxDischargeDepth:=30)only[AA,↓reduceIte,Q1,Q2,Q3,Q4,reduceCtorEq,Q5,Q6,Q7,XH,dO,ag.r,NE,g69,q.fr.ok,dL,IQ,pW]
  have fq:=f1.trans q.fr
  have fA:=aI [.row [.pointer (some ⟨d,0,none⟩)] 0 true] (Fr.refl q.fr.ok)
  have qA:=q.go fA
  have gA:rowAt (h2.ex [.row [.pointer (some ⟨d,0,none⟩)] 0 true]) h2.next=some [.pointer (some ⟨d,0,none⟩)]:=aZ rfl
  have dA:=(fq.trans fA).row' hk rd
  have sA:=s.fr q.fr.ok fA
  generalize(h2.ex [.row [.pointer (some ⟨d,0,none⟩)] 0 true])=hA at fA qA gA dA sA⊢
  have lA:=qA.lt
  refine rR (P:=fun R _ h'=>h'=(hA.alloc (.deferred true)).alloc (.loop R)) ?_ ?_
  ·intro R hR
   have f4:Fr hA ((hA.alloc (.deferred true)).alloc (.loop R)):=((Fr.refl qA.fr.ok).alloc _).alloc _
   exact Me f4.ok (f4.row' qA.fr.ok gA) (f4.row' qA.fr.ok dA)
  ·rintro R hR rv h' rfl
   have f4:Fr hA ((hA.alloc (.deferred true)).alloc (.loop R)):=((Fr.refl qA.fr.ok).alloc _).alloc _
   have l4:((hA.alloc (.deferred true)).alloc (.loop R)).get (hA.next+1)=some (.loop R):=dr _ (by simp)
   have d4:((hA.alloc (.deferred true)).alloc (.loop R)).get hA.next=some (.deferred true):=by rw[cP _ (by simp)];exact dr _ rfl
   refine⟨R,l4,by rw[hR];rfl,?_⟩
   have hp':R.pending=none:=by rw[hR];rfl
   rw[hp',lQ,nR]
   have f5:=f4.set (by omega) (aF f4.ok l4) (.loop (R.turn .exhausted none))
   have d5:(((hA.alloc (.deferred true)).alloc (.loop R)).set (hA.next+1) (.loop (R.turn .exhausted none))).get hA.next=some (.deferred true):=by rw[Heap.get_set_ne _ _ (by omega)];exact d4
   generalize(((hA.alloc (.deferred true)).alloc (.loop R)).set (hA.next+1) (.loop (R.turn .exhausted none)))=hB at f5 d5⊢
   have qB:=qA.go f5
   simp(maxDischargeDepth:=30)only[AA,↓reduceIte,Q1,Q2,Q3,Q4,reduceCtorEq,Q5,Q6,Q7,XH,dO,f5.ok,NE,ag.r,qB.r,pV]
   have f6:=f5.set (Nat.le_refl _) (aF f5.ok d5) (.deferred false)
   have q6:=qA.go f6
   exact⟨d5,⟨h1.next+1,u,h1.next,_,_,_,_,rfl,by rw[<-hX];exact q6.w,iu.fr k1 q6.fr,(sA.fr qA.fr.ok f6).ls aP⟩,f1.trans q6.fr⟩
end Go.Am

namespace Go.Am
open Go Go.Proofs
def CE:=A2 @Zk<|A2 @BZ<|A2 @BY<|A2 @KU<|A2 @Vj<|A2 @Vi @KA
def kd:=A2 @Lq<|A2 @Lp<|A2 @RI<|A2 @RH<|A2 @RG<|A2 @RF<|A2 @RE<|A2 @RD<|A2 @RC<|A2 @RA<|A2 @cM<|A2 @XI<|A2 @ld_92<|A2 @G3<|A2 @dh<|A2 @AL<|A2 @dP<|A2 @Oy<|A2 @Ox<|A2 @Ow<|A2 @Ov<|A2 @Ou<|A2 @Ot<|A2 @Or<|A2 @Oq @Ai
def oC:=A2 @cG<|A2 @cS<|A2 @cA<|A2 @bJ<|A2 @aV<|A2 @ba<|A2 @bm @bh
set_option maxRecDepth 10000 in
theorem X8 (v w:Value) (l m:List Int) (h:Heap) (hk:HOK h) (hv:LS h v l aQ 1) (hw:LS h w m aQ 1) (hl:l.length<=1000) (hm:m.length<=1000):CW CC 31 [v,w] h fun r h'=>r= .bool (decide (l=m))/\ h'=h:=by
 obtain⟨p,c,rfl,hx⟩:=hv.open
 obtain⟨p',c',rfl,hy⟩:=hw.open
 refine aw Tryz.f31 (by kernel_rfl) (by kernel_rfl) rfl rfl ?_
 simp only[Tryz.f31]
 by_cases hne:(l.length:Int)=m.length
 ·have hne':l.length=m.length:=by omega
  simp(maxDischargeDepth:=30)only[AA,↓reduceIte,Q1,Q2,Q3,Q4,reduceCtorEq,Q5,Q6,Q7,oC,hne,bne_self_eq_false]
  refine eT l.length (fun n f h'=> ∃i,i<=l.length/\ n=l.length -i/\ f 0= .slice p l.length c/\ f 1= .slice p' m.length c'/\ f 5= .int .i64 i/\ l.take i=m.take i/\ h'=h) ⟨0,by omega,by omega,by simp[aa,aW,hne],by simp[aa,aW],by simp[aa],by simp,rfl⟩ ?_
  rintro n f h' ⟨i,hi,rfl,g0,g1,g5,ht,rfl⟩ ih
  by_cases hil:i<l.length
  ·have him:i<m.length:=by omega
   obtain⟨x,gx⟩: ∃x,l[i]? =some x:=⟨_,List.getElem?_eq_getElem hil⟩
   obtain⟨y,gy⟩: ∃y,m[i]? =some y:=⟨_,List.getElem?_eq_getElem him⟩
   rcases hx with hx|⟨b2,o2,sp2,row2,rfl,rr2,x2⟩
   ·rw[hx]at hil;simp at hil
   rcases hy with hy|⟨b4,o4,sp4,row4,rfl,rr4,x4⟩
   ·rw[hy]at him;simp at him
   have e1:row2[o2+i]? =some (.int .i64 x):=by simpa[aQ]using(x2 _ _ gx).2 0 (by omega)
   have e2:row4[o4+i]? =some (.int .i64 y):=by simpa[aQ]using(x4 _ _ gy).2 0 (by omega)
   have n2:=af hk rr2
   have n4:=af hk rr4
   simp(maxDischargeDepth:=30)only[AA,↓reduceIte,Q1,Q2,Q3,Q4,reduceCtorEq,Q5,Q6,Q7,oC,g0,g1,g5,cX hil,hil,him]
   refine bR [(true,0),(true,1),(true,2),(true,3),(true,4),(true,5),(true,6),(true,7),(true,8)] (by kernel_rfl) ?_
   cases hxy:(x !=y)with
   |true=>
    simp(maxDischargeDepth:=30)only[AA,↓reduceIte,Q1,Q2,Q3,Q4,reduceCtorEq,Q5,Q6,Q7,dk,oC,hk,g0,g1,g5,hil,him,n2,n4,rr2,rr4,Nat.mul_one,e1,e2,hxy]
    refine⟨?_,trivial⟩
    have:l≠m:=fun e=>by
     rw[e,gy]at gx
     simp at gx hxy
     exact hxy gx.symm
    simp[this]
   |false=>
    simp(maxDischargeDepth:=30)only[AA,↓reduceIte,Q1,Q2,Q3,Q4,reduceCtorEq,Q5,Q6,Q7,dk,oC,hk,g0,g1,g5,hil,him,n2,n4,rr2,rr4,Nat.mul_one,e1,e2,hxy,bp hil hl]
    refine ih (l.length -(i+1)) _ _ (by omega) ?_
    have hxy':x=y:=by simpa using hxy
    exact⟨i+1,by omega,rfl,by simp[aa,g0],by simp[aa,g1],by simp[aa],by rw[bI gx,bI gy,ht,hxy'],rfl⟩
  ·have:i=l.length:=by omega
   subst this
   simp(maxDischargeDepth:=30)only[AA,↓reduceIte,Q1,Q2,Q3,Q4,reduceCtorEq,Q5,Q6,Q7,oC,g0,g1,g5,dL]
   rw[List.take_of_length_le (Nat.le_refl _),List.take_of_length_le (by omega)]at ht
   exact⟨by simp[ht],trivial⟩
 ·have hb:((l.length:Int) !=m.length)=true:=by simpa using hne
  simp(maxDischargeDepth:=30)only[AA,↓reduceIte,Q1,Q2,Q3,Q4,reduceCtorEq,Q5,Q6,Q7,oC,hb]
  refine⟨?_,trivial⟩
  have:l≠m:=fun e=>hne (by rw[e])
  simp[this]
theorem OI {h:Heap} (hk:HOK h):CW CC 78 [] h fun r h'=>r= .agg ⟨[.func (.func 167) ⟨[]⟩ ⟨[]⟩, .func (.func 168) ⟨[]⟩ ⟨[]⟩, .func (.func 169) ⟨[]⟩ ⟨[]⟩, .func (.func 170) ⟨[]⟩ ⟨[]⟩, .func (.func 171) ⟨[]⟩ ⟨[]⟩, .func (.func 172) ⟨[]⟩ ⟨[]⟩, .func (.func 173) ⟨[]⟩ ⟨[]⟩, .func (.func 174) ⟨[]⟩ ⟨[]⟩, .func (.func 175) ⟨[]⟩ ⟨[]⟩, .func (.func 176) ⟨[]⟩ ⟨[]⟩, .func (.func 177) ⟨[]⟩ ⟨[]⟩, .func (.func 178) ⟨[]⟩ ⟨[]⟩, .func (.func 179) ⟨[]⟩ ⟨[]⟩, .func (.func 180) ⟨[]⟩ ⟨[]⟩, .func (.func 181) ⟨[]⟩ ⟨[]⟩, .func (.func 182) ⟨[]⟩ ⟨[]⟩]⟩/\ Fr h h':=by
 refine aw Tryz.f78 (by kernel_rfl) (by kernel_rfl) rfl rfl ?_
 simp only[Tryz.f78]
 simp(maxDischargeDepth:=30)only[AA,↓reduceIte,Q1,Q2,Q3,Q4,reduceCtorEq,Q5,Q6,Q7,XH,WN,YE,G3,dh,AL,dP,Ai,hk]
 exact⟨trivial,aI _ (Fr.refl hk)⟩
theorem one_d (v:Value) (h:Heap):cI CC (bH CC) 247 [v] h=some (.ret v h none):=by
 refine CW.eq (aw Tryz.f247 (by kernel_rfl) (by kernel_rfl) rfl rfl ?_)
 simp only[Tryz.f247]
 simp(maxDischargeDepth:=30)only[AA,↓reduceIte,Q1,Q2,Q3,Q4,reduceCtorEq,Q5,Q6,Q7,fT]
theorem CoatS.ext_len {s:CoatS}: ∀(d:Nat) (now p:List Int),p∈s.ext d now ->p.length=now.length+d
 |0,now,p,h=>by
  simp only[CoatS.ext,List.mem_singleton]at h
  rw[h];rfl
 |d+1,now,p,h=>by
  simp only[CoatS.ext,List.mem_flatMap]at h
  obtain⟨x,_,h⟩:=h
  split at h
  ·simp at h
  ·split at h
   ·simp at h
   ·have:=CoatS.ext_len d _ p h
    simp at this;omega
theorem HF {α:Type} {l:List α} {d:α} (h:l≠[]):l.getD 0 d∈l:=by
 cases l with
 |nil=>exact absurd rfl h
 |cons a l=>simp
theorem CoatS.firstP_len (s:CoatS):s.firstP.1.length<=s.coats.length:=by
 unfold CoatS.firstP
 split
 ·simp
 ·split
  ·simp
  ·have:=CoatS.ext_len _ _ _ (HF (d:=[]) ‹¬s.plans=[]›)
   show(CoatS.ext s s.coats.length []|>.getD 0 []).length<=_
   rw[this];simp
theorem G5 {N:Nat} {M:List Bool}: ∀(d:Nat) (tk:List Bool) (now p:List Int),p∈qX N M d tk now ->p.length=now.length+d
 |0,tk,now,p,h=>by
  simp only[qX,List.mem_singleton]at h
  rw[h];rfl
 |d+1,tk,now,p,h=>by
  simp only[qX,List.mem_flatMap]at h
  obtain⟨x,_,h⟩:=h
  split at h
  ·have:=G5 d _ _ p h
   simp at this;omega
  ·simp at h
theorem StripB.firstP_len (s:StripB):s.firstP.1.length<=1000:=by
 unfold StripB.firstP
 split
 ·simp
 ·split
  ·simp
  ·show(s.orders.getD 0 []).length<=1000
   by_cases e:s.orders=[]
   ·rw[e];simp
   ·have:=G5 _ _ _ _ (HF (d:=[]) e)
    have hn:s.names<=6:=(StripB.ok_at (by simpa using‹¬s.ok=false›)).1.2
    show((qX s.names.toNat s.after s.names.toNat (List.replicate 6 false) []).getD 0 []).length<=_
    rw[this];simp;omega
theorem Bench.bestP_len (B:Bench):B.bestP.1.length<=B.strokes.length:=by
 unfold Bench.bestP
 split
 ·simp
 ·split
  ·simp
  ·rename_i x l e
   have hx:x∈B.timed:=by rw[e];simp
   unfold Bench.timed yY at hx
   rcases tq _ _ _ hx with h|h
   ·simp at h
   ·rw[List.mem_map]at h
    obtain⟨p,hp,rfl⟩:=h
    have:=AX _ _ _ hp
    simp at this
    show p.length<=_
    omega
def St0 (h:Heap) (p:Nat) (S:SuiteD):Prop:= ∃u m pl ha ho pa,rowAt h p=some (S.stR u m pl ha ho pa)/\ IsSuite (fun _=>True) h u S/\ LS h pl S.coats.firstP.1 aQ 1
theorem St0.fr {h h':Heap} {p:Nat} {S:SuiteD} (q:St0 h p S) (hk:HOK h) (f:Fr h h'):St0 h' p S:=by
 obtain⟨u,m,pl,ha,ho,pa,a,b,c⟩:=q
 exact⟨u,m,pl,ha,ho,pa,f.row' hk a,b.fr hk f,c.fr hk f⟩
def Que0 (S:SuiteD) (k:Int) (g:FuncId) (out:List Int):Prop:=(k=2/\ g=168/\ out=[(S.front.setP.1.length:Int),S.front.setP.2.1]) \/(k=3/\ g=169/\ out=S.coats.firstP.1) \/(k=5/\ g=171/\ out=S.board.firstP.1) \/(k=12/\ g=178/\ out=S.bench.bestP.1) \/(k=16/\ g=182/\ out=[])
theorem MU {S:SuiteD} {k:Int} {g:FuncId} {out:List Int} {h:Heap} (hk:HOK h) (K:Que0 S k g out):CW CC 77 [.agg ⟨[.int .i64 k, .slice none 0 0]⟩] h fun r h'=>r= .bool true/\ Fr h h':=by
 have i0:cL ((0:Nat):Int) 0 0=true:=rfl
 rcases K with⟨rfl,rfl,e⟩|⟨rfl,rfl,e⟩|⟨rfl,rfl,e⟩|⟨rfl,rfl,e⟩|⟨rfl,rfl,e⟩<;>
 ·refine aw Tryz.f77 (by kernel_rfl) (by kernel_rfl) rfl rfl ?_
  simp only[Tryz.f77]
  simp(maxDischargeDepth:=30)only[AA,↓reduceIte,Q1,Q2,Q3,Q4,reduceCtorEq,Q5,Q6,Q7,XH,Lq,Lp,cM,XI,cA,hk,Int.reduceBEq,beq_self_eq_true,Int.reduceLE,Int.reduceGE,ge_iff_le,in_d,i0]
  exact⟨trivial,aI _ (Fr.refl hk)⟩
theorem is_0 {h:Heap} (hk:HOK h) {d:Nat} {S:SuiteD} {u:SuiteV} (D:IsDesk0 h d S u):cI CC (bH CC) 61 [.pointer (some ⟨d,0,none⟩)] h=some (.ret (.bool true) h none):=by
 have rd:rowAt h d=some (S.desk0 u):=by unfold rowAt;rw[D.row];rfl
 refine CW.eq (aw Tryz.f61 (by kernel_rfl) (by kernel_rfl) rfl rfl ?_)
 simp only[Tryz.f61]
 simp(maxDischargeDepth:=30)only[AA,↓reduceIte,Q1,Q2,Q3,Q4,reduceCtorEq,Q5,Q6,Q7,Sk,Ju,hk,rd,sd0_a,show∀(c:Bool) (a:Addr),eI CC .neq 52 c (.pointer (some a)) (.pointer none)=some (.bool true)from fun c a=>by cases c<;>kernel_rfl]
theorem bs_2 (a b:Int):bn CC 22 2 [(0, .int .i64 a),(1, .int .i64 b)]=some (.new (.row [.int .i64 a, .int .i64 b] 1 true) (aG 1 2 2)):=by kernel_rfl
set_option maxRecDepth 10000 in
set_option maxHeartbeats 1000000 in
theorem ans_0 {S:SuiteD} {k:Int} {g:FuncId} {out:List Int} (K:Que0 S k g out) (sm:S.Low) (ok:S.okD=true) {h:Heap} (hk:HOK h) (hp:0<h.next) {p:Nat} (q:St0 h p S) (w:Value):
  CW CC g [.pointer (some ⟨p,0,none⟩),w] h fun r h'=>(∃u,r= .tuple ⟨[u, .int .i64 0]⟩/\ LS h' u out aQ 1)/\ Fr h h':=by
 obtain⟨okB,_,okF,okC,okS⟩:=SuiteD.okD_at ok
 obtain⟨u,m,pl,ha,ho,pa,rp,iu,lp⟩:=q
 have np:=af hk rp
 rcases K with⟨rfl,rfl,e⟩|⟨rfl,rfl,e⟩|⟨rfl,rfl,e⟩|⟨rfl,rfl,e⟩|⟨rfl,rfl,e⟩<;>subst e
 ·refine aw Tryz.f168 (by kernel_rfl) (by kernel_rfl) rfl rfl ?_
  simp only[Tryz.f168]
  simp(maxDischargeDepth:=30)only[AA,↓reduceIte,Q1,Q2,Q3,Q4,reduceCtorEq,Q5,Q6,Q7,XH,SR,eF,lU,sU,mC,cG,mw,vz,pk,bJ,aV,ba,ia,bm,bh,jM,hk,rp,np]
  refine aC (P4 hk hp iu.letV sm.front) ?_
  rintro _ h2 ⟨⟨uv,rfl,so⟩,f2⟩
  obtain⟨pu,cu,rfl⟩:=so.value
  have f3:=aI [.row (kK (.slice pu S.front.setP.1.length cu)) 0 true] (Fr.refl f2.ok)
  simp only[kK]at f3⊢
  simp(maxDischargeDepth:=30)only[AA,↓reduceIte,Q1,Q2,Q3,Q4,reduceCtorEq,Q5,Q6,Q7,XH,eF,lU,sU,mC,cG,mw,vz,pk,bJ,aV,ba,ia,bm,bh,jM,f2.ok,bs_2,one_d,okF]
  have f4:=aI [.row [.slice none 0 0, .slice pu S.front.setP.1.length cu] 0 true, .row [.int .i64 S.front.setP.1.length, .int .i64 S.front.setP.2.1] 1 true] (Fr.refl f2.ok)
  have n2:=f2.next
  exact⟨⟨_,rfl,(show SL 0 _ _ ([(S.front.setP.1.length:Int),S.front.setP.2.1].flatMap aQ) 1 2 from .inr ⟨_,rfl,by omega,Nat.zero_le _,jd rfl (by simp),rfl⟩).ls (xs:=[(S.front.setP.1.length:Int),S.front.setP.2.1]) aP⟩,f2.trans f4⟩
 ·refine aw Tryz.f169 (by kernel_rfl) (by kernel_rfl) rfl rfl ?_
  simp only[Tryz.f169]
  simp(maxDischargeDepth:=30)only[AA,↓reduceIte,Q1,Q2,Q3,Q4,reduceCtorEq,Q5,Q6,Q7,XH,SR,HM,cM,hk,rp,np]
  exact⟨⟨_,rfl,lp⟩,Fr.refl hk⟩
 ·refine aw Tryz.f171 (by kernel_rfl) (by kernel_rfl) rfl rfl ?_
  simp only[Tryz.f171]
  simp(maxDischargeDepth:=30)only[AA,↓reduceIte,Q1,Q2,Q3,Q4,reduceCtorEq,Q5,Q6,Q7,XH,SR,lU,sT,kv,hk,rp,np]
  refine aC (EN hk iu.spotV sm.spots) ?_
  rintro _ h2 ⟨⟨v,rfl,so⟩,f2⟩
  simp(maxDischargeDepth:=30)only[AA,↓reduceIte,Q1,Q2,Q3,Q4,reduceCtorEq,Q5,Q6,Q7,XH,lU,sT,kv,f2.ok,okS]
  exact⟨⟨_,rfl,so.ls aP⟩,f2⟩
 ·refine aw Tryz.f178 (by kernel_rfl) (by kernel_rfl) rfl rfl ?_
  simp only[Tryz.f178]
  simp(maxDischargeDepth:=30)only[AA,↓reduceIte,Q1,Q2,Q3,Q4,reduceCtorEq,Q5,Q6,Q7,XH,SR,lU,pD,qZ,hk,rp,np]
  refine aC (Cp hk hp iu.benchV sm.bench) ?_
  rintro _ h2 ⟨⟨v,rfl,so⟩,f2⟩
  have e0:S.bench.bestP.2.2=0:=by
   unfold Bench.bestP;rw[okB]
   cases S.bench.timed<;>rfl
  simp(maxDischargeDepth:=30)only[AA,↓reduceIte,Q1,Q2,Q3,Q4,reduceCtorEq,Q5,Q6,Q7,XH,lU,pD,qZ,f2.ok,e0]
  exact⟨⟨_,rfl,so.ls aP⟩,f2⟩
 ·refine aw Tryz.f182 (by kernel_rfl) (by kernel_rfl) rfl rfl ?_
  simp only[Tryz.f182]
  simp(maxDischargeDepth:=30)only[AA,↓reduceIte,Q1,Q2,Q3,Q4,reduceCtorEq,Q5,Q6,Q7,XH,SR,HL,cM,hk,rp,np]
  exact⟨⟨_,rfl, .inl ⟨rfl,_,_,rfl⟩⟩,Fr.refl hk⟩
theorem Que0.len {S:SuiteD} {k:Int} {g:FuncId} {out:List Int} (K:Que0 S k g out) (sm:S.Low):out.length<=1000:=by
 rcases K with⟨_,_,e⟩|⟨_,_,e⟩|⟨_,_,e⟩|⟨_,_,e⟩|⟨_,_,e⟩<;>rw[e]
 ·simp
 ·have:=S.coats.firstP_len;have:=sm.sm.ct;omega
 ·exact S.board.firstP_len
 ·have:=S.bench.bestP_len;have:=sm.sm.st;omega
 ·simp
section
variable (a0 a1 a2 a3 a4 a5 a6 a7 a8 a9 a10 a11 a12 a13 a14 a15:Value)
theorem ai_1:cD CC 182 (.agg ⟨[a0,a1,a2,a3,a4,a5,a6,a7,a8,a9,a10,a11,a12,a13,a14,a15]⟩) (.int .i64 1)=some a1:=by kernel_rfl
theorem ai_2:cD CC 182 (.agg ⟨[a0,a1,a2,a3,a4,a5,a6,a7,a8,a9,a10,a11,a12,a13,a14,a15]⟩) (.int .i64 2)=some a2:=by kernel_rfl
theorem ai_4:cD CC 182 (.agg ⟨[a0,a1,a2,a3,a4,a5,a6,a7,a8,a9,a10,a11,a12,a13,a14,a15]⟩) (.int .i64 4)=some a4:=by kernel_rfl
theorem ai_11:cD CC 182 (.agg ⟨[a0,a1,a2,a3,a4,a5,a6,a7,a8,a9,a10,a11,a12,a13,a14,a15]⟩) (.int .i64 11)=some a11:=by kernel_rfl
theorem ai_15:cD CC 182 (.agg ⟨[a0,a1,a2,a3,a4,a5,a6,a7,a8,a9,a10,a11,a12,a13,a14,a15]⟩) (.int .i64 15)=some a15:=by kernel_rfl
end
def Zr:=A2 @ai_1<|A2 @ai_2<|A2 @ai_4<|A2 @ai_11 @ai_15
set_option maxRecDepth 10000 in
set_option maxHeartbeats 4000000 in
theorem ask_0 {S:SuiteD} {k:Int} {g:FuncId} {out:List Int} (K:Que0 S k g out) (sm:S.Low) (ok:S.okD=true) {h:Heap} (hk:HOK h) (hp:0<h.next) {d:Nat} {u:SuiteV} (D:IsDesk0 h d S u):
  CW CC 26 [.pointer (some ⟨d,0,none⟩), .agg ⟨[.int .i64 k, .slice none 0 0]⟩] h fun r h'=>(∃u,r= .tuple ⟨[u, .int .i64 0]⟩/\ SL h.next h' u (out.flatMap aQ) 1 out.length)/\ Fr h h':=by
 have ol:=K.len sm
 have ans:=fun {h':Heap} (k':HOK h') (n':0<h'.next) {p:Nat} (q:St0 h' p S) (w:Value)=>ans_0 K sm ok k' n' q w
 refine aw Tryz.f26 (by kernel_rfl) (by kernel_rfl) rfl rfl ?_
 simp only[Tryz.f26]
 have f1:=aI [.row [.int .i64 k, .slice none 0 0] 0 true] (Fr.refl hk)
 have g1:rowAt (h.ex [.row [.int .i64 k, .slice none 0 0] 0 true]) h.next=some [.int .i64 k, .slice none 0 0]:=aZ rfl
 simp(maxDischargeDepth:=30)only[AA,↓reduceIte,Q1,Q2,Q3,Q4,reduceCtorEq,Q5,Q6,Q7,XH,kd,hk,is_0 f1.ok (D.fr hk f1)]
 refine aC (MU f1.ok K) ?_
 rintro _ h2 ⟨rfl,f2⟩
 have f02:=f1.trans f2
 have r2:=f2.row' f1.ok g1
 simp(maxDischargeDepth:=30)only[AA,↓reduceIte,Q1,Q2,Q3,Q4,reduceCtorEq,Q5,Q6,Q7,XH,kd,f2.ok]
 refine bR [(true,1),(true,2),(true,3),(true,5),(true,7),(true,8),(true,0),(false,2),(false,8),(true,4),(true,6),(false,2),(false,8),(true,9),(false,2),(true,10),(true,11),(true,12),(true,13),(true,14),(true,15)] (by kernel_rfl) ?_
 simp(maxDischargeDepth:=30)only[AA,↓reduceIte,Q1,Q2,Q3,Q4,reduceCtorEq,Q5,Q6,Q7,dk,XH,kd,f2.ok,r2]
 refine bk (OI f2.ok) ?_
 rintro _ h3 ⟨rfl,f3⟩
 have f03:=f02.trans f3
 have r3:=f3.row' f2.ok r2
 have n3:=f03.next
 have D3:=D.fr hk f03
 have w1:IntKind.i64.wrap ((2:Int) -1)=1/\ IntKind.i64.wrap ((3:Int) -1)=2/\ IntKind.i64.wrap ((5:Int) -1)=4/\ IntKind.i64.wrap ((12:Int) -1)=11/\ IntKind.i64.wrap ((16:Int) -1)=15:=⟨rfl,rfl,rfl,rfl,rfl⟩
 have sf: ∀f:FuncId,dq (.func (.func f) ⟨[]⟩ ⟨[]⟩) (.func (.func f) ⟨[]⟩ ⟨[]⟩)=true:=fun f=>lK rfl rfl
 rcases K with⟨rfl,rfl,_⟩|⟨rfl,rfl,_⟩|⟨rfl,rfl,_⟩|⟨rfl,rfl,_⟩|⟨rfl,rfl,_⟩<;>
 ·simp(maxDischargeDepth:=30)only[AA,↓reduceIte,Q1,Q2,Q3,Q4,reduceCtorEq,Q5,Q6,Q7,dk,XH,kd,f3.ok,r3,w1,sf,Zr]
  refine bk (U7 f3.ok (by omega) D3 sm ok) ?_
  rintro _ h4 ⟨⟨p,su,sm',spl,sha,sho,spa,rfl,st1,st2,st3⟩,f4⟩
  have st:St0 h4 p S:=⟨_,_,_,_,_,_,st1,st2,st3⟩
  have f04:=f03.trans f4
  have r4:=f4.row' f3.ok r3
  have n4:=f04.next
  simp(maxDischargeDepth:=30)only[AA,↓reduceIte,Q1,Q2,Q3,Q4,reduceCtorEq,Q5,Q6,Q7,dk,XH,kd,f4.ok,r4,w1,sf,Zr]
  refine bk (clone_ints.clone aP f4.ok (by omega) (show LS h4 (.slice none 0 0) [] aQ 1 from .inl ⟨rfl,_,_,rfl⟩) (fun x _=>dW x) (by simp)) ?_
  rintro nv h5 ⟨q5,_,f5⟩
  have r5:=f5.row' f4.ok r4
  have f05:=f04.trans f5
  have n5:=f05.next
  obtain⟨pn,cn,env⟩:=q5.value
  have sn:dq nv nv=true:=by rw[env];exact cR _ _ _
  simp(maxDischargeDepth:=30)only[AA,↓reduceIte,Q1,Q2,Q3,Q4,reduceCtorEq,Q5,Q6,Q7,dk,XH,kd,f5.ok,r5,w1,sf,Zr,sn,ju,ff,List.append_nil,List.nil_append,List.cons_append]
  refine bk (ans f5.ok (by omega) (st.fr f4.ok f5) nv) ?_
  rintro _ h6 ⟨⟨u,rfl,lu⟩,f6⟩
  have f06:=f05.trans f6
  have n6:=f06.next
  obtain⟨pu,cu,rfl⟩:=lu.len
  simp(maxDischargeDepth:=30)only[AA,↓reduceIte,Q1,Q2,Q3,Q4,reduceCtorEq,Q5,Q6,Q7,dk,XH,kd,f6.ok,show((0:Int) !=0)=false from rfl]
  refine aC (clone_ints.clone aP f6.ok (by omega) lu (fun x _=>dW x) (by omega)) ?_
  rintro rv h7 ⟨q7,_,f7⟩
  simp(maxDischargeDepth:=30)only[AA,↓reduceIte,Q1,Q2,Q3,Q4,reduceCtorEq,Q5,Q6,Q7,dk,XH,kd,f7.ok]
  exact⟨⟨rv,rfl,q7.low (by omega)⟩,f06.trans f7⟩
set_option maxRecDepth 10000 in
theorem Av {S:SuiteD} {k:Int} {g:FuncId} {out:List Int} (K:Que0 S k g out) (sm:S.Low) (ok:S.okD=true) {h:Heap} (hk:HOK h) (hp:0<h.next) {d:Nat} {u:SuiteV} (D:IsDesk0 h d S u) {w:Value} (hw:LS h w out aQ 1):
  CW CC 15 [.pointer (some ⟨d,0,none⟩), .int .i64 k, .slice none 0 0,w] h fun r h'=>r= .bool true/\ Fr h h':=by
 obtain⟨pw,cw,rfl⟩:=hw.len
 have ol:=K.len sm
 refine aw Tryz.f15 (by kernel_rfl) (by kernel_rfl) rfl rfl ?_
 simp only[Tryz.f15]
 simp(maxDischargeDepth:=30)only[AA,↓reduceIte,Q1,Q2,Q3,Q4,reduceCtorEq,Q5,Q6,Q7,XH,CE,hk]
 refine aC (ask_0 K sm ok hk hp D) ?_
 rintro _ h1 ⟨⟨r,rfl,lr⟩,f1⟩
 simp(maxDischargeDepth:=30)only[AA,↓reduceIte,Q1,Q2,Q3,Q4,reduceCtorEq,Q5,Q6,Q7,XH,CE,f1.ok,show((0:Int)==0)=true from rfl]
 refine aC (X8 _ _ out out h1 f1.ok (SL.ls aP lr) (hw.fr hk f1) ol ol) ?_
 rintro _ _ ⟨rfl,rfl⟩
 simp(maxDischargeDepth:=30)only[AA,↓reduceIte,Q1,Q2,Q3,Q4,reduceCtorEq,Q5,Q6,Q7,XH,CE,f1.ok]
 exact⟨by simp,f1⟩
end Go.Am
