/- The abstract machine over this program: daybook.own: a suite that shares nothing with another one. -/
import Derived.Test.YtlflfbnnjlkkcaaGreatJV82
set_option linter.unusedSimpArgs false
set_option linter.unusedVariables false
set_option linter.defProp false
open Nat renaming reduceLT→Q1,reduceEqDiff→Q2,reduceAdd→Q3,reduceMul→Q4,reduceLeDiff→Q5
open Int renaming reduceNe→Q6,reduceEq→Q7
namespace Go.Am
open Go Go.Proofs
def dT:=A2 @sW<|A2 @zJ<|A2 @pI<|A2 @pH<|A2 @vM<|A2 @sV<|A2 @zI<|A2 @pG<|A2 @kR<|A2 @vK<|A2 @vJ<|A2 @vI<|A2 @EI<|A2 @sU<|A2 @vH<|A2 @sT<|A2 @pD<|A2 @zH<|A2 @zG<|A2 @vG<|A2 @cG<|A2 @Hr<|A2 @tO<|A2 @Hq<|A2 @Hp<|A2 @tM<|A2 @vB<|A2 @Li<|A2 @Lh<|A2 @Lg<|A2 @cM<|A2 @Le<|A2 @Bx<|A2 @Bw<|A2 @Dx<|A2 @Hl<|A2 @vA<|A2 @Hj<|A2 @Hh<|A2 @Q0<|A2 @Ld<|A2 @vq<|A2 @vp<|A2 @qV<|A2 @qU<|A2 @kN<|A2 @o8<|A2 @bJ<|A2 @zy<|A2 @jS<|A2 @kM<|A2 @lJ<|A2 @lI<|A2 @jX<|A2 @jW<|A2 @aV<|A2 @u9<|A2 @eU<|A2 @jR<|A2 @u7<|A2 @ba<|A2 @u6<|A2 @kJ<|A2 @kI<|A2 @zx<|A2 @zw<|A2 @zu<|A2 @KW<|A2 @oU<|A2 @gv<|A2 @gq<|A2 @bm<|A2 @oN<|A2 @ji<|A2 @oM<|A2 @oK<|A2 @jh<|A2 @jC<|A2 @qJ<|A2 @qI<|A2 @qH<|A2 @bh<|A2 @uO<|A2 @jN<|A2 @uN<|A2 @uM<|A2 @kD<|A2 @ky<|A2 @zm<|A2 @zl @zj
structure SuiteV where
 w:Value
 pr:Value
 wd:Value
 dry:Value
 wk:Value
 ct:Value
 sp:Value
 bo:Value
 st:Value
 ti:Value
 sk:Value
 of:Value
 bd:Value
 tr:Value
def SuiteD.cells (S:SuiteD) (u:SuiteV):List Value:=[u.w,u.pr, .int .i64 S.front.other.lo, .int .i64 S.front.other.hi, .int .i64 S.front.gap.lo, .int .i64 S.front.gap.hi, .int .i64 S.front.hyphen,u.wd, .int .i64 S.front.wide, .int .i64 S.front.rows,u.dry,u.wk,u.ct, .int .i64 S.board.names,u.sp, .int .i64 S.bench.app,u.bo,u.st, .int .i64 S.tints.o1, .int .i64 S.tints.o2, .int .i64 S.tints.o3, .int .i64 S.tints.f1.lo, .int .i64 S.tints.f1.hi, .int .i64 S.tints.f2.lo, .int .i64 S.tints.f2.hi, .int .i64 S.tints.f3.lo, .int .i64 S.tints.f3.hi, .int .i64 S.tints.years.lo, .int .i64 S.tints.years.hi, .int .i64 S.tints.off,u.ti,u.sk,u.of,u.bd,u.tr]
structure IsSuite (P:Nat ->Prop) (h:Heap) (u:SuiteV) (S:SuiteD):Prop where
 w:LP P h u.w S.front.widths aQ 1
 pr:LP P h u.pr S.front.pairs LPair.cells 4
 wd:LN P IsWord WordV.cells 3 h u.wd S.front.words
 dry:LP P h u.dry S.coats.dry Sp.cells 2
 wk:LP P h u.wk S.coats.work aQ 1
 ct:LP P h u.ct S.coats.coats CoatC.cells 2
 sp:LN P IsRow jB 1 h u.sp S.board.spots
 bo:LP P h u.bo S.bench.boards aQ 1
 st:LN P IsStroke StrokeV.cells 5 h u.st S.bench.strokes
 ti:LP P h u.ti S.tints.tins Tin.cells 6
 of:LP P h u.of S.prices.offs aQ 1
 bd:LP P h u.bd S.prices.boards Board.cells 5
 tr:LP P h u.tr S.prices.tars Tar.cells 5
structure SuiteD.Small (S:SuiteD):Prop where
 w:S.front.widths.length<=1000
 pr:S.front.pairs.length<=1000
 wd:S.front.words.length<=1000
 dry:S.coats.dry.length<=1000
 wk:S.coats.work.length<=1000
 ct:S.coats.coats.length<=1000
 sp:S.board.spots.length<=1000
 bo:S.bench.boards.length<=1000
 st:S.bench.strokes.length<=1000
 ti:S.tints.tins.length<=1000
 sk:S.stock.length<=1000
 of:S.prices.offs.length<=1000
 bd:S.prices.boards.length<=1000
 tr:S.prices.tars.length<=1000
 wd2: ∀w∈S.front.words,w.signs.length<=100000/\ w.cuts.length<=100000
 sp2: ∀w∈S.board.spots,w.length<=100000
 st2: ∀w∈S.bench.strokes,w.needs.length<=100000
theorem LN.len {P:Nat ->Prop} {α β:Type} {R:(Nat ->Prop) ->Heap ->α ->β ->Prop} {f:α ->List Value} {s:Nat} {h:Heap} {v:Value} {ws:List β} (q:LN P R f s h v ws): ∃p c,v= .slice p ws.length c:=by
 obtain⟨us,q1,q2⟩:=q
 obtain⟨p,c,e⟩:=q1.1.len
 exact⟨p,c,by rw[e,q2.1]⟩
theorem LP.fin {P P':Nat ->Prop} {α:Type} {a z:Heap} {v:Value} {xs:List α} {f:α ->List Value} {s:Nat} {r:Nat} (q:LP P a v xs f s) (g:Gr (· =r) a z) (hp: ∀b,P b ->b≠r/\ b<a.next/\ P' b):LP P' z v xs f s:=
 (q.keep fun b hb=>g.get b (hp b hb).2.1 (hp b hb).1).mono fun b hb=>(hp b hb).2.2
theorem LN.fin {P P':Nat ->Prop} {α β:Type} {R:(Nat ->Prop) ->Heap ->α ->β ->Prop} {f:α ->List Value} {s:Nat} {a z:Heap} {v:Value} {ws:List β} {r:Nat} (q:LN P R f s a v ws) (g:Gr (· =r) a z) (hp: ∀b,P b ->b≠r/\ b<a.next/\ P' b)
  (hR: ∀u w,R P a u w ->(∀b,P b ->z.get b=a.get b) ->R P z u w) (hM: ∀u w,R P z u w ->(∀b,P b ->P' b) ->R P' z u w):LN P' R f s z v ws:=by
 obtain⟨us,q1,q2⟩:=q
 exact⟨us,q1.fin g hp,q2.map fun u w hu=>hM u w (hR u w hu fun b hb=>g.get b (hp b hb).2.1 (hp b hb).1) fun b hb=>(hp b hb).2.2⟩
theorem LN.fr {P:Nat ->Prop} {α β:Type} {R:(Nat ->Prop) ->Heap ->α ->β ->Prop} {f:α ->List Value} {s:Nat} {h h':Heap} {v:Value} {ws:List β} (q:LN P R f s h v ws) (hk:HOK h) (fr:Fr h h') (hR: ∀u w,R P h u w ->R P h' u w):LN P R f s h' v ws:=by
 obtain⟨us,q1,q2⟩:=q
 exact⟨us,q1.fr hk fr,q2.map hR⟩
theorem oV {a b:Heap} {r:Nat} (f:Fr a b) (hr:r<b.next) (x:AObj):Gr (· =r) a (b.set r x):=⟨f.ok.set hr x,by simpa using f.next,fun i hi hn=>by rw[Heap.get_set_ne _ _ hn];exact f.get i hi⟩
def is:List Value:=[.slice none 0 0, .slice none 0 0, .int .i64 0, .int .i64 0, .int .i64 0, .int .i64 0, .int .i64 0, .slice none 0 0, .int .i64 0, .int .i64 0, .slice none 0 0, .slice none 0 0, .slice none 0 0, .int .i64 0, .slice none 0 0, .int .i64 0, .slice none 0 0, .slice none 0 0, .int .i64 0, .int .i64 0, .int .i64 0, .int .i64 0, .int .i64 0, .int .i64 0, .int .i64 0, .int .i64 0, .int .i64 0, .int .i64 0, .int .i64 0, .int .i64 0, .slice none 0 0, .slice none 0 0, .slice none 0 0, .slice none 0 0, .slice none 0 0]
theorem sc_w (S:SuiteD) (u:SuiteV):(S.cells u)[0]? =some u.w:=rfl
theorem ss_w (S:SuiteD) (u:SuiteV) (v:Value):(S.cells u).set 0 v=S.cells {u with w:=v}:=rfl
theorem sc_pr (S:SuiteD) (u:SuiteV):(S.cells u)[1]? =some u.pr:=rfl
theorem ss_pr (S:SuiteD) (u:SuiteV) (v:Value):(S.cells u).set 1 v=S.cells {u with pr:=v}:=rfl
theorem sc_wd (S:SuiteD) (u:SuiteV):(S.cells u)[7]? =some u.wd:=rfl
theorem ss_wd (S:SuiteD) (u:SuiteV) (v:Value):(S.cells u).set 7 v=S.cells {u with wd:=v}:=rfl
theorem X7 (S:SuiteD) (u:SuiteV):(S.cells u)[10]? =some u.dry:=rfl
theorem X3 (S:SuiteD) (u:SuiteV) (v:Value):(S.cells u).set 10 v=S.cells {u with dry:=v}:=rfl
theorem sc_wk (S:SuiteD) (u:SuiteV):(S.cells u)[11]? =some u.wk:=rfl
theorem ss_wk (S:SuiteD) (u:SuiteV) (v:Value):(S.cells u).set 11 v=S.cells {u with wk:=v}:=rfl
theorem sc_ct (S:SuiteD) (u:SuiteV):(S.cells u)[12]? =some u.ct:=rfl
theorem ss_ct (S:SuiteD) (u:SuiteV) (v:Value):(S.cells u).set 12 v=S.cells {u with ct:=v}:=rfl
theorem sc_sp (S:SuiteD) (u:SuiteV):(S.cells u)[14]? =some u.sp:=rfl
theorem ss_sp (S:SuiteD) (u:SuiteV) (v:Value):(S.cells u).set 14 v=S.cells {u with sp:=v}:=rfl
theorem sc_bo (S:SuiteD) (u:SuiteV):(S.cells u)[16]? =some u.bo:=rfl
theorem ss_bo (S:SuiteD) (u:SuiteV) (v:Value):(S.cells u).set 16 v=S.cells {u with bo:=v}:=rfl
theorem sc_st (S:SuiteD) (u:SuiteV):(S.cells u)[17]? =some u.st:=rfl
theorem ss_st (S:SuiteD) (u:SuiteV) (v:Value):(S.cells u).set 17 v=S.cells {u with st:=v}:=rfl
theorem sc_ti (S:SuiteD) (u:SuiteV):(S.cells u)[30]? =some u.ti:=rfl
theorem ss_ti (S:SuiteD) (u:SuiteV) (v:Value):(S.cells u).set 30 v=S.cells {u with ti:=v}:=rfl
theorem sc_sk (S:SuiteD) (u:SuiteV):(S.cells u)[31]? =some u.sk:=rfl
theorem ss_sk (S:SuiteD) (u:SuiteV) (v:Value):(S.cells u).set 31 v=S.cells {u with sk:=v}:=rfl
theorem sc_of (S:SuiteD) (u:SuiteV):(S.cells u)[32]? =some u.of:=rfl
theorem ss_of (S:SuiteD) (u:SuiteV) (v:Value):(S.cells u).set 32 v=S.cells {u with of:=v}:=rfl
theorem sc_bd (S:SuiteD) (u:SuiteV):(S.cells u)[33]? =some u.bd:=rfl
theorem ss_bd (S:SuiteD) (u:SuiteV) (v:Value):(S.cells u).set 33 v=S.cells {u with bd:=v}:=rfl
theorem sc_tr (S:SuiteD) (u:SuiteV):(S.cells u)[34]? =some u.tr:=rfl
theorem ss_tr (S:SuiteD) (u:SuiteV) (v:Value):(S.cells u).set 34 v=S.cells {u with tr:=v}:=rfl
theorem sc_t (S:SuiteD) (u:SuiteV):aA (S.cells u) 0 35=some (S.cells u):=rfl
theorem sc_l (S:SuiteD) (u:SuiteV):(S.cells u).length=35:=rfl
def SC:=A2 @sc_w<|A2 @sc_pr<|A2 @sc_wd<|A2 @X7<|A2 @sc_wk<|A2 @sc_ct<|A2 @sc_sp<|A2 @sc_bo<|A2 @sc_st<|A2 @sc_ti<|A2 @sc_sk<|A2 @sc_of<|A2 @sc_bd<|A2 @sc_tr<|A2 @ss_w<|A2 @ss_pr<|A2 @ss_wd<|A2 @X3<|A2 @ss_wk<|A2 @ss_ct<|A2 @ss_sp<|A2 @ss_bo<|A2 @ss_st<|A2 @ss_ti<|A2 @ss_sk<|A2 @ss_of<|A2 @ss_bd<|A2 @ss_tr<|A2 @sc_t @sc_l
set_option maxRecDepth 20000 in
set_option maxHeartbeats 8000000 in
theorem XD {h:Heap} (hk:HOK h) (hp:0<h.next) {P Q:Nat ->Prop} {u:SuiteV} {S:SuiteD} (q:IsSuite P h u S) (qs:LP Q h u.sk S.stock aQ 1) (sm:S.Small):
  CW CC 33 [.agg ⟨S.cells u⟩] h fun r h'=>(∃u',r= .agg ⟨S.cells u'⟩/\ IsSuite (fun b=>h.next<=b/\ b<h'.next/\ ay u'.sk≠some b) h' u' S/\ SL h.next h' u'.sk (S.stock.flatMap aQ) 1 S.stock.length)/\ Fr h h':=by
 have qv:=q
 have xw:dq u.w u.w=true:=by obtain⟨p,c,e⟩:=q.w.1.len;rw[e];exact cR _ _ _
 have xpr:dq u.pr u.pr=true:=by obtain⟨p,c,e⟩:=q.pr.1.len;rw[e];exact cR _ _ _
 have xwd:dq u.wd u.wd=true:=by obtain⟨p,c,e⟩:=q.wd.len;rw[e];exact cR _ _ _
 have xdry:dq u.dry u.dry=true:=by obtain⟨p,c,e⟩:=q.dry.1.len;rw[e];exact cR _ _ _
 have xwk:dq u.wk u.wk=true:=by obtain⟨p,c,e⟩:=q.wk.1.len;rw[e];exact cR _ _ _
 have xct:dq u.ct u.ct=true:=by obtain⟨p,c,e⟩:=q.ct.1.len;rw[e];exact cR _ _ _
 have xsp:dq u.sp u.sp=true:=by obtain⟨p,c,e⟩:=q.sp.len;rw[e];exact cR _ _ _
 have xbo:dq u.bo u.bo=true:=by obtain⟨p,c,e⟩:=q.bo.1.len;rw[e];exact cR _ _ _
 have xst:dq u.st u.st=true:=by obtain⟨p,c,e⟩:=q.st.len;rw[e];exact cR _ _ _
 have xti:dq u.ti u.ti=true:=by obtain⟨p,c,e⟩:=q.ti.1.len;rw[e];exact cR _ _ _
 have xsk:dq u.sk u.sk=true:=by obtain⟨p,c,e⟩:=qs.1.len;rw[e];exact cR _ _ _
 have xof:dq u.of u.of=true:=by obtain⟨p,c,e⟩:=q.of.1.len;rw[e];exact cR _ _ _
 have xbd:dq u.bd u.bd=true:=by obtain⟨p,c,e⟩:=q.bd.1.len;rw[e];exact cR _ _ _
 have xtr:dq u.tr u.tr=true:=by obtain⟨p,c,e⟩:=q.tr.1.len;rw[e];exact cR _ _ _
 refine aw Tryz.f33 (by kernel_rfl) (by kernel_rfl) rfl rfl ?_
 simp only[Tryz.f33]
 have r0:h.next<h.next+1:=by omega
 simp(maxDischargeDepth:=30)only[AA,↓reduceIte,Q1,Q2,Q3,Q4,reduceCtorEq,Q5,Q6,Q7,XH,dT,hk,show CC.zero 49=some (.agg ⟨is⟩)by kernel_rfl]
 have f0:=aI [.row (S.cells u) 0 true, .row is 0 true] (Fr.refl hk)
 have g0:(h.ex [.row (S.cells u) 0 true, .row is 0 true]).get h.next=some (.row (S.cells u) 0 true):=dG rfl
 have z0:(h.ex [.row (S.cells u) 0 true, .row is 0 true]).get (h.next+1)=some (.row is 0 true):=jd rfl (by simp)
 have n0:(h.ex [.row (S.cells u) 0 true, .row is 0 true]).next=h.next+2:=by rw[bc];rfl
 generalize(h.ex [.row (S.cells u) 0 true, .row is 0 true])=a0 at f0 g0 z0 n0⊢
 have w0:rowAt a0 h.next=some (S.cells u):=by unfold rowAt;rw[g0];rfl
 refine bR [(true,0),(true,1),(true,2),(true,4),(true,5),(true,6),(true,3),(false,6),(true,8),(true,9),(true,7),(true,10),(true,11),(true,12),(true,13)] (by kernel_rfl) ?_
 simp(maxDischargeDepth:=30)only[AA,↓reduceIte,Q1,Q2,Q3,Q4,reduceCtorEq,Q5,Q6,Q7,dk,XH,SC,dT,f0.ok,w0,ff,ju,List.append_nil,xw,xpr]
 refine bk (clone_ints.clone aP f0.ok (by omega) (q.w.1.fr hk f0) (fun x _=>dW x) (by have:=sm.w;omega)) ?_
 rintro vw a1 ⟨yw,_,s0⟩
 obtain⟨dw,kw,rfl⟩:=yw.value
 have f1:=f0.trans s0
 have n1:=s0.next
 have w1:=s0.row' f0.ok w0
 have z1:=s0.get' f0.ok z0
 have g1:=s0.get' f0.ok g0
 simp(maxDischargeDepth:=30)only[AA,↓reduceIte,Q1,Q2,Q3,Q4,reduceCtorEq,Q5,Q6,Q7,dk,XH,SC,dT,f1.ok,w1,xw,xpr]
 refine bk (clone_pairs.clone LPair.len f1.ok (by omega) (q.pr.1.fr hk f1) (fun x _=>rfl) (by have:=sm.pr;omega)) ?_
 rintro vpr a2 ⟨ypr,_,s1⟩
 obtain⟨dpr,kpr,rfl⟩:=ypr.value
 have f2:=f1.trans s1
 have n2:=s1.next
 have w2:=s1.row' f1.ok w1
 have z2:=s1.get' f1.ok z1
 have g2:=s1.get' f1.ok g1
 have hl:h.next<a2.next:=aF f2.ok g2
 simp(maxDischargeDepth:=30)only[AA,↓reduceIte,Q1,Q2,Q3,Q4,reduceCtorEq,Q5,Q6,Q7,dk,XH,SC,dT,f2.ok,w2,g2,hl,am,iM,xw,xpr]
 have s2:=oV (Fr.refl f2.ok) hl (.row (S.cells ⟨.slice dw S.front.widths.length kw, .slice dpr S.front.pairs.length kpr,u.wd,u.dry,u.wk,u.ct,u.sp,u.bo,u.st,u.ti,u.sk,u.of,u.bd,u.tr⟩) 0 true)
 have f3:=f2.set (Nat.le_refl _) hl (.row (S.cells ⟨.slice dw S.front.widths.length kw, .slice dpr S.front.pairs.length kpr,u.wd,u.dry,u.wk,u.ct,u.sp,u.bo,u.st,u.ti,u.sk,u.of,u.bd,u.tr⟩) 0 true)
 have g3:(a2.set h.next (.row (S.cells ⟨.slice dw S.front.widths.length kw, .slice dpr S.front.pairs.length kpr,u.wd,u.dry,u.wk,u.ct,u.sp,u.bo,u.st,u.ti,u.sk,u.of,u.bd,u.tr⟩) 0 true)).get h.next=some (.row (S.cells ⟨.slice dw S.front.widths.length kw, .slice dpr S.front.pairs.length kpr,u.wd,u.dry,u.wk,u.ct,u.sp,u.bo,u.st,u.ti,u.sk,u.of,u.bd,u.tr⟩) 0 true):=am _ _ _
 have z3:(a2.set h.next (.row (S.cells ⟨.slice dw S.front.widths.length kw, .slice dpr S.front.pairs.length kpr,u.wd,u.dry,u.wk,u.ct,u.sp,u.bo,u.st,u.ti,u.sk,u.of,u.bd,u.tr⟩) 0 true)).get (h.next+1)=some (.row is 0 true):=by rw[Heap.get_set_ne _ _ (by omega)];exact z2
 have n3:a2.next<=(a2.set h.next (.row (S.cells ⟨.slice dw S.front.widths.length kw, .slice dpr S.front.pairs.length kpr,u.wd,u.dry,u.wk,u.ct,u.sp,u.bo,u.st,u.ti,u.sk,u.of,u.bd,u.tr⟩) 0 true)).next:=by simp
 generalize(a2.set h.next (.row (S.cells ⟨.slice dw S.front.widths.length kw, .slice dpr S.front.pairs.length kpr,u.wd,u.dry,u.wk,u.ct,u.sp,u.bo,u.st,u.ti,u.sk,u.of,u.bd,u.tr⟩) 0 true))=a3 at s2 f3 g3 z3 n3⊢
 have w3:rowAt a3 h.next=some (S.cells ⟨.slice dw S.front.widths.length kw, .slice dpr S.front.pairs.length kpr,u.wd,u.dry,u.wk,u.ct,u.sp,u.bo,u.st,u.ti,u.sk,u.of,u.bd,u.tr⟩):=by unfold rowAt;rw[g3];rfl
 clear hl
 refine aC (EY f3.ok (by omega) (q.wd.fr hk f3 fun _ _ hu=>hu.fr hk f3) sm.wd sm.wd2) ?_
 rintro vwd a4 ⟨ywd,s3⟩
 obtain⟨dwd,kwd,rfl⟩:=ywd.len
 have f4:=f3.trans s3
 have n4:=s3.next
 have w4:=s3.row' f3.ok w3
 have z4:=s3.get' f3.ok z3
 have g4:=s3.get' f3.ok g3
 have hl:h.next<a4.next:=aF f4.ok g4
 simp(maxDischargeDepth:=30)only[AA,↓reduceIte,Q1,Q2,Q3,Q4,reduceCtorEq,Q5,Q6,Q7,dk,XH,SC,dT,f4.ok,w4,g4,hl,am,iM,xwd]
 have s4:=oV (Fr.refl f4.ok) hl (.row (S.cells ⟨.slice dw S.front.widths.length kw, .slice dpr S.front.pairs.length kpr, .slice dwd S.front.words.length kwd,u.dry,u.wk,u.ct,u.sp,u.bo,u.st,u.ti,u.sk,u.of,u.bd,u.tr⟩) 0 true)
 have f5:=f4.set (Nat.le_refl _) hl (.row (S.cells ⟨.slice dw S.front.widths.length kw, .slice dpr S.front.pairs.length kpr, .slice dwd S.front.words.length kwd,u.dry,u.wk,u.ct,u.sp,u.bo,u.st,u.ti,u.sk,u.of,u.bd,u.tr⟩) 0 true)
 have g5:(a4.set h.next (.row (S.cells ⟨.slice dw S.front.widths.length kw, .slice dpr S.front.pairs.length kpr, .slice dwd S.front.words.length kwd,u.dry,u.wk,u.ct,u.sp,u.bo,u.st,u.ti,u.sk,u.of,u.bd,u.tr⟩) 0 true)).get h.next=some (.row (S.cells ⟨.slice dw S.front.widths.length kw, .slice dpr S.front.pairs.length kpr, .slice dwd S.front.words.length kwd,u.dry,u.wk,u.ct,u.sp,u.bo,u.st,u.ti,u.sk,u.of,u.bd,u.tr⟩) 0 true):=am _ _ _
 have z5:(a4.set h.next (.row (S.cells ⟨.slice dw S.front.widths.length kw, .slice dpr S.front.pairs.length kpr, .slice dwd S.front.words.length kwd,u.dry,u.wk,u.ct,u.sp,u.bo,u.st,u.ti,u.sk,u.of,u.bd,u.tr⟩) 0 true)).get (h.next+1)=some (.row is 0 true):=by rw[Heap.get_set_ne _ _ (by omega)];exact z4
 have n5:a4.next<=(a4.set h.next (.row (S.cells ⟨.slice dw S.front.widths.length kw, .slice dpr S.front.pairs.length kpr, .slice dwd S.front.words.length kwd,u.dry,u.wk,u.ct,u.sp,u.bo,u.st,u.ti,u.sk,u.of,u.bd,u.tr⟩) 0 true)).next:=by simp
 generalize(a4.set h.next (.row (S.cells ⟨.slice dw S.front.widths.length kw, .slice dpr S.front.pairs.length kpr, .slice dwd S.front.words.length kwd,u.dry,u.wk,u.ct,u.sp,u.bo,u.st,u.ti,u.sk,u.of,u.bd,u.tr⟩) 0 true))=a5 at s4 f5 g5 z5 n5⊢
 have w5:rowAt a5 h.next=some (S.cells ⟨.slice dw S.front.widths.length kw, .slice dpr S.front.pairs.length kpr, .slice dwd S.front.words.length kwd,u.dry,u.wk,u.ct,u.sp,u.bo,u.st,u.ti,u.sk,u.of,u.bd,u.tr⟩):=by unfold rowAt;rw[g5];rfl
 clear hl
 refine bR [(true,0),(true,1),(true,2),(true,4),(true,5),(true,6),(true,8),(true,9),(true,10),(true,3),(false,6),(false,10),(true,12),(true,13),(true,7),(false,10),(true,11),(true,14),(true,15),(true,16),(true,17),(true,18),(true,19),(true,20)] (by kernel_rfl) ?_
 simp(maxDischargeDepth:=30)only[AA,↓reduceIte,Q1,Q2,Q3,Q4,reduceCtorEq,Q5,Q6,Q7,dk,XH,SC,dT,f5.ok,w5,ff,ju,List.append_nil,xdry,xwk,xct]
 refine bk (clone_spans.clone Sp.len f5.ok (by omega) (q.dry.1.fr hk f5) (fun x _=>rfl) (by have:=sm.dry;omega)) ?_
 rintro vdry a6 ⟨ydry,_,s5⟩
 obtain⟨ddry,kdry,rfl⟩:=ydry.value
 have f6:=f5.trans s5
 have n6:=s5.next
 have w6:=s5.row' f5.ok w5
 have z6:=s5.get' f5.ok z5
 have g6:=s5.get' f5.ok g5
 simp(maxDischargeDepth:=30)only[AA,↓reduceIte,Q1,Q2,Q3,Q4,reduceCtorEq,Q5,Q6,Q7,dk,XH,SC,dT,f6.ok,w6,xdry,xwk,xct]
 refine bk (clone_ints.clone aP f6.ok (by omega) (q.wk.1.fr hk f6) (fun x _=>dW x) (by have:=sm.wk;omega)) ?_
 rintro vwk a7 ⟨ywk,_,s6⟩
 obtain⟨dwk,kwk,rfl⟩:=ywk.value
 have f7:=f6.trans s6
 have n7:=s6.next
 have w7:=s6.row' f6.ok w6
 have z7:=s6.get' f6.ok z6
 have g7:=s6.get' f6.ok g6
 simp(maxDischargeDepth:=30)only[AA,↓reduceIte,Q1,Q2,Q3,Q4,reduceCtorEq,Q5,Q6,Q7,dk,XH,SC,dT,f7.ok,w7,xdry,xwk,xct]
 refine bk (clone_coats.clone CoatC.len f7.ok (by omega) (q.ct.1.fr hk f7) (fun x _=>rfl) (by have:=sm.ct;omega)) ?_
 rintro vct a8 ⟨yct,_,s7⟩
 obtain⟨dct,kct,rfl⟩:=yct.value
 have f8:=f7.trans s7
 have n8:=s7.next
 have w8:=s7.row' f7.ok w7
 have z8:=s7.get' f7.ok z7
 have g8:=s7.get' f7.ok g7
 have hl:h.next<a8.next:=aF f8.ok g8
 simp(maxDischargeDepth:=30)only[AA,↓reduceIte,Q1,Q2,Q3,Q4,reduceCtorEq,Q5,Q6,Q7,dk,XH,SC,dT,f8.ok,w8,g8,hl,am,iM,xdry,xwk,xct]
 have s8:=oV (Fr.refl f8.ok) hl (.row (S.cells ⟨.slice dw S.front.widths.length kw, .slice dpr S.front.pairs.length kpr, .slice dwd S.front.words.length kwd, .slice ddry S.coats.dry.length kdry, .slice dwk S.coats.work.length kwk, .slice dct S.coats.coats.length kct,u.sp,u.bo,u.st,u.ti,u.sk,u.of,u.bd,u.tr⟩) 0 true)
 have f9:=f8.set (Nat.le_refl _) hl (.row (S.cells ⟨.slice dw S.front.widths.length kw, .slice dpr S.front.pairs.length kpr, .slice dwd S.front.words.length kwd, .slice ddry S.coats.dry.length kdry, .slice dwk S.coats.work.length kwk, .slice dct S.coats.coats.length kct,u.sp,u.bo,u.st,u.ti,u.sk,u.of,u.bd,u.tr⟩) 0 true)
 have g9:(a8.set h.next (.row (S.cells ⟨.slice dw S.front.widths.length kw, .slice dpr S.front.pairs.length kpr, .slice dwd S.front.words.length kwd, .slice ddry S.coats.dry.length kdry, .slice dwk S.coats.work.length kwk, .slice dct S.coats.coats.length kct,u.sp,u.bo,u.st,u.ti,u.sk,u.of,u.bd,u.tr⟩) 0 true)).get h.next=some (.row (S.cells ⟨.slice dw S.front.widths.length kw, .slice dpr S.front.pairs.length kpr, .slice dwd S.front.words.length kwd, .slice ddry S.coats.dry.length kdry, .slice dwk S.coats.work.length kwk, .slice dct S.coats.coats.length kct,u.sp,u.bo,u.st,u.ti,u.sk,u.of,u.bd,u.tr⟩) 0 true):=am _ _ _
 have z9:(a8.set h.next (.row (S.cells ⟨.slice dw S.front.widths.length kw, .slice dpr S.front.pairs.length kpr, .slice dwd S.front.words.length kwd, .slice ddry S.coats.dry.length kdry, .slice dwk S.coats.work.length kwk, .slice dct S.coats.coats.length kct,u.sp,u.bo,u.st,u.ti,u.sk,u.of,u.bd,u.tr⟩) 0 true)).get (h.next+1)=some (.row is 0 true):=by rw[Heap.get_set_ne _ _ (by omega)];exact z8
 have n9:a8.next<=(a8.set h.next (.row (S.cells ⟨.slice dw S.front.widths.length kw, .slice dpr S.front.pairs.length kpr, .slice dwd S.front.words.length kwd, .slice ddry S.coats.dry.length kdry, .slice dwk S.coats.work.length kwk, .slice dct S.coats.coats.length kct,u.sp,u.bo,u.st,u.ti,u.sk,u.of,u.bd,u.tr⟩) 0 true)).next:=by simp
 generalize(a8.set h.next (.row (S.cells ⟨.slice dw S.front.widths.length kw, .slice dpr S.front.pairs.length kpr, .slice dwd S.front.words.length kwd, .slice ddry S.coats.dry.length kdry, .slice dwk S.coats.work.length kwk, .slice dct S.coats.coats.length kct,u.sp,u.bo,u.st,u.ti,u.sk,u.of,u.bd,u.tr⟩) 0 true))=a9 at s8 f9 g9 z9 n9⊢
 have w9:rowAt a9 h.next=some (S.cells ⟨.slice dw S.front.widths.length kw, .slice dpr S.front.pairs.length kpr, .slice dwd S.front.words.length kwd, .slice ddry S.coats.dry.length kdry, .slice dwk S.coats.work.length kwk, .slice dct S.coats.coats.length kct,u.sp,u.bo,u.st,u.ti,u.sk,u.of,u.bd,u.tr⟩):=by unfold rowAt;rw[g9];rfl
 clear hl
 refine aC (H7 f9.ok (by omega) (q.sp.fr hk f9 fun _ _ hu=>hu.fr hk f9) sm.sp sm.sp2) ?_
 rintro vsp a10 ⟨ysp,s9⟩
 obtain⟨dsp,ksp,rfl⟩:=ysp.len
 have f10:=f9.trans s9
 have n10:=s9.next
 have w10:=s9.row' f9.ok w9
 have z10:=s9.get' f9.ok z9
 have g10:=s9.get' f9.ok g9
 have hl:h.next<a10.next:=aF f10.ok g10
 simp(maxDischargeDepth:=30)only[AA,↓reduceIte,Q1,Q2,Q3,Q4,reduceCtorEq,Q5,Q6,Q7,dk,XH,SC,dT,f10.ok,w10,g10,hl,am,iM,xsp]
 have s10:=oV (Fr.refl f10.ok) hl (.row (S.cells ⟨.slice dw S.front.widths.length kw, .slice dpr S.front.pairs.length kpr, .slice dwd S.front.words.length kwd, .slice ddry S.coats.dry.length kdry, .slice dwk S.coats.work.length kwk, .slice dct S.coats.coats.length kct, .slice dsp S.board.spots.length ksp,u.bo,u.st,u.ti,u.sk,u.of,u.bd,u.tr⟩) 0 true)
 have f11:=f10.set (Nat.le_refl _) hl (.row (S.cells ⟨.slice dw S.front.widths.length kw, .slice dpr S.front.pairs.length kpr, .slice dwd S.front.words.length kwd, .slice ddry S.coats.dry.length kdry, .slice dwk S.coats.work.length kwk, .slice dct S.coats.coats.length kct, .slice dsp S.board.spots.length ksp,u.bo,u.st,u.ti,u.sk,u.of,u.bd,u.tr⟩) 0 true)
 have g11:(a10.set h.next (.row (S.cells ⟨.slice dw S.front.widths.length kw, .slice dpr S.front.pairs.length kpr, .slice dwd S.front.words.length kwd, .slice ddry S.coats.dry.length kdry, .slice dwk S.coats.work.length kwk, .slice dct S.coats.coats.length kct, .slice dsp S.board.spots.length ksp,u.bo,u.st,u.ti,u.sk,u.of,u.bd,u.tr⟩) 0 true)).get h.next=some (.row (S.cells ⟨.slice dw S.front.widths.length kw, .slice dpr S.front.pairs.length kpr, .slice dwd S.front.words.length kwd, .slice ddry S.coats.dry.length kdry, .slice dwk S.coats.work.length kwk, .slice dct S.coats.coats.length kct, .slice dsp S.board.spots.length ksp,u.bo,u.st,u.ti,u.sk,u.of,u.bd,u.tr⟩) 0 true):=am _ _ _
 have z11:(a10.set h.next (.row (S.cells ⟨.slice dw S.front.widths.length kw, .slice dpr S.front.pairs.length kpr, .slice dwd S.front.words.length kwd, .slice ddry S.coats.dry.length kdry, .slice dwk S.coats.work.length kwk, .slice dct S.coats.coats.length kct, .slice dsp S.board.spots.length ksp,u.bo,u.st,u.ti,u.sk,u.of,u.bd,u.tr⟩) 0 true)).get (h.next+1)=some (.row is 0 true):=by rw[Heap.get_set_ne _ _ (by omega)];exact z10
 have n11:a10.next<=(a10.set h.next (.row (S.cells ⟨.slice dw S.front.widths.length kw, .slice dpr S.front.pairs.length kpr, .slice dwd S.front.words.length kwd, .slice ddry S.coats.dry.length kdry, .slice dwk S.coats.work.length kwk, .slice dct S.coats.coats.length kct, .slice dsp S.board.spots.length ksp,u.bo,u.st,u.ti,u.sk,u.of,u.bd,u.tr⟩) 0 true)).next:=by simp
 generalize(a10.set h.next (.row (S.cells ⟨.slice dw S.front.widths.length kw, .slice dpr S.front.pairs.length kpr, .slice dwd S.front.words.length kwd, .slice ddry S.coats.dry.length kdry, .slice dwk S.coats.work.length kwk, .slice dct S.coats.coats.length kct, .slice dsp S.board.spots.length ksp,u.bo,u.st,u.ti,u.sk,u.of,u.bd,u.tr⟩) 0 true))=a11 at s10 f11 g11 z11 n11⊢
 have w11:rowAt a11 h.next=some (S.cells ⟨.slice dw S.front.widths.length kw, .slice dpr S.front.pairs.length kpr, .slice dwd S.front.words.length kwd, .slice ddry S.coats.dry.length kdry, .slice dwk S.coats.work.length kwk, .slice dct S.coats.coats.length kct, .slice dsp S.board.spots.length ksp,u.bo,u.st,u.ti,u.sk,u.of,u.bd,u.tr⟩):=by unfold rowAt;rw[g11];rfl
 clear hl
 refine aC (clone_ints.clone aP f11.ok (by omega) (q.bo.1.fr hk f11) (fun x _=>dW x) (by have:=sm.bo;omega)) ?_
 rintro vbo a12 ⟨ybo,_,s11⟩
 obtain⟨dbo,kbo,rfl⟩:=ybo.value
 have f12:=f11.trans s11
 have n12:=s11.next
 have w12:=s11.row' f11.ok w11
 have z12:=s11.get' f11.ok z11
 have g12:=s11.get' f11.ok g11
 have hl:h.next<a12.next:=aF f12.ok g12
 simp(maxDischargeDepth:=30)only[AA,↓reduceIte,Q1,Q2,Q3,Q4,reduceCtorEq,Q5,Q6,Q7,dk,XH,SC,dT,f12.ok,w12,g12,hl,am,iM,xbo]
 have s12:=oV (Fr.refl f12.ok) hl (.row (S.cells ⟨.slice dw S.front.widths.length kw, .slice dpr S.front.pairs.length kpr, .slice dwd S.front.words.length kwd, .slice ddry S.coats.dry.length kdry, .slice dwk S.coats.work.length kwk, .slice dct S.coats.coats.length kct, .slice dsp S.board.spots.length ksp, .slice dbo S.bench.boards.length kbo,u.st,u.ti,u.sk,u.of,u.bd,u.tr⟩) 0 true)
 have f13:=f12.set (Nat.le_refl _) hl (.row (S.cells ⟨.slice dw S.front.widths.length kw, .slice dpr S.front.pairs.length kpr, .slice dwd S.front.words.length kwd, .slice ddry S.coats.dry.length kdry, .slice dwk S.coats.work.length kwk, .slice dct S.coats.coats.length kct, .slice dsp S.board.spots.length ksp, .slice dbo S.bench.boards.length kbo,u.st,u.ti,u.sk,u.of,u.bd,u.tr⟩) 0 true)
 have g13:(a12.set h.next (.row (S.cells ⟨.slice dw S.front.widths.length kw, .slice dpr S.front.pairs.length kpr, .slice dwd S.front.words.length kwd, .slice ddry S.coats.dry.length kdry, .slice dwk S.coats.work.length kwk, .slice dct S.coats.coats.length kct, .slice dsp S.board.spots.length ksp, .slice dbo S.bench.boards.length kbo,u.st,u.ti,u.sk,u.of,u.bd,u.tr⟩) 0 true)).get h.next=some (.row (S.cells ⟨.slice dw S.front.widths.length kw, .slice dpr S.front.pairs.length kpr, .slice dwd S.front.words.length kwd, .slice ddry S.coats.dry.length kdry, .slice dwk S.coats.work.length kwk, .slice dct S.coats.coats.length kct, .slice dsp S.board.spots.length ksp, .slice dbo S.bench.boards.length kbo,u.st,u.ti,u.sk,u.of,u.bd,u.tr⟩) 0 true):=am _ _ _
 have z13:(a12.set h.next (.row (S.cells ⟨.slice dw S.front.widths.length kw, .slice dpr S.front.pairs.length kpr, .slice dwd S.front.words.length kwd, .slice ddry S.coats.dry.length kdry, .slice dwk S.coats.work.length kwk, .slice dct S.coats.coats.length kct, .slice dsp S.board.spots.length ksp, .slice dbo S.bench.boards.length kbo,u.st,u.ti,u.sk,u.of,u.bd,u.tr⟩) 0 true)).get (h.next+1)=some (.row is 0 true):=by rw[Heap.get_set_ne _ _ (by omega)];exact z12
 have n13:a12.next<=(a12.set h.next (.row (S.cells ⟨.slice dw S.front.widths.length kw, .slice dpr S.front.pairs.length kpr, .slice dwd S.front.words.length kwd, .slice ddry S.coats.dry.length kdry, .slice dwk S.coats.work.length kwk, .slice dct S.coats.coats.length kct, .slice dsp S.board.spots.length ksp, .slice dbo S.bench.boards.length kbo,u.st,u.ti,u.sk,u.of,u.bd,u.tr⟩) 0 true)).next:=by simp
 generalize(a12.set h.next (.row (S.cells ⟨.slice dw S.front.widths.length kw, .slice dpr S.front.pairs.length kpr, .slice dwd S.front.words.length kwd, .slice ddry S.coats.dry.length kdry, .slice dwk S.coats.work.length kwk, .slice dct S.coats.coats.length kct, .slice dsp S.board.spots.length ksp, .slice dbo S.bench.boards.length kbo,u.st,u.ti,u.sk,u.of,u.bd,u.tr⟩) 0 true))=a13 at s12 f13 g13 z13 n13⊢
 have w13:rowAt a13 h.next=some (S.cells ⟨.slice dw S.front.widths.length kw, .slice dpr S.front.pairs.length kpr, .slice dwd S.front.words.length kwd, .slice ddry S.coats.dry.length kdry, .slice dwk S.coats.work.length kwk, .slice dct S.coats.coats.length kct, .slice dsp S.board.spots.length ksp, .slice dbo S.bench.boards.length kbo,u.st,u.ti,u.sk,u.of,u.bd,u.tr⟩):=by unfold rowAt;rw[g13];rfl
 clear hl
 refine aC (Ca f13.ok (by omega) (q.st.fr hk f13 fun _ _ hu=>hu.fr hk f13) sm.st sm.st2) ?_
 rintro vst a14 ⟨yst,s13⟩
 obtain⟨dst,kst,rfl⟩:=yst.len
 have f14:=f13.trans s13
 have n14:=s13.next
 have w14:=s13.row' f13.ok w13
 have z14:=s13.get' f13.ok z13
 have g14:=s13.get' f13.ok g13
 have hl:h.next<a14.next:=aF f14.ok g14
 simp(maxDischargeDepth:=30)only[AA,↓reduceIte,Q1,Q2,Q3,Q4,reduceCtorEq,Q5,Q6,Q7,dk,XH,SC,dT,f14.ok,w14,g14,hl,am,iM,xst]
 have s14:=oV (Fr.refl f14.ok) hl (.row (S.cells ⟨.slice dw S.front.widths.length kw, .slice dpr S.front.pairs.length kpr, .slice dwd S.front.words.length kwd, .slice ddry S.coats.dry.length kdry, .slice dwk S.coats.work.length kwk, .slice dct S.coats.coats.length kct, .slice dsp S.board.spots.length ksp, .slice dbo S.bench.boards.length kbo, .slice dst S.bench.strokes.length kst,u.ti,u.sk,u.of,u.bd,u.tr⟩) 0 true)
 have f15:=f14.set (Nat.le_refl _) hl (.row (S.cells ⟨.slice dw S.front.widths.length kw, .slice dpr S.front.pairs.length kpr, .slice dwd S.front.words.length kwd, .slice ddry S.coats.dry.length kdry, .slice dwk S.coats.work.length kwk, .slice dct S.coats.coats.length kct, .slice dsp S.board.spots.length ksp, .slice dbo S.bench.boards.length kbo, .slice dst S.bench.strokes.length kst,u.ti,u.sk,u.of,u.bd,u.tr⟩) 0 true)
 have g15:(a14.set h.next (.row (S.cells ⟨.slice dw S.front.widths.length kw, .slice dpr S.front.pairs.length kpr, .slice dwd S.front.words.length kwd, .slice ddry S.coats.dry.length kdry, .slice dwk S.coats.work.length kwk, .slice dct S.coats.coats.length kct, .slice dsp S.board.spots.length ksp, .slice dbo S.bench.boards.length kbo, .slice dst S.bench.strokes.length kst,u.ti,u.sk,u.of,u.bd,u.tr⟩) 0 true)).get h.next=some (.row (S.cells ⟨.slice dw S.front.widths.length kw, .slice dpr S.front.pairs.length kpr, .slice dwd S.front.words.length kwd, .slice ddry S.coats.dry.length kdry, .slice dwk S.coats.work.length kwk, .slice dct S.coats.coats.length kct, .slice dsp S.board.spots.length ksp, .slice dbo S.bench.boards.length kbo, .slice dst S.bench.strokes.length kst,u.ti,u.sk,u.of,u.bd,u.tr⟩) 0 true):=am _ _ _
 have z15:(a14.set h.next (.row (S.cells ⟨.slice dw S.front.widths.length kw, .slice dpr S.front.pairs.length kpr, .slice dwd S.front.words.length kwd, .slice ddry S.coats.dry.length kdry, .slice dwk S.coats.work.length kwk, .slice dct S.coats.coats.length kct, .slice dsp S.board.spots.length ksp, .slice dbo S.bench.boards.length kbo, .slice dst S.bench.strokes.length kst,u.ti,u.sk,u.of,u.bd,u.tr⟩) 0 true)).get (h.next+1)=some (.row is 0 true):=by rw[Heap.get_set_ne _ _ (by omega)];exact z14
 have n15:a14.next<=(a14.set h.next (.row (S.cells ⟨.slice dw S.front.widths.length kw, .slice dpr S.front.pairs.length kpr, .slice dwd S.front.words.length kwd, .slice ddry S.coats.dry.length kdry, .slice dwk S.coats.work.length kwk, .slice dct S.coats.coats.length kct, .slice dsp S.board.spots.length ksp, .slice dbo S.bench.boards.length kbo, .slice dst S.bench.strokes.length kst,u.ti,u.sk,u.of,u.bd,u.tr⟩) 0 true)).next:=by simp
 generalize(a14.set h.next (.row (S.cells ⟨.slice dw S.front.widths.length kw, .slice dpr S.front.pairs.length kpr, .slice dwd S.front.words.length kwd, .slice ddry S.coats.dry.length kdry, .slice dwk S.coats.work.length kwk, .slice dct S.coats.coats.length kct, .slice dsp S.board.spots.length ksp, .slice dbo S.bench.boards.length kbo, .slice dst S.bench.strokes.length kst,u.ti,u.sk,u.of,u.bd,u.tr⟩) 0 true))=a15 at s14 f15 g15 z15 n15⊢
 have w15:rowAt a15 h.next=some (S.cells ⟨.slice dw S.front.widths.length kw, .slice dpr S.front.pairs.length kpr, .slice dwd S.front.words.length kwd, .slice ddry S.coats.dry.length kdry, .slice dwk S.coats.work.length kwk, .slice dct S.coats.coats.length kct, .slice dsp S.board.spots.length ksp, .slice dbo S.bench.boards.length kbo, .slice dst S.bench.strokes.length kst,u.ti,u.sk,u.of,u.bd,u.tr⟩):=by unfold rowAt;rw[g15];rfl
 clear hl
 refine bR [(true,0),(true,1),(true,2),(true,4),(true,5),(true,3),(false,5),(true,7),(true,8),(true,6),(true,9),(true,10),(true,11)] (by kernel_rfl) ?_
 simp(maxDischargeDepth:=30)only[AA,↓reduceIte,Q1,Q2,Q3,Q4,reduceCtorEq,Q5,Q6,Q7,dk,XH,SC,dT,f15.ok,w15,ff,ju,List.append_nil,xti,xsk]
 refine bk (clone_tins.clone Tin.len f15.ok (by omega) (q.ti.1.fr hk f15) (fun x _=>rfl) (by have:=sm.ti;omega)) ?_
 rintro vti a16 ⟨yti,_,s15⟩
 obtain⟨dti,kti,rfl⟩:=yti.value
 have f16:=f15.trans s15
 have n16:=s15.next
 have w16:=s15.row' f15.ok w15
 have z16:=s15.get' f15.ok z15
 have g16:=s15.get' f15.ok g15
 simp(maxDischargeDepth:=30)only[AA,↓reduceIte,Q1,Q2,Q3,Q4,reduceCtorEq,Q5,Q6,Q7,dk,XH,SC,dT,f16.ok,w16,xti,xsk]
 refine bk (clone_ints.clone aP f16.ok (by omega) (qs.1.fr hk f16) (fun x _=>dW x) (by have:=sm.sk;omega)) ?_
 rintro vsk a17 ⟨ysk,_,s16⟩
 obtain⟨dsk,ksk,rfl⟩:=ysk.value
 have f17:=f16.trans s16
 have n17:=s16.next
 have w17:=s16.row' f16.ok w16
 have z17:=s16.get' f16.ok z16
 have g17:=s16.get' f16.ok g16
 have hl:h.next<a17.next:=aF f17.ok g17
 simp(maxDischargeDepth:=30)only[AA,↓reduceIte,Q1,Q2,Q3,Q4,reduceCtorEq,Q5,Q6,Q7,dk,XH,SC,dT,f17.ok,w17,g17,hl,am,iM,xti,xsk]
 have s17:=oV (Fr.refl f17.ok) hl (.row (S.cells ⟨.slice dw S.front.widths.length kw, .slice dpr S.front.pairs.length kpr, .slice dwd S.front.words.length kwd, .slice ddry S.coats.dry.length kdry, .slice dwk S.coats.work.length kwk, .slice dct S.coats.coats.length kct, .slice dsp S.board.spots.length ksp, .slice dbo S.bench.boards.length kbo, .slice dst S.bench.strokes.length kst, .slice dti S.tints.tins.length kti, .slice dsk S.stock.length ksk,u.of,u.bd,u.tr⟩) 0 true)
 have f18:=f17.set (Nat.le_refl _) hl (.row (S.cells ⟨.slice dw S.front.widths.length kw, .slice dpr S.front.pairs.length kpr, .slice dwd S.front.words.length kwd, .slice ddry S.coats.dry.length kdry, .slice dwk S.coats.work.length kwk, .slice dct S.coats.coats.length kct, .slice dsp S.board.spots.length ksp, .slice dbo S.bench.boards.length kbo, .slice dst S.bench.strokes.length kst, .slice dti S.tints.tins.length kti, .slice dsk S.stock.length ksk,u.of,u.bd,u.tr⟩) 0 true)
 have g18:(a17.set h.next (.row (S.cells ⟨.slice dw S.front.widths.length kw, .slice dpr S.front.pairs.length kpr, .slice dwd S.front.words.length kwd, .slice ddry S.coats.dry.length kdry, .slice dwk S.coats.work.length kwk, .slice dct S.coats.coats.length kct, .slice dsp S.board.spots.length ksp, .slice dbo S.bench.boards.length kbo, .slice dst S.bench.strokes.length kst, .slice dti S.tints.tins.length kti, .slice dsk S.stock.length ksk,u.of,u.bd,u.tr⟩) 0 true)).get h.next=some (.row (S.cells ⟨.slice dw S.front.widths.length kw, .slice dpr S.front.pairs.length kpr, .slice dwd S.front.words.length kwd, .slice ddry S.coats.dry.length kdry, .slice dwk S.coats.work.length kwk, .slice dct S.coats.coats.length kct, .slice dsp S.board.spots.length ksp, .slice dbo S.bench.boards.length kbo, .slice dst S.bench.strokes.length kst, .slice dti S.tints.tins.length kti, .slice dsk S.stock.length ksk,u.of,u.bd,u.tr⟩) 0 true):=am _ _ _
 have z18:(a17.set h.next (.row (S.cells ⟨.slice dw S.front.widths.length kw, .slice dpr S.front.pairs.length kpr, .slice dwd S.front.words.length kwd, .slice ddry S.coats.dry.length kdry, .slice dwk S.coats.work.length kwk, .slice dct S.coats.coats.length kct, .slice dsp S.board.spots.length ksp, .slice dbo S.bench.boards.length kbo, .slice dst S.bench.strokes.length kst, .slice dti S.tints.tins.length kti, .slice dsk S.stock.length ksk,u.of,u.bd,u.tr⟩) 0 true)).get (h.next+1)=some (.row is 0 true):=by rw[Heap.get_set_ne _ _ (by omega)];exact z17
 have n18:a17.next<=(a17.set h.next (.row (S.cells ⟨.slice dw S.front.widths.length kw, .slice dpr S.front.pairs.length kpr, .slice dwd S.front.words.length kwd, .slice ddry S.coats.dry.length kdry, .slice dwk S.coats.work.length kwk, .slice dct S.coats.coats.length kct, .slice dsp S.board.spots.length ksp, .slice dbo S.bench.boards.length kbo, .slice dst S.bench.strokes.length kst, .slice dti S.tints.tins.length kti, .slice dsk S.stock.length ksk,u.of,u.bd,u.tr⟩) 0 true)).next:=by simp
 generalize(a17.set h.next (.row (S.cells ⟨.slice dw S.front.widths.length kw, .slice dpr S.front.pairs.length kpr, .slice dwd S.front.words.length kwd, .slice ddry S.coats.dry.length kdry, .slice dwk S.coats.work.length kwk, .slice dct S.coats.coats.length kct, .slice dsp S.board.spots.length ksp, .slice dbo S.bench.boards.length kbo, .slice dst S.bench.strokes.length kst, .slice dti S.tints.tins.length kti, .slice dsk S.stock.length ksk,u.of,u.bd,u.tr⟩) 0 true))=a18 at s17 f18 g18 z18 n18⊢
 have w18:rowAt a18 h.next=some (S.cells ⟨.slice dw S.front.widths.length kw, .slice dpr S.front.pairs.length kpr, .slice dwd S.front.words.length kwd, .slice ddry S.coats.dry.length kdry, .slice dwk S.coats.work.length kwk, .slice dct S.coats.coats.length kct, .slice dsp S.board.spots.length ksp, .slice dbo S.bench.boards.length kbo, .slice dst S.bench.strokes.length kst, .slice dti S.tints.tins.length kti, .slice dsk S.stock.length ksk,u.of,u.bd,u.tr⟩):=by unfold rowAt;rw[g18];rfl
 clear hl
 refine bR [(true,0),(true,1),(true,2),(true,4),(true,5),(true,6),(true,8),(true,9),(true,10),(true,3),(false,6),(false,10),(true,12),(true,13),(true,7),(false,10),(true,11),(true,14),(true,15),(true,16),(true,17),(true,18),(true,19),(true,20)] (by kernel_rfl) ?_
 simp(maxDischargeDepth:=30)only[AA,↓reduceIte,Q1,Q2,Q3,Q4,reduceCtorEq,Q5,Q6,Q7,dk,XH,SC,dT,f18.ok,w18,ff,ju,List.append_nil,xof,xbd,xtr]
 refine bk (clone_ints.clone aP f18.ok (by omega) (q.of.1.fr hk f18) (fun x _=>dW x) (by have:=sm.of;omega)) ?_
 rintro vof a19 ⟨yof,_,s18⟩
 obtain⟨dof,kof,rfl⟩:=yof.value
 have f19:=f18.trans s18
 have n19:=s18.next
 have w19:=s18.row' f18.ok w18
 have z19:=s18.get' f18.ok z18
 have g19:=s18.get' f18.ok g18
 simp(maxDischargeDepth:=30)only[AA,↓reduceIte,Q1,Q2,Q3,Q4,reduceCtorEq,Q5,Q6,Q7,dk,XH,SC,dT,f19.ok,w19,xof,xbd,xtr]
 refine bk (clone_boards.clone Board.len f19.ok (by omega) (q.bd.1.fr hk f19) (fun x _=>rfl) (by have:=sm.bd;omega)) ?_
 rintro vbd a20 ⟨ybd,_,s19⟩
 obtain⟨dbd,kbd,rfl⟩:=ybd.value
 have f20:=f19.trans s19
 have n20:=s19.next
 have w20:=s19.row' f19.ok w19
 have z20:=s19.get' f19.ok z19
 have g20:=s19.get' f19.ok g19
 simp(maxDischargeDepth:=30)only[AA,↓reduceIte,Q1,Q2,Q3,Q4,reduceCtorEq,Q5,Q6,Q7,dk,XH,SC,dT,f20.ok,w20,xof,xbd,xtr]
 refine bk (clone_tars.clone Tar.len f20.ok (by omega) (q.tr.1.fr hk f20) (fun x _=>rfl) (by have:=sm.tr;omega)) ?_
 rintro vtr a21 ⟨ytr,_,s20⟩
 obtain⟨dtr,ktr,rfl⟩:=ytr.value
 have f21:=f20.trans s20
 have n21:=s20.next
 have w21:=s20.row' f20.ok w20
 have z21:=s20.get' f20.ok z20
 have g21:=s20.get' f20.ok g20
 have hl:h.next<a21.next:=aF f21.ok g21
 have hz:=aF f21.ok z21
 have wz:fm is 0 (S.cells ⟨.slice dw S.front.widths.length kw, .slice dpr S.front.pairs.length kpr, .slice dwd S.front.words.length kwd, .slice ddry S.coats.dry.length kdry, .slice dwk S.coats.work.length kwk, .slice dct S.coats.coats.length kct, .slice dsp S.board.spots.length ksp, .slice dbo S.bench.boards.length kbo, .slice dst S.bench.strokes.length kst, .slice dti S.tints.tins.length kti, .slice dsk S.stock.length ksk, .slice dof S.prices.offs.length kof, .slice dbd S.prices.boards.length kbd, .slice dtr S.prices.tars.length ktr⟩)=some (S.cells ⟨.slice dw S.front.widths.length kw, .slice dpr S.front.pairs.length kpr, .slice dwd S.front.words.length kwd, .slice ddry S.coats.dry.length kdry, .slice dwk S.coats.work.length kwk, .slice dct S.coats.coats.length kct, .slice dsp S.board.spots.length ksp, .slice dbo S.bench.boards.length kbo, .slice dst S.bench.strokes.length kst, .slice dti S.tints.tins.length kti, .slice dsk S.stock.length ksk, .slice dof S.prices.offs.length kof, .slice dbd S.prices.boards.length kbd, .slice dtr S.prices.tars.length ktr⟩):=sB _ _ rfl
 have az:bF (S.cells ⟨.slice dw S.front.widths.length kw, .slice dpr S.front.pairs.length kpr, .slice dwd S.front.words.length kwd, .slice ddry S.coats.dry.length kdry, .slice dwk S.coats.work.length kwk, .slice dct S.coats.coats.length kct, .slice dsp S.board.spots.length ksp, .slice dbo S.bench.boards.length kbo, .slice dst S.bench.strokes.length kst, .slice dti S.tints.tins.length kti, .slice dsk S.stock.length ksk, .slice dof S.prices.offs.length kof, .slice dbd S.prices.boards.length kbd, .slice dtr S.prices.tars.length ktr⟩)=true:=rfl
 simp(maxDischargeDepth:=30)only[AA,↓reduceIte,Q1,Q2,Q3,Q4,reduceCtorEq,Q5,Q6,Q7,dk,XH,SC,dT,f21.ok,w21,g21,hl,z21,hz,wz,az,am,iM,xof,xbd,xtr]
 have s21:=oV (Fr.refl f21.ok) hl (.row (S.cells ⟨.slice dw S.front.widths.length kw, .slice dpr S.front.pairs.length kpr, .slice dwd S.front.words.length kwd, .slice ddry S.coats.dry.length kdry, .slice dwk S.coats.work.length kwk, .slice dct S.coats.coats.length kct, .slice dsp S.board.spots.length ksp, .slice dbo S.bench.boards.length kbo, .slice dst S.bench.strokes.length kst, .slice dti S.tints.tins.length kti, .slice dsk S.stock.length ksk, .slice dof S.prices.offs.length kof, .slice dbd S.prices.boards.length kbd, .slice dtr S.prices.tars.length ktr⟩) 0 true)
 have f22:=f21.set (Nat.le_refl _) hl (.row (S.cells ⟨.slice dw S.front.widths.length kw, .slice dpr S.front.pairs.length kpr, .slice dwd S.front.words.length kwd, .slice ddry S.coats.dry.length kdry, .slice dwk S.coats.work.length kwk, .slice dct S.coats.coats.length kct, .slice dsp S.board.spots.length ksp, .slice dbo S.bench.boards.length kbo, .slice dst S.bench.strokes.length kst, .slice dti S.tints.tins.length kti, .slice dsk S.stock.length ksk, .slice dof S.prices.offs.length kof, .slice dbd S.prices.boards.length kbd, .slice dtr S.prices.tars.length ktr⟩) 0 true)
 have g22:(a21.set h.next (.row (S.cells ⟨.slice dw S.front.widths.length kw, .slice dpr S.front.pairs.length kpr, .slice dwd S.front.words.length kwd, .slice ddry S.coats.dry.length kdry, .slice dwk S.coats.work.length kwk, .slice dct S.coats.coats.length kct, .slice dsp S.board.spots.length ksp, .slice dbo S.bench.boards.length kbo, .slice dst S.bench.strokes.length kst, .slice dti S.tints.tins.length kti, .slice dsk S.stock.length ksk, .slice dof S.prices.offs.length kof, .slice dbd S.prices.boards.length kbd, .slice dtr S.prices.tars.length ktr⟩) 0 true)).get h.next=some (.row (S.cells ⟨.slice dw S.front.widths.length kw, .slice dpr S.front.pairs.length kpr, .slice dwd S.front.words.length kwd, .slice ddry S.coats.dry.length kdry, .slice dwk S.coats.work.length kwk, .slice dct S.coats.coats.length kct, .slice dsp S.board.spots.length ksp, .slice dbo S.bench.boards.length kbo, .slice dst S.bench.strokes.length kst, .slice dti S.tints.tins.length kti, .slice dsk S.stock.length ksk, .slice dof S.prices.offs.length kof, .slice dbd S.prices.boards.length kbd, .slice dtr S.prices.tars.length ktr⟩) 0 true):=am _ _ _
 have z22:(a21.set h.next (.row (S.cells ⟨.slice dw S.front.widths.length kw, .slice dpr S.front.pairs.length kpr, .slice dwd S.front.words.length kwd, .slice ddry S.coats.dry.length kdry, .slice dwk S.coats.work.length kwk, .slice dct S.coats.coats.length kct, .slice dsp S.board.spots.length ksp, .slice dbo S.bench.boards.length kbo, .slice dst S.bench.strokes.length kst, .slice dti S.tints.tins.length kti, .slice dsk S.stock.length ksk, .slice dof S.prices.offs.length kof, .slice dbd S.prices.boards.length kbd, .slice dtr S.prices.tars.length ktr⟩) 0 true)).get (h.next+1)=some (.row is 0 true):=by rw[Heap.get_set_ne _ _ (by omega)];exact z21
 have n22:a21.next<=(a21.set h.next (.row (S.cells ⟨.slice dw S.front.widths.length kw, .slice dpr S.front.pairs.length kpr, .slice dwd S.front.words.length kwd, .slice ddry S.coats.dry.length kdry, .slice dwk S.coats.work.length kwk, .slice dct S.coats.coats.length kct, .slice dsp S.board.spots.length ksp, .slice dbo S.bench.boards.length kbo, .slice dst S.bench.strokes.length kst, .slice dti S.tints.tins.length kti, .slice dsk S.stock.length ksk, .slice dof S.prices.offs.length kof, .slice dbd S.prices.boards.length kbd, .slice dtr S.prices.tars.length ktr⟩) 0 true)).next:=by simp
 generalize(a21.set h.next (.row (S.cells ⟨.slice dw S.front.widths.length kw, .slice dpr S.front.pairs.length kpr, .slice dwd S.front.words.length kwd, .slice ddry S.coats.dry.length kdry, .slice dwk S.coats.work.length kwk, .slice dct S.coats.coats.length kct, .slice dsp S.board.spots.length ksp, .slice dbo S.bench.boards.length kbo, .slice dst S.bench.strokes.length kst, .slice dti S.tints.tins.length kti, .slice dsk S.stock.length ksk, .slice dof S.prices.offs.length kof, .slice dbd S.prices.boards.length kbd, .slice dtr S.prices.tars.length ktr⟩) 0 true))=a22 at s21 f22 g22 z22 n22⊢
 have w22:rowAt a22 h.next=some (S.cells ⟨.slice dw S.front.widths.length kw, .slice dpr S.front.pairs.length kpr, .slice dwd S.front.words.length kwd, .slice ddry S.coats.dry.length kdry, .slice dwk S.coats.work.length kwk, .slice dct S.coats.coats.length kct, .slice dsp S.board.spots.length ksp, .slice dbo S.bench.boards.length kbo, .slice dst S.bench.strokes.length kst, .slice dti S.tints.tins.length kti, .slice dsk S.stock.length ksk, .slice dof S.prices.offs.length kof, .slice dbd S.prices.boards.length kbd, .slice dtr S.prices.tars.length ktr⟩):=by unfold rowAt;rw[g22];rfl
 clear hl
 clear hz
 have hz:=aF f22.ok z22
 have sz:=oV (Fr.refl f22.ok) hz (.row (S.cells ⟨.slice dw S.front.widths.length kw, .slice dpr S.front.pairs.length kpr, .slice dwd S.front.words.length kwd, .slice ddry S.coats.dry.length kdry, .slice dwk S.coats.work.length kwk, .slice dct S.coats.coats.length kct, .slice dsp S.board.spots.length ksp, .slice dbo S.bench.boards.length kbo, .slice dst S.bench.strokes.length kst, .slice dti S.tints.tins.length kti, .slice dsk S.stock.length ksk, .slice dof S.prices.offs.length kof, .slice dbd S.prices.boards.length kbd, .slice dtr S.prices.tars.length ktr⟩) 0 true)
 have fz:=f22.set (i:=h.next+1) (by omega) hz (.row (S.cells ⟨.slice dw S.front.widths.length kw, .slice dpr S.front.pairs.length kpr, .slice dwd S.front.words.length kwd, .slice ddry S.coats.dry.length kdry, .slice dwk S.coats.work.length kwk, .slice dct S.coats.coats.length kct, .slice dsp S.board.spots.length ksp, .slice dbo S.bench.boards.length kbo, .slice dst S.bench.strokes.length kst, .slice dti S.tints.tins.length kti, .slice dsk S.stock.length ksk, .slice dof S.prices.offs.length kof, .slice dbd S.prices.boards.length kbd, .slice dtr S.prices.tars.length ktr⟩) 0 true)
 have nz:(a22.set (h.next+1) (.row (S.cells ⟨.slice dw S.front.widths.length kw, .slice dpr S.front.pairs.length kpr, .slice dwd S.front.words.length kwd, .slice ddry S.coats.dry.length kdry, .slice dwk S.coats.work.length kwk, .slice dct S.coats.coats.length kct, .slice dsp S.board.spots.length ksp, .slice dbo S.bench.boards.length kbo, .slice dst S.bench.strokes.length kst, .slice dti S.tints.tins.length kti, .slice dsk S.stock.length ksk, .slice dof S.prices.offs.length kof, .slice dbd S.prices.boards.length kbd, .slice dtr S.prices.tars.length ktr⟩) 0 true)).next=a22.next:=by simp
 generalize(a22.set (h.next+1) (.row (S.cells ⟨.slice dw S.front.widths.length kw, .slice dpr S.front.pairs.length kpr, .slice dwd S.front.words.length kwd, .slice ddry S.coats.dry.length kdry, .slice dwk S.coats.work.length kwk, .slice dct S.coats.coats.length kct, .slice dsp S.board.spots.length ksp, .slice dbo S.bench.boards.length kbo, .slice dst S.bench.strokes.length kst, .slice dti S.tints.tins.length kti, .slice dsk S.stock.length ksk, .slice dof S.prices.offs.length kof, .slice dbd S.prices.boards.length kbd, .slice dtr S.prices.tars.length ktr⟩) 0 true))=z at sz fz nz⊢
 have t22:=Gr.refl (X:=(· =h.next)) f22.ok
 have t21:Gr (· =h.next) a21 a22:=Gr.trans (s21) t22
 have t20:Gr (· =h.next) a20 a22:=Gr.trans (s20.gr) t21
 have t19:Gr (· =h.next) a19 a22:=Gr.trans (s19.gr) t20
 have t18:Gr (· =h.next) a18 a22:=Gr.trans (s18.gr) t19
 have t17:Gr (· =h.next) a17 a22:=Gr.trans (s17) t18
 have t16:Gr (· =h.next) a16 a22:=Gr.trans (s16.gr) t17
 have t15:Gr (· =h.next) a15 a22:=Gr.trans (s15.gr) t16
 have t14:Gr (· =h.next) a14 a22:=Gr.trans (s14) t15
 have t13:Gr (· =h.next) a13 a22:=Gr.trans (s13.gr) t14
 have t12:Gr (· =h.next) a12 a22:=Gr.trans (s12) t13
 have t11:Gr (· =h.next) a11 a22:=Gr.trans (s11.gr) t12
 have t10:Gr (· =h.next) a10 a22:=Gr.trans (s10) t11
 have t9:Gr (· =h.next) a9 a22:=Gr.trans (s9.gr) t10
 have t8:Gr (· =h.next) a8 a22:=Gr.trans (s8) t9
 have t7:Gr (· =h.next) a7 a22:=Gr.trans (s7.gr) t8
 have t6:Gr (· =h.next) a6 a22:=Gr.trans (s6.gr) t7
 have t5:Gr (· =h.next) a5 a22:=Gr.trans (s5.gr) t6
 have t4:Gr (· =h.next) a4 a22:=Gr.trans (s4) t5
 have t3:Gr (· =h.next) a3 a22:=Gr.trans (s3.gr) t4
 have t2:Gr (· =h.next) a2 a22:=Gr.trans (s2) t3
 have t1:Gr (· =h.next) a1 a22:=Gr.trans (s1.gr) t2
 have t0:Gr (· =h.next) a0 a22:=Gr.trans (s0.gr) t1
 have bsk: ∀b,ay (.slice dsk S.stock.length ksk)=some b ->a16.next<=b/\ b<a17.next:=fun b hb=>ysk.blk_lt f17.ok hb
 refine⟨⟨⟨.slice dw S.front.widths.length kw, .slice dpr S.front.pairs.length kpr, .slice dwd S.front.words.length kwd, .slice ddry S.coats.dry.length kdry, .slice dwk S.coats.work.length kwk, .slice dct S.coats.coats.length kct, .slice dsp S.board.spots.length ksp, .slice dbo S.bench.boards.length kbo, .slice dst S.bench.strokes.length kst, .slice dti S.tints.tins.length kti, .slice dsk S.stock.length ksk, .slice dof S.prices.offs.length kof, .slice dbd S.prices.boards.length kbd, .slice dtr S.prices.tars.length ktr⟩,rfl,⟨?_,?_,?_,?_,?_,?_,?_,?_,?_,?_,?_,?_,?_⟩,?_⟩,fz⟩
 ·exact(LP.fin (P':=fun b=>a0.next<=b/\ b<a1.next) (yw.lp aP (P:=fun b=>a0.next<=b/\ b<a1.next) f1.ok fun b h1 h2 _=>⟨h1,h2⟩) t1 fun b hb=>⟨by omega,hb.2,hb⟩).fin sz fun b hb=>⟨by omega,by have:=t1.next;omega,by omega,by have:=t1.next;omega,fun e=>by have:=bsk b e;omega⟩
 ·exact(LP.fin (P':=fun b=>a1.next<=b/\ b<a2.next) (ypr.lp LPair.len (P:=fun b=>a1.next<=b/\ b<a2.next) f2.ok fun b h1 h2 _=>⟨h1,h2⟩) t2 fun b hb=>⟨by omega,hb.2,hb⟩).fin sz fun b hb=>⟨by omega,by have:=t2.next;omega,by omega,by have:=t2.next;omega,fun e=>by have:=bsk b e;omega⟩
 ·exact(LN.fin (P':=fun b=>a3.next<=b/\ b<a4.next) ywd t4 (fun b hb=>⟨by omega,hb.2,hb⟩) (fun _ _ hu hg=>hu.keep hg) fun _ _ hu hm=>hu.mono hm).fin sz (fun b hb=>⟨by omega,by have:=t4.next;omega,by omega,by have:=t4.next;omega,fun e=>by have:=bsk b e;omega⟩) (fun _ _ hu hg=>hu.keep hg) fun _ _ hu hm=>hu.mono hm
 ·exact(LP.fin (P':=fun b=>a5.next<=b/\ b<a6.next) (ydry.lp Sp.len (P:=fun b=>a5.next<=b/\ b<a6.next) f6.ok fun b h1 h2 _=>⟨h1,h2⟩) t6 fun b hb=>⟨by omega,hb.2,hb⟩).fin sz fun b hb=>⟨by omega,by have:=t6.next;omega,by omega,by have:=t6.next;omega,fun e=>by have:=bsk b e;omega⟩
 ·exact(LP.fin (P':=fun b=>a6.next<=b/\ b<a7.next) (ywk.lp aP (P:=fun b=>a6.next<=b/\ b<a7.next) f7.ok fun b h1 h2 _=>⟨h1,h2⟩) t7 fun b hb=>⟨by omega,hb.2,hb⟩).fin sz fun b hb=>⟨by omega,by have:=t7.next;omega,by omega,by have:=t7.next;omega,fun e=>by have:=bsk b e;omega⟩
 ·exact(LP.fin (P':=fun b=>a7.next<=b/\ b<a8.next) (yct.lp CoatC.len (P:=fun b=>a7.next<=b/\ b<a8.next) f8.ok fun b h1 h2 _=>⟨h1,h2⟩) t8 fun b hb=>⟨by omega,hb.2,hb⟩).fin sz fun b hb=>⟨by omega,by have:=t8.next;omega,by omega,by have:=t8.next;omega,fun e=>by have:=bsk b e;omega⟩
 ·exact(LN.fin (P':=fun b=>a9.next<=b/\ b<a10.next) ysp t10 (fun b hb=>⟨by omega,hb.2,hb⟩) (fun _ _ hu hg=>hu.keep hg) fun _ _ hu hm=>hu.mono hm).fin sz (fun b hb=>⟨by omega,by have:=t10.next;omega,by omega,by have:=t10.next;omega,fun e=>by have:=bsk b e;omega⟩) (fun _ _ hu hg=>hu.keep hg) fun _ _ hu hm=>hu.mono hm
 ·exact(LP.fin (P':=fun b=>a11.next<=b/\ b<a12.next) (ybo.lp aP (P:=fun b=>a11.next<=b/\ b<a12.next) f12.ok fun b h1 h2 _=>⟨h1,h2⟩) t12 fun b hb=>⟨by omega,hb.2,hb⟩).fin sz fun b hb=>⟨by omega,by have:=t12.next;omega,by omega,by have:=t12.next;omega,fun e=>by have:=bsk b e;omega⟩
 ·exact(LN.fin (P':=fun b=>a13.next<=b/\ b<a14.next) yst t14 (fun b hb=>⟨by omega,hb.2,hb⟩) (fun _ _ hu hg=>hu.keep hg) fun _ _ hu hm=>hu.mono hm).fin sz (fun b hb=>⟨by omega,by have:=t14.next;omega,by omega,by have:=t14.next;omega,fun e=>by have:=bsk b e;omega⟩) (fun _ _ hu hg=>hu.keep hg) fun _ _ hu hm=>hu.mono hm
 ·exact(LP.fin (P':=fun b=>a15.next<=b/\ b<a16.next) (yti.lp Tin.len (P:=fun b=>a15.next<=b/\ b<a16.next) f16.ok fun b h1 h2 _=>⟨h1,h2⟩) t16 fun b hb=>⟨by omega,hb.2,hb⟩).fin sz fun b hb=>⟨by omega,by have:=t16.next;omega,by omega,by have:=t16.next;omega,fun e=>by have:=bsk b e;omega⟩
 ·exact(LP.fin (P':=fun b=>a18.next<=b/\ b<a19.next) (yof.lp aP (P:=fun b=>a18.next<=b/\ b<a19.next) f19.ok fun b h1 h2 _=>⟨h1,h2⟩) t19 fun b hb=>⟨by omega,hb.2,hb⟩).fin sz fun b hb=>⟨by omega,by have:=t19.next;omega,by omega,by have:=t19.next;omega,fun e=>by have:=bsk b e;omega⟩
 ·exact(LP.fin (P':=fun b=>a19.next<=b/\ b<a20.next) (ybd.lp Board.len (P:=fun b=>a19.next<=b/\ b<a20.next) f20.ok fun b h1 h2 _=>⟨h1,h2⟩) t20 fun b hb=>⟨by omega,hb.2,hb⟩).fin sz fun b hb=>⟨by omega,by have:=t20.next;omega,by omega,by have:=t20.next;omega,fun e=>by have:=bsk b e;omega⟩
 ·exact(LP.fin (P':=fun b=>a20.next<=b/\ b<a21.next) (ytr.lp Tar.len (P:=fun b=>a20.next<=b/\ b<a21.next) f21.ok fun b h1 h2 _=>⟨h1,h2⟩) t21 fun b hb=>⟨by omega,hb.2,hb⟩).fin sz fun b hb=>⟨by omega,by have:=t21.next;omega,by omega,by have:=t21.next;omega,fun e=>by have:=bsk b e;omega⟩
 ·refine SL.keep (SL.low ysk (by omega)) fun b hb=> ?_
  have:=bsk b hb
  rw[sz.get b (by have:=t17.next;omega) (by omega)]
  exact t17.get b (by omega) (by omega)
end Go.Am
