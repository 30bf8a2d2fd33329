/- Parts V87, V88, V89, V90, V91, V92 of the abstract machine over this program, joined: what each part says stands at its head. -/
import Derived.Test.YtlflfbnnjlkkcaaGreatJV78
set_option linter.unusedSimpArgs false
set_option linter.unusedVariables false
set_option linter.defProp false
open Nat renaming reduceLT→Q1,reduceEqDiff→Q2,reduceAdd→Q3,reduceMul→Q4,reduceLeDiff→Q5
open Int renaming reduceNe→Q6,reduceEq→Q7
namespace Go.Am
open Go Go.Proofs
def CA:=A2 @cG<|A2 @cS<|A2 @cA<|A2 @bJ<|A2 @aV<|A2 @ba<|A2 @bm @bh
theorem KL {v:Value} {l:List Int} (h:Heap) (hv:LS h v l aQ 1) (hl:l.length<=1000) (hb: ∀x∈l,0<=x/\ x<=1000000000):CW CC 300 [v] h fun r h'=>r= .int .i64 (cK l)/\ h'=h:=by
 obtain⟨p,c,rfl,hx⟩:=hv.open
 refine aw Tryz.f300 (by kernel_rfl) (by kernel_rfl) rfl rfl ?_
 simp only[Tryz.f300]
 simp(maxDischargeDepth:=30)only[AA,↓reduceIte,Q1,Q2,Q3,Q4,reduceCtorEq,Q5,Q6,Q7,CA]
 refine eT l.length (fun m f h'=> ∃pre rest,l=pre++rest/\ m=rest.length/\ f 6= .slice p l.length c/\ f 7= .int .i64 l.length/\ f 8= .int .i64 pre.length/\ f 3= .int .i64 (cK pre)/\ h'=h) ⟨[],l,by simp,by simp,by simp[aa,aW],by simp[aa],by simp[aa],by simp[aa,cK],rfl⟩ ?_
 rintro m f h' ⟨pre,rest,e,rfl,g6,g7,g8,g3,rfl⟩ ih
 cases rest with
 |nil=>
  have hlt:decide ((pre.length:Int)<(l.length:Int))=false:=by rw[e];simp
  have e':l=pre:=by simpa using e
  simp(maxDischargeDepth:=30)only[AA,↓reduceIte,Q1,Q2,Q3,Q4,reduceCtorEq,Q5,Q6,Q7,CA,g6,g7,g8,g3,hlt]
  exact⟨by rw[e'],trivial⟩
 |cons x rest=>
  have hlt:decide ((pre.length:Int)<(l.length:Int))=true:=by rw[e];simp;omega
  have hlt':pre.length<l.length:=by rw[e];simp
  have hget:l[pre.length]? =some x:=by rw[e];exact VC _ _ _
  rcases hx with hx|⟨b,o,sp,row,rfl,hr,hx⟩
  ·rw[hx]at hlt';simp at hlt'
  have k1:row[o+pre.length]? =some (.int .i64 x):=by simpa[aQ]using(hx _ x hget).2 0 (by omega)
  have hb1:=oS (B:=1000000000) (l:=pre) fun y hy=>hb y (by rw[e];simp[hy])
  have hb2:=hb x (by rw[e];simp)
  have w1:IntKind.i64.wrap (cK pre+x)=cK (pre++[x]):=by rw[bG (by omega) (by omega),Gb]
  simp(maxDischargeDepth:=30)only[AA,↓reduceIte,Q1,Q2,Q3,Q4,reduceCtorEq,Q5,Q6,Q7,CA,g6,g7,g8,g3,hlt,hlt',hr,Nat.mul_one,k1,w1,bp hlt' hl]
  refine ih rest.length _ _ (by simp) ?_
  refine⟨pre++[x],rest,by rw[e,Mi],rfl,by simp[aa,g6],by simp[aa,g7],by simp[aa],by simp[aa],rfl⟩
structure LSheet.Fine (S:LSheet):Prop where
 n:1<=S.widths.length/\ S.widths.length<=6
 np:S.pairs.length<=6
 nw:1<=S.words.length/\ S.words.length<=4
 pairs: ∀i,i<S.pairs.length ->S.pairAt i=true
 widths: ∀x∈S.widths,1<=x/\ x<=20
 other:0<=S.other.lo/\ S.other.lo<=S.other.hi/\ S.other.hi<=9
 gap:0<=S.gap.lo/\ S.gap.lo<=S.gap.hi/\ S.gap.hi<=20
 hyphen:1<=S.hyphen/\ S.hyphen<=20
 words: ∀w∈S.words,S.wordB w=true
 wide:1<=S.wide/\ S.wide<=400
 rows:1<=S.rows/\ S.rows<=3
theorem Dc {lo hi a b:Int}:u4 lo hi a b=true↔a<=lo/\ lo<=hi/\ hi<=b:=by
 unfold u4 cL
 simp only[Bool.and_eq_true,decide_eq_true_eq]
 omega
theorem sS {x a b:Int}:cL x a b=true↔a<=x/\ x<=b:=by unfold cL;simp
theorem LSheet.fine {S:LSheet} (h:S.ok=true):S.Fine:=by
 unfold LSheet.ok at h
 simp only[Bool.and_eq_true,sS,Dc,decide_eq_true_eq,List.all_eq_true,Bool.not_eq_true',List.any_eq_false,List.mem_range,Bool.not_eq_true,Bool.not_eq_false']at h
 obtain⟨h1,h2,h3,h4,h5,h6,h7,h8,h9,h10,h11⟩:=h
 exact⟨by omega,h2,by omega,h4,fun x hx=>sS.1 (by simpa using h5 x hx),by omega,by omega,by omega,fun w hw=>by simpa using h9 w hw,by omega,by omega⟩
theorem LSheet.Fine.pair {S:LSheet} (f:S.Fine) {p:LPair} (hp:p∈S.pairs):0<=p.lo/\ p.lo<=p.hi/\ p.hi<=9:=by
 obtain⟨i,hi⟩:=List.mem_iff_getElem?.1 hp
 have:=f.pairs i (List.getElem?_eq_some_iff.1 hi).1
 unfold LSheet.pairAt at this
 rw[hi]at this
 simp only[Bool.and_eq_true]at this
 have a:=this.1
 unfold LSheet.pairB at a
 simp only[Bool.and_eq_true,Dc]at a
 omega
theorem LSheet.Fine.word {S:LSheet} (f:S.Fine) {w:LWord} (hw:w∈S.words):(1<=w.signs.length/\ w.signs.length<=6)/\ (∀x∈w.signs,0<=x/\ x<=(S.widths.length:Int) -1)/\ (∀(i:Nat) x,w.cuts[i]? =some x ->1<=x/\ x<=(w.signs.length:Int) -1)/\ w.cuts.length<=5:=by
 have a:=f.words w hw
 unfold LSheet.wordB at a
 simp only[Bool.and_eq_true,sS,Bool.not_eq_true',List.any_eq_false,Bool.not_eq_true,Bool.not_eq_false']at a
 obtain⟨a1,a2,a3⟩:=a
 unfold ud at a3
 simp only[List.all_eq_true,List.mem_range]at a3
 have a4: ∀(i:Nat) x,w.cuts[i]? =some x ->(1<=x/\ x<=(w.signs.length:Int) -1)/\ (i:Int)+1<=x:=by
  intro i
  induction i with
  |zero=>
   intro x hx
   have b:=a3 0 (List.getElem?_eq_some_iff.1 hx).1
   unfold mI at b
   simp only[List.getD_eq_getElem?_getD,hx,Option.getD_some,Bool.and_eq_true,sS]at b
   omega
  |succ i ih=>
   intro x hx
   have hl:=(List.getElem?_eq_some_iff.1 hx).1
   have b:=a3 (i+1) hl
   obtain⟨y,hy⟩: ∃y,w.cuts[i]? =some y:=⟨_,List.getElem?_eq_getElem (by omega)⟩
   have c:=ih y hy
   unfold mI at b
   simp only[List.getD_eq_getElem?_getD,hx,Nat.add_sub_cancel,hy,Option.getD_some,Bool.and_eq_true,sS,Bool.or_eq_true,decide_eq_true_eq,beq_iff_eq]at b
   omega
 refine⟨by omega,fun x hx=>sS.1 (by simpa using a2 x hx),fun i x hx=>(a4 i x hx).1,?_⟩
 by_cases h:w.cuts.length<=5
 ·exact h
 ·obtain⟨y,hy⟩: ∃y,w.cuts[5]? =some y:=⟨_,List.getElem?_eq_getElem (by omega)⟩
  have:=a4 5 y hy
  omega
def LSheet.space (S:LSheet) (s:Int) (a b:Nat×Nat):Int:=if a.1≠b.1 then zh S.gap.lo S.gap.hi s else match S.pairs.find? (wZ (S.sign a) (S.sign b))with
 |some p=>zh p.lo p.hi s
 |none=>zh S.other.lo S.other.hi s
theorem LSheet.Fine.space {S:LSheet} (f:S.Fine) {s:Int} (hs:0<=s/\ s<=10) (a b:Nat×Nat):0<=S.space s a b/\ S.space s a b<=20:=by
 have h1:=f.gap
 have h2:=f.other
 unfold LSheet.space
 split
 ·have:=Co h1.1 h1.2.1 h1.2.2 hs;omega
 ·split
  ·next p hp=>
   have h3:=f.pair (List.mem_of_find?_eq_some hp)
   have:=Co h3.1 h3.2.1 (by omega) hs;omega
  ·have:=Co h2.1 h2.2.1 (by omega) hs;omega
end Go.Am

namespace Go.Am
open Go Go.Proofs
def jw:=A2 @LK<|A2 @xO<|A2 @xN<|A2 @iH<|A2 @HR<|A2 @EK<|A2 @Lu<|A2 @BN<|A2 @Rf<|A2 @jq<|A2 @tK<|A2 @cS<|A2 @Jv<|A2 @GD<|A2 @Gx<|A2 @eU<|A2 @Gj<|A2 @Gi<|A2 @uW<|A2 @FU<|A2 @Ah @oJ
set_option maxRecDepth 10000 in
set_option maxHeartbeats 2000000 in
theorem Ve {h:Heap} (hk:HOK h) {u:LetV} {S:LSheet} {m:Nat} (q:IsLet h u S) (qm:HasP S h m) (f:S.Fine) {a b:Nat×Nat} (ha:S.SpotOK a) (hb:S.SpotOK b) {s:Int} (hs:0<=s/\ s<=10):
  CW CC 301 [.agg ⟨S.frontC u m⟩, .agg ⟨bV a⟩, .agg ⟨bV b⟩, .int .i64 s] h fun r h'=>r= .int .i64 (S.space s a b)/\ Fr h h':=by
 obtain⟨pw,cw,pp,cp,pd,cd,F,_⟩:=q.front m
 have SX:=fun {h':Heap} (g:Fr h h') {p:Nat×Nat} (hp:S.SpotOK p)=>PW g.ok (m:=m) (q.fr hk g) hp
 obtain⟨R,hR⟩: ∃R,R=S.frontC u m:=⟨_,rfl⟩
 rw[<-hR]at F SX⊢
 simp only[bV]at SX
 refine aw Tryz.f301 (by kernel_rfl) (by kernel_rfl) rfl rfl ?_
 simp only[Tryz.f301,bV]
 have f1:=aI [.row R 0 true, .row [.int .i64 a.1, .int .i64 a.2] 0 true, .row [.int .i64 b.1, .int .i64 b.2] 0 true] (Fr.refl hk)
 have r1:rowAt (h.ex [.row R 0 true, .row [.int .i64 a.1, .int .i64 a.2] 0 true, .row [.int .i64 b.1, .int .i64 b.2] 0 true]) h.next=some R:=aZ rfl
 have r2:rowAt (h.ex [.row R 0 true, .row [.int .i64 a.1, .int .i64 a.2] 0 true, .row [.int .i64 b.1, .int .i64 b.2] 0 true]) (h.next+1)=some [.int .i64 a.1, .int .i64 a.2]:=by rw[jy rfl (by simp)];rfl
 have r3:rowAt (h.ex [.row R 0 true, .row [.int .i64 a.1, .int .i64 a.2] 0 true, .row [.int .i64 b.1, .int .i64 b.2] 0 true]) (h.next+2)=some [.int .i64 b.1, .int .i64 b.2]:=by rw[jy rfl (by simp)];rfl
 have h2:=f.gap
 have h3:=f.other
 unfold LSheet.space
 by_cases e:a.1=b.1
 ·have e1:((a.1:Int) !=(b.1:Int))=false:=by simp[e]
  rw[if_neg (by simp[e])]
  simp(maxDischargeDepth:=30)only[AA,↓reduceIte,Q1,Q2,Q3,Q4,reduceCtorEq,Q5,Q6,Q7,XH,jw,hk,F.ro,F.rl,e1]
  generalize(h.ex [.row R 0 true, .row [.int .i64 a.1, .int .i64 a.2] 0 true, .row [.int .i64 b.1, .int .i64 b.2] 0 true])=H at f1 r1 r2 r3⊢
  have m1:=af f1.ok r1
  refine bR [(true,0),(true,1),(true,2),(true,3),(true,5),(true,6),(true,13),(true,4),(false,1),(false,5),(false,6),(false,13),(true,7),(false,1),(false,13),(true,8),(true,9),(true,10),(true,11),(true,12),(true,14),(true,15)] (by kernel_rfl) ?_
  simp(maxDischargeDepth:=30)only[AA,↓reduceIte,Q1,Q2,Q3,Q4,reduceCtorEq,Q5,Q6,Q7,dk,XH,jw,f1.ok,r1,m1,r2,r3,F.ra,F.rm]
  have fx:=aI [.row [.int .i64 0, .int .i64 0] 0 true] (Fr.refl f1.ok)
  have gx:(H.ex [.row [.int .i64 0, .int .i64 0] 0 true]).get H.next=some (.row [.int .i64 0, .int .i64 0] 0 true):=dG rfl
  have rx1:=fx.row' f1.ok r1
  have rx2:=fx.row' f1.ok r2
  have rx3:=fx.row' f1.ok r3
  have nH:=f1.next
  generalize(H.ex [.row [.int .i64 0, .int .i64 0] 0 true])=H2 at fx gx rx1 rx2 rx3⊢
  have f1x:=f1.trans fx
  refine bk (SX f1x ha) ?_
  rintro _ h4 ⟨rfl,f4⟩
  have r14:=f4.row' fx.ok rx1
  have r24:=f4.row' fx.ok rx2
  have r34:=f4.row' fx.ok rx3
  have gx4:=f4.get' fx.ok gx
  have m14:=af f4.ok r14
  simp(maxDischargeDepth:=30)only[AA,↓reduceIte,Q1,Q2,Q3,Q4,reduceCtorEq,Q5,Q6,Q7,dk,XH,jw,f4.ok,r14,m14,r24,r34,F.ra,F.rm,F.sf,gx4,kX 0 (show[Value.int .i64 0, .int .i64 0].all fj=true from rfl)]
  refine bk (SX (f1x.trans f4) hb) ?_
  rintro _ h5 ⟨rfl,f5⟩
  have r15:=f5.row' f4.ok r14
  have r25:=f5.row' f4.ok r24
  have r35:=f5.row' f4.ok r34
  have m15:=af f5.ok r15
  have f05:=(f1x.trans f4).trans f5
  have gx5:=f5.get' f4.ok gx4
  have lx5:=aF f5.ok gx5
  obtain⟨es,c,gm,kp⟩:=qm.fr hk f05
  have fits: ∀l r,iP CC 221 (ks l r)=true:=fun l r=>by kernel_rfl
  rcases KP.find 0 (S.sign a) (S.sign b) kp with⟨j,p,e2,e3⟩|⟨e2,e3⟩
  ·have l5:mF CC 112 (.map (some m)) (ks (S.sign a) (S.sign b)) true h5=some (.tuple ⟨[vt p, .bool true]⟩):=by
    rw[nV uW (fits _ _) oJ gm,e3];rfl
   unfold ks vt at l5
   rw[e2]
   have h4:=f.pair (List.mem_of_find?_eq_some e2)
   have f6:=f05.set (i:=H.next) nH lx5 (.row [.int .i64 p.lo, .int .i64 p.hi] 0 true)
   simp(maxDischargeDepth:=30)only[AA,↓reduceIte,Q1,Q2,Q3,Q4,reduceCtorEq,Q5,Q6,Q7,dk,XH,jw,f5.ok,r15,m15,r25,r35,F.ra,F.rm,F.sf,l5,gx5,f6.ok,kX 0 (show[Value.int .i64 0, .int .i64 0].all fj=true from rfl)]
   refine aC (tp f6.ok h4.1 h4.2.1 (by omega) hs) ?_
   rintro _ h7 ⟨rfl,f7⟩
   simp(maxDischargeDepth:=30)only[AA,↓reduceIte,Q1,Q2,Q3,Q4,reduceCtorEq,Q5,Q6,Q7,XH,jw,f7.ok]
   exact⟨trivial,f6.trans f7⟩
  ·have l5:mF CC 112 (.map (some m)) (ks (S.sign a) (S.sign b)) true h5=some (.tuple ⟨[.agg ⟨[.int .i64 0, .int .i64 0]⟩, .bool false]⟩):=by
    rw[nV uW (fits _ _) oJ gm,e3];rfl
   unfold ks at l5
   rw[e2]
   have f6:=f05.set (i:=H.next) nH lx5 (.row [.int .i64 0, .int .i64 0] 0 true)
   have r1s:rowAt (h5.set H.next (.row [.int .i64 0, .int .i64 0] 0 true)) h.next=some R:=by unfold rowAt;rw[Heap.get_set_ne _ _ (by omega)];exact r15
   have m1s:=af f6.ok r1s
   simp(maxDischargeDepth:=30)only[AA,↓reduceIte,Q1,Q2,Q3,Q4,reduceCtorEq,Q5,Q6,Q7,dk,XH,jw,f5.ok,r15,m15,r25,r35,F.ra,F.rm,F.sf,l5,F.r2,r1s,m1s,gx5,f6.ok,kX 0 (show[Value.int .i64 0, .int .i64 0].all fj=true from rfl)]
   refine aC (tp f6.ok h3.1 h3.2.1 (by omega) hs) ?_
   rintro _ h7 ⟨rfl,f7⟩
   simp(maxDischargeDepth:=30)only[AA,↓reduceIte,Q1,Q2,Q3,Q4,reduceCtorEq,Q5,Q6,Q7,XH,jw,f7.ok]
   exact⟨trivial,f6.trans f7⟩
 ·have e1:((a.1:Int) !=(b.1:Int))=true:=by simp;omega
  rw[if_pos e]
  simp(maxDischargeDepth:=30)only[AA,↓reduceIte,Q1,Q2,Q3,Q4,reduceCtorEq,Q5,Q6,Q7,XH,jw,hk,F.ro,F.rl,F.r4,e1]
  refine aC (tp f1.ok h2.1 h2.2.1 h2.2.2 hs) ?_
  rintro _ h7 ⟨rfl,f7⟩
  simp(maxDischargeDepth:=30)only[AA,↓reduceIte,Q1,Q2,Q3,Q4,reduceCtorEq,Q5,Q6,Q7,XH,jw,f7.ok]
  exact⟨trivial,f1.trans f7⟩
end Go.Am

namespace Go.Am
open Go Go.Proofs
def ke:=A2 @eF<|A2 @iH<|A2 @sW<|A2 @Lt<|A2 @BO<|A2 @HJ<|A2 @cG<|A2 @JB<|A2 @jq<|A2 @cM<|A2 @cS<|A2 @Jx<|A2 @Jv<|A2 @Ju<|A2 @La<|A2 @bJ<|A2 @A8<|A2 @aV<|A2 @ba<|A2 @AK<|A2 @mW<|A2 @bm<|A2 @uT<|A2 @bh<|A2 @Ac @uL
def LSheet.wid (S:LSheet) (p:Nat×Nat):Int:=S.widths.getD (S.sign p).toNat 0
def LSheet.lettersL (S:LSheet) (l:List (Nat×Nat)) (dash:Bool):List Int:=l.map S.wid++if dash=true then[S.hyphen]else[]
theorem LSheet.Fine.sign {S:LSheet} (f:S.Fine) {p:Nat×Nat} (hp:S.SpotOK p): ∃k:Nat,S.sign p=k/\ k<S.widths.length:=by
 obtain⟨w,hw,hi⟩:=hp
 obtain⟨x,gx⟩: ∃x,w.signs[p.2]? =some x:=⟨_,List.getElem?_eq_getElem hi⟩
 have gs:S.sign p=x:=by unfold LSheet.sign;rw[hw];simp[List.getD_eq_getElem?_getD,gx]
 have:=(f.word (List.mem_of_getElem? hw)).2.1 x (List.mem_of_getElem? gx)
 have n:=f.n
 exact⟨x.toNat,by rw[gs];omega,by omega⟩
theorem LSheet.Fine.wid {S:LSheet} (f:S.Fine) {p:Nat×Nat} (hp:S.SpotOK p):1<=S.wid p/\ S.wid p<=20:=by
 obtain⟨k,e,hk⟩:=f.sign hp
 have:S.wid p=S.widths[k]:=by unfold LSheet.wid;rw[e];simp[List.getD_eq_getElem?_getD,hk]
 rw[this];exact f.widths _ (List.getElem_mem _)
theorem LSheet.Fine.letters {S:LSheet} (f:S.Fine) {l:List (Nat×Nat)} (hl: ∀p∈l,S.SpotOK p) (dash:Bool): ∀x∈S.lettersL l dash,1<=x/\ x<=20:=by
 intro x hx
 unfold LSheet.lettersL at hx
 rcases List.mem_append.1 hx with h|h
 ·obtain⟨p,hp,rfl⟩:=List.mem_map.1 h
  exact f.wid (hl p hp)
 ·split at h
  ·simp at h;subst h;exact f.hyphen
  ·simp at h
set_option maxRecDepth 10000 in
set_option maxHeartbeats 2000000 in
theorem MJ {h:Heap} (hk:HOK h) (hp:0<h.next) {u:LetV} {S:LSheet} {m:Nat} (q:IsLet h u S) (f:S.Fine) {v:Value} {l:List (Nat×Nat)} (hv:LS h v l bV 2) (hl: ∀p∈l,S.SpotOK p) (hn:l.length<=500) (dash:Bool) {s:Int}:
  CW CC 262 [.agg ⟨S.frontC u m⟩, .agg ⟨[v, .bool dash]⟩, .int .i64 s] h fun r h'=>r= .int .i64 (cK (S.lettersL l dash))/\ Fr h h':=by
 obtain⟨pw,cw,pp,cp,pd,cd,F,ew,_⟩:=q.front m
 have SX:=fun {h':Heap} (g:Fr h h') {p:Nat×Nat} (hp:S.SpotOK p)=>PW g.ok (m:=m) (q.fr hk g) hp
 obtain⟨R,hR⟩: ∃R,R=S.frontC u m:=⟨_,rfl⟩
 rw[<-hR]at F SX⊢
 simp only[bV]at SX
 have qw:=q.w
 rw[ew]at qw
 obtain⟨_,_,e0,hw⟩:=qw.open
 simp only[Value.slice.injEq]at e0
 obtain⟨rfl,_,rfl⟩:=e0
 rcases hw with hw|⟨bw,ow,sw,roww,rfl,hrw,hw⟩
 ·have:=f.n;rw[hw]at this;simp at this
 obtain⟨pv,cv,rfl,hx⟩:=hv.open
 refine aw Tryz.f262 (by kernel_rfl) (by kernel_rfl) rfl rfl ?_
 simp only[Tryz.f262]
 have f1:=aI [.row R 0 true, .row [.slice pv l.length cv, .bool dash] 0 true] (Fr.refl hk)
 have r1:rowAt (h.ex [.row R 0 true, .row [.slice pv l.length cv, .bool dash] 0 true]) h.next=some R:=aZ rfl
 have r2:rowAt (h.ex [.row R 0 true, .row [.slice pv l.length cv, .bool dash] 0 true]) (h.next+1)=some [.slice pv l.length cv, .bool dash]:=by rw[jy rfl (by simp)];rfl
 simp(maxDischargeDepth:=30)only[AA,↓reduceIte,Q1,Q2,Q3,Q4,reduceCtorEq,Q5,Q6,Q7,XH,ke,hk,F.ro,F.rl]
 generalize(h.ex [.row R 0 true, .row [.slice pv l.length cv, .bool dash] 0 true])=H at f1 r1 r2⊢
 have m1:=af f1.ok r1
 have m2:=af f1.ok r2
 refine dN [7,9,13,14,15,16,17,18,19,20,21,22,23,24,25,26,27,28] 13 l.length (fun i g h'=> ∃vo,g 7=vo/\ SL H.next h' vo (((l.take i).map S.wid).flatMap aQ) 1 i/\ Fr H h') (by simp only[aa,↓reduceIte]) ⟨_,by simp only[aa,Nat.reduceEqDiff,↓reduceIte],SL.nil _ _ _,Fr.refl f1.ok⟩ ?_ ?_
 ·rintro i g h2 hi ag g13 ⟨vo,g7,so,f2⟩ ih
  obtain⟨p,gp⟩: ∃p,l[i]? =some p:=⟨_,List.getElem?_eq_getElem hi⟩
  have pOK:=hl p (List.mem_of_getElem? gp)
  rcases hx with hx|⟨b,o,sp,row,rfl,hr,hy⟩
  ·rw[hx]at hi;simp at hi
  have ct:=(hy i _ gp).1
  simp only[bV]at ct
  have fh2:=f1.trans f2
  have r12:=f2.row' f1.ok r1
  have m12:=af f2.ok r12
  have hr2:=fh2.row' hk hr
  have mr2:=af f2.ok hr2
  have n2:=f2.next
  have nh:=f1.next
  obtain⟨k,ek,hkn⟩:=f.sign pOK
  have cw1:roww[ow+k]? =some (.int .i64 (S.wid p)):=by
   have a:=(hw k (S.widths[k]) (List.getElem?_eq_getElem hkn)).2 0 (by omega)
   have:S.wid p=S.widths[k]:=by unfold LSheet.wid;rw[ek];simp[List.getD_eq_getElem?_getD,hkn]
   rw[this];simpa[aQ]using a
  simp(maxDischargeDepth:=30)only[AA,↓reduceIte,Q1,Q2,Q3,Q4,reduceCtorEq,Q5,Q6,Q7,XH,ke,ag.r,NE,g13,f2.ok,cX hi,hi,hr2,mr2,ct]
  have f3:=aI [.row [.int .i64 p.1, .int .i64 p.2] 0 true] (Fr.refl f2.ok)
  have rx:rowAt (h2.ex [.row [.int .i64 p.1, .int .i64 p.2] 0 true]) h2.next=some [.int .i64 p.1, .int .i64 p.2]:=aZ rfl
  have nx:(h2.ex [.row [.int .i64 p.1, .int .i64 p.2] 0 true]).next=h2.next+1:=by rw[bc];rfl
  generalize(h2.ex [.row [.int .i64 p.1, .int .i64 p.2] 0 true])=h3 at f3 rx nx⊢
  have r13:=f3.row' f2.ok r12
  have m13:=af f3.ok r13
  have mx:=af f3.ok rx
  have fh3:=fh2.trans f3
  refine bR [(true,0),(true,1),(true,2),(true,3),(true,4),(true,5),(true,6),(false,3),(true,7),(true,8),(true,9),(true,10),(true,11)] (by kernel_rfl) ?_
  have hrw3:=fh3.row' hk hrw
  have mw3:=af f3.ok hrw3
  obtain⟨po,co,rfl⟩:=so.value
  simp(maxDischargeDepth:=30)only[AA,↓reduceIte,Q1,Q2,Q3,Q4,reduceCtorEq,Q5,Q6,Q7,dk,XH,ke,ag.r,NE,g13,g7,f3.ok,r13,m13,rx,mx,F.ra,F.r0]
  refine bk (SX fh3 pOK) ?_
  rintro _ h4 ⟨rfl,f4⟩
  have n4:=f4.next
  have r14:=f4.row' f3.ok r13
  have m14:=af f4.ok r14
  have rx4:=f4.row' f3.ok rx
  have mx4:=af f4.ok rx4
  have fh4:=fh3.trans f4
  have hrw4:=fh4.row' hk hrw
  have mw4:=af f4.ok hrw4
  have f24:=f3.trans f4
  have f6:=aI [.row [.int .i64 (S.wid p)] 1 true] (Fr.refl f4.ok)
  have n6:(h4.ex [.row [.int .i64 (S.wid p)] 1 true]).next=h4.next+1:=by rw[bc];rfl
  obtain⟨h7,e7,q7,k7,n7,g7'⟩:=dI (ts:=[]) kr (N:=H.next) f6.ok (by omega) (by omega) ((so.fr f2.ok f24).fr f4.ok f6) (x:= .slice (some ⟨h4.next,0,some 1⟩) 1 1) (m:=0) (new:=[.int .i64 (S.wid p)]) rfl (by
   show ae (rowAt _ h4.next) (fun cells=>aA cells 0 ((0+1)*1))=_
   rw[aZ rfl];rfl) rfl rfl (by omega)
  rw[n6]at e7 q7 n7 g7'
  simp only[XH,aG,Nat.zero_add]at e7 q7
  have f7:Fr H h7:=⟨k7,by omega,fun j hj=>by rw[g7' j (by omega) (fun e=>by have:=(so.blk_lt f2.ok e).1;omega),gz (by omega)];exact(f2.trans f24).get j hj⟩
  have gx7:h7.get h4.next=some (.row [.int .i64 (S.wid p)] 1 true):=by
   rw[g7' _ (by omega) (fun e=>by have:=(so.blk_lt f2.ok e).2;omega)];exact dG rfl
  have r17:=f7.row' f1.ok r1
  have m17:=af k7 r17
  simp(maxDischargeDepth:=30)only[AA,↓reduceIte,Q1,Q2,Q3,Q4,reduceCtorEq,Q5,Q6,Q7,dk,XH,ke,ag.r,NE,g13,g7,f4.ok,r14,m14,rx4,mx4,F.ra,F.r0,F.sf,ek,hkn,hrw4,mw4,Nat.mul_one,cw1,eF (dE _ _),aG,e7,k7,gx7,r17,m17,bp hi (by omega)]
  refine ih _ _ (by simp only[AG,Nat.reduceEqDiff,ag]) (by simp only[aa,↓reduceIte]) ⟨.slice (some ⟨h4.next+1,0,some 1⟩) (i+1) (i+1),by simp only[aa,Nat.reduceEqDiff,↓reduceIte],?_,f7⟩
  rw[bI gp,List.map_append,List.flatMap_append]
  exact q7
 ·rintro g h2 ag g13 ⟨vo,g7,so,f2⟩
  have r12:=f2.row' f1.ok r1
  have m12:=af f2.ok r12
  have r22:=f2.row' f1.ok r2
  have m22:=af f2.ok r22
  have fh2:=f1.trans f2
  have n2:=f2.next
  have nh:=f1.next
  rw[List.take_length]at so
  cases dash with
  |false=>
   have sl:=SL.ls aP (xs:=l.map S.wid) (by rw[List.length_map];exact so)
   obtain⟨po,co,rfl⟩:=so.value
   simp(maxDischargeDepth:=30)only[AA,↓reduceIte,Q1,Q2,Q3,Q4,reduceCtorEq,Q5,Q6,Q7,XH,ke,ag.r,NE,g13,g7,f2.ok,dL,r12,m12,r22,m22]
   refine aC (KL h2 sl (by simp;omega) (fun x hx=> ?_)) ?_
   ·have:=f.letters hl false x (by simpa[LSheet.lettersL]using hx);omega
   rintro _ h3 ⟨rfl,rfl⟩
   simp(maxDischargeDepth:=30)only[AA,↓reduceIte,Q1,Q2,Q3,Q4,reduceCtorEq,Q5,Q6,Q7,XH,ke,ag.r,NE,f2.ok]
   exact⟨by simp[LSheet.lettersL],fh2⟩
  |true=>
   obtain⟨po,co,rfl⟩:=so.value
   have f6:=aI [.row [.int .i64 S.hyphen] 1 true] (Fr.refl f2.ok)
   have n6:(h2.ex [.row [.int .i64 S.hyphen] 1 true]).next=h2.next+1:=by rw[bc];rfl
   obtain⟨h7,e7,q7,k7,n7,g7'⟩:=dI (ts:=[]) kr (N:=H.next) f6.ok (by omega) (by omega) (so.fr f2.ok f6) (x:= .slice (some ⟨h2.next,0,some 1⟩) 1 1) (m:=0) (new:=[.int .i64 S.hyphen]) rfl (by
    show ae (rowAt _ h2.next) (fun cells=>aA cells 0 ((0+1)*1))=_
    rw[aZ rfl];rfl) rfl rfl (by omega)
   rw[n6]at e7 q7 n7 g7'
   simp only[XH,aG,Nat.zero_add]at e7 q7
   have f7:Fr H h7:=⟨k7,by omega,fun j hj=>by rw[g7' j (by omega) (fun e=>by have:=(so.blk_lt f2.ok e).1;omega),gz (by omega)];exact f2.get j hj⟩
   have sl:=SL.ls aP (xs:=S.lettersL l true) (by
    unfold LSheet.lettersL
    rw[List.length_append,List.flatMap_append,List.length_map];exact q7)
   simp(maxDischargeDepth:=30)only[AA,↓reduceIte,Q1,Q2,Q3,Q4,reduceCtorEq,Q5,Q6,Q7,XH,ke,ag.r,NE,g13,g7,f2.ok,dL,r12,m12,r22,m22,F.r6,eF (dE _ _),aG,e7,k7]
   have ln:(S.lettersL l true).length=l.length+1:=by simp[LSheet.lettersL]
   refine aC (KL h7 sl (by rw[ln];omega) (fun x hx=> ?_)) ?_
   ·have:=f.letters hl true x hx;omega
   rintro _ h8 ⟨rfl,rfl⟩
   simp(maxDischargeDepth:=30)only[AA,↓reduceIte,Q1,Q2,Q3,Q4,reduceCtorEq,Q5,Q6,Q7,XH,ke,ag.r,NE,k7]
   exact⟨trivial,f1.trans f7⟩
end Go.Am

namespace Go.Am
open Go Go.Proofs
def iJ:=A2 @eF<|A2 @iH<|A2 @EK<|A2 @BO<|A2 @HJ<|A2 @cG<|A2 @JB<|A2 @jq<|A2 @tK<|A2 @Jx<|A2 @Jv<|A2 @Ju<|A2 @La<|A2 @bJ<|A2 @A8<|A2 @aV<|A2 @ba<|A2 @AK<|A2 @mW<|A2 @bm<|A2 @uT<|A2 @bh<|A2 @Ac @uL
def LSheet.gapAt (S:LSheet) (s:Int) (l:List (Nat×Nat)) (i:Nat):Int:=match l[i -1]?,l[i]? with
 |some a,some b=>S.space s a b
 |_,_=>0
def LSheet.gapsL (S:LSheet) (s:Int) (l:List (Nat×Nat)) (dash:Bool):List Int:=((List.range (l.length -1)).map fun i=>S.gapAt s l (i+1))++if dash=true then[zh S.other.lo S.other.hi s]else[]
theorem LSheet.Fine.gapAt {S:LSheet} (f:S.Fine) {s:Int} (hs:0<=s/\ s<=10) (l:List (Nat×Nat)) (i:Nat):0<=S.gapAt s l i/\ S.gapAt s l i<=20:=by
 unfold LSheet.gapAt
 split
 ·exact f.space hs _ _
 ·omega
theorem LSheet.Fine.gaps {S:LSheet} (f:S.Fine) {s:Int} (hs:0<=s/\ s<=10) (l:List (Nat×Nat)) (dash:Bool): ∀x∈S.gapsL s l dash,0<=x/\ x<=20:=by
 intro x hx
 unfold LSheet.gapsL at hx
 rcases List.mem_append.1 hx with h|h
 ·obtain⟨p,hp,rfl⟩:=List.mem_map.1 h
  exact f.gapAt hs l _
 ·split at h
  ·simp at h;subst h
   have h2:=f.other
   have:=Co h2.1 h2.2.1 (by omega) hs;omega
  ·simp at h
set_option maxRecDepth 10000 in
set_option maxHeartbeats 2000000 in
theorem YV {h:Heap} (hk:HOK h) (hp:0<h.next) {u:LetV} {S:LSheet} {m:Nat} (q:IsLet h u S) (qm:HasP S h m) (f:S.Fine) {v:Value} {l:List (Nat×Nat)} (hv:LS h v l bV 2) (hl: ∀p∈l,S.SpotOK p) (hn:l.length<=500) (dash:Bool) {s:Int} (hs:0<=s/\ s<=10):
  CW CC 263 [.agg ⟨S.frontC u m⟩, .agg ⟨[v, .bool dash]⟩, .int .i64 s] h fun r h'=>r= .int .i64 (cK (S.gapsL s l dash))/\ Fr h h':=by
 obtain⟨pw,cw,pp,cp,pd,cd,F,ew,_⟩:=q.front m
 have SX:=fun {h':Heap} (g:Fr h h') {a b:Nat×Nat} (ha:S.SpotOK a) (hb:S.SpotOK b)=>Ve g.ok (m:=m) (q.fr hk g) (qm.fr hk g) f ha hb hs
 obtain⟨R,hR⟩: ∃R,R=S.frontC u m:=⟨_,rfl⟩
 rw[<-hR]at F SX⊢
 simp only[bV]at SX
 obtain⟨pv,cv,rfl,hx⟩:=hv.open
 refine aw Tryz.f263 (by kernel_rfl) (by kernel_rfl) rfl rfl ?_
 simp only[Tryz.f263]
 have f1:=aI [.row R 0 true, .row [.slice pv l.length cv, .bool dash] 0 true] (Fr.refl hk)
 have r1:rowAt (h.ex [.row R 0 true, .row [.slice pv l.length cv, .bool dash] 0 true]) h.next=some R:=aZ rfl
 have r2:rowAt (h.ex [.row R 0 true, .row [.slice pv l.length cv, .bool dash] 0 true]) (h.next+1)=some [.slice pv l.length cv, .bool dash]:=by rw[jy rfl (by simp)];rfl
 simp(maxDischargeDepth:=30)only[AA,↓reduceIte,Q1,Q2,Q3,Q4,reduceCtorEq,Q5,Q6,Q7,XH,iJ,hk,F.ro,F.rl]
 generalize(h.ex [.row R 0 true, .row [.slice pv l.length cv, .bool dash] 0 true])=H at f1 r1 r2⊢
 have m1:=af f1.ok r1
 have m2:=af f1.ok r2
 refine dN [7,8,9,13,14,15,16,17,18,19,20,21,22,23,24,25,26,27,28,29,30,31,32,33] 13 l.length (fun i g h'=> ∃vo,g 7=vo/\ SL H.next h' vo (((List.range (i -1)).map fun j=>S.gapAt s l (j+1)).flatMap aQ) 1 (i -1)/\ Fr H h') (by simp only[aa,↓reduceIte]) ⟨_,by simp only[aa,Nat.reduceEqDiff,↓reduceIte],SL.nil _ _ _,Fr.refl f1.ok⟩ ?_ ?_
 ·rintro i g h2 hi ag g13 ⟨vo,g7,so,f2⟩ ih
  obtain⟨p,gp⟩: ∃p,l[i]? =some p:=⟨_,List.getElem?_eq_getElem hi⟩
  have pOK:=hl p (List.mem_of_getElem? gp)
  rcases hx with hx|⟨b,o,sp,row,rfl,hr,hy⟩
  ·rw[hx]at hi;simp at hi
  have ct:=(hy i _ gp).1
  simp only[bV]at ct
  have fh2:=f1.trans f2
  have r12:=f2.row' f1.ok r1
  have m12:=af f2.ok r12
  have r22:=f2.row' f1.ok r2
  have m22:=af f2.ok r22
  have hr2:=fh2.row' hk hr
  have mr2:=af f2.ok hr2
  have n2:=f2.next
  have nh:=f1.next
  have f3:=aI [.row [.int .i64 p.1, .int .i64 p.2] 0 true] (Fr.refl f2.ok)
  have rx:rowAt (h2.ex [.row [.int .i64 p.1, .int .i64 p.2] 0 true]) h2.next=some [.int .i64 p.1, .int .i64 p.2]:=aZ rfl
  have nx:(h2.ex [.row [.int .i64 p.1, .int .i64 p.2] 0 true]).next=h2.next+1:=by rw[bc];rfl
  obtain⟨po,co,rfl⟩:=so.value
  by_cases i0:i=0
  ·have z:decide ((i:Int)>0)=false:=decide_eq_false (by omega)
   simp(maxDischargeDepth:=30)only[AA,↓reduceIte,Q1,Q2,Q3,Q4,reduceCtorEq,Q5,Q6,Q7,XH,iJ,ag.r,NE,g13,g7,f2.ok,cX hi,hi,hr2,mr2,ct,z,bp hi (by omega)]
   refine ih _ _ (by simp only[AG,Nat.reduceEqDiff,ag]) (by simp only[aa,↓reduceIte]) ⟨.slice po (i -1) co,by simp only[aa,Nat.reduceEqDiff,↓reduceIte,g7],?_,f2.trans f3⟩
   have e:i+1 -1=i -1:=by omega
   rw[e];exact so.fr f2.ok f3
  have z:decide ((i:Int)>0)=true:=decide_eq_true (by omega)
  have w2:IntKind.i64.wrap ((i:Int) -1)=((i -1:Nat):Int):=by rw[bG (by omega) (by omega)];omega
  have hi':i -1<l.length:=by omega
  obtain⟨y,gy⟩: ∃y,l[i -1]? =some y:=⟨_,List.getElem?_eq_getElem hi'⟩
  have yOK:=hl y (List.mem_of_getElem? gy)
  have ct2:=(hy _ _ gy).1
  simp only[bV]at ct2
  have eg:S.gapAt s l i=S.space s y p:=by unfold LSheet.gapAt;rw[gp,gy]
  simp(maxDischargeDepth:=30)only[AA,↓reduceIte,Q1,Q2,Q3,Q4,reduceCtorEq,Q5,Q6,Q7,XH,iJ,ag.r,NE,g13,f2.ok,cX hi,hi,hr2,mr2,ct,z]
  generalize(h2.ex [.row [.int .i64 p.1, .int .i64 p.2] 0 true])=h3 at f3 rx nx⊢
  have r13:=f3.row' f2.ok r12
  have m13:=af f3.ok r13
  have r23:=f3.row' f2.ok r22
  have m23:=af f3.ok r23
  have mx:=af f3.ok rx
  have hr3:=f3.row' f2.ok hr2
  have mr3:=af f3.ok hr3
  have fh3:=fh2.trans f3
  refine bR [(true,0),(true,1),(true,2),(true,3),(true,4),(true,5),(true,6),(true,7),(true,8),(true,9),(true,10),(true,11),(true,12),(true,13)] (by kernel_rfl) ?_
  simp(maxDischargeDepth:=30)only[AA,↓reduceIte,Q1,Q2,Q3,Q4,reduceCtorEq,Q5,Q6,Q7,dk,XH,iJ,ag.r,NE,g13,g7,f3.ok,r13,m13,r23,m23,rx,mx,F.ra,F.r0,w2,hi',hr3,mr3,ct2]
  refine bk (SX fh3 yOK pOK) ?_
  rintro _ h4 ⟨rfl,f4⟩
  rw[<-eg]
  have n4:=f4.next
  have r14:=f4.row' f3.ok r13
  have m14:=af f4.ok r14
  have r24:=f4.row' f3.ok r23
  have m24:=af f4.ok r24
  have rx4:=f4.row' f3.ok rx
  have mx4:=af f4.ok rx4
  have hr4:=f4.row' f3.ok hr3
  have mr4:=af f4.ok hr4
  have fh4:=fh3.trans f4
  have f24:=f3.trans f4
  have f6:=aI [.row [.int .i64 (S.gapAt s l i)] 1 true] (Fr.refl f4.ok)
  have n6:(h4.ex [.row [.int .i64 (S.gapAt s l i)] 1 true]).next=h4.next+1:=by rw[bc];rfl
  obtain⟨h7,e7,q7,k7,n7,g7'⟩:=dI (ts:=[]) kr (N:=H.next) f6.ok (by omega) (by omega) ((so.fr f2.ok f24).fr f4.ok f6) (x:= .slice (some ⟨h4.next,0,some 1⟩) 1 1) (m:=0) (new:=[.int .i64 (S.gapAt s l i)]) rfl (by
   show ae (rowAt _ h4.next) (fun cells=>aA cells 0 ((0+1)*1))=_
   rw[aZ rfl];rfl) rfl rfl (by omega)
  rw[n6]at e7 q7 n7 g7'
  simp only[XH,aG,Nat.zero_add]at e7 q7
  have ei:i -1+1=i:=by omega
  rw[ei]at e7 q7
  have f7:Fr H h7:=⟨k7,by omega,fun j hj=>by rw[g7' j (by omega) (fun e=>by have:=(so.blk_lt f2.ok e).1;omega),gz (by omega)];exact(f2.trans f24).get j hj⟩
  have gx7:h7.get h4.next=some (.row [.int .i64 (S.gapAt s l i)] 1 true):=by
   rw[g7' _ (by omega) (fun e=>by have:=(so.blk_lt f2.ok e).2;omega)];exact dG rfl
  have r17:=f7.row' f1.ok r1
  have m17:=af k7 r17
  simp(maxDischargeDepth:=30)only[AA,↓reduceIte,Q1,Q2,Q3,Q4,reduceCtorEq,Q5,Q6,Q7,dk,XH,iJ,ag.r,NE,g13,g7,f4.ok,r14,m14,r24,m24,rx4,mx4,F.ra,F.r0,F.sf,w2,hi',hr4,mr4,ct2,eF (dE _ _),aG,e7,k7,gx7,r17,m17,bp hi (by omega)]
  refine ih _ _ (by simp only[AG,Nat.reduceEqDiff,ag]) (by simp only[aa,↓reduceIte]) ⟨.slice (some ⟨h4.next+1,0,some 1⟩) i i,by simp only[aa,Nat.reduceEqDiff,↓reduceIte],?_,f7⟩
  have er:List.range (i+1 -1)=List.range (i -1)++[i -1]:=by rw[show i+1 -1=(i -1)+1 by omega,List.range_succ]
  rw[er,List.map_append,List.flatMap_append,Nat.add_sub_cancel]
  simp only[List.map_cons,List.map_nil,ei]
  exact q7
 ·rintro g h2 ag g13 ⟨vo,g7,so,f2⟩
  have r12:=f2.row' f1.ok r1
  have m12:=af f2.ok r12
  have r22:=f2.row' f1.ok r2
  have m22:=af f2.ok r22
  have fh2:=f1.trans f2
  have n2:=f2.next
  have nh:=f1.next
  cases dash with
  |false=>
   have sl:=SL.ls aP (xs:=(List.range (l.length -1)).map fun j=>S.gapAt s l (j+1)) (by simpa using so)
   obtain⟨po,co,rfl⟩:=so.value
   simp(maxDischargeDepth:=30)only[AA,↓reduceIte,Q1,Q2,Q3,Q4,reduceCtorEq,Q5,Q6,Q7,XH,iJ,ag.r,NE,g13,g7,f2.ok,dL,r12,m12,r22,m22]
   refine aC (KL h2 sl (by simp;omega) (fun x hx=> ?_)) ?_
   ·have:=f.gaps hs l false x (by simpa[LSheet.gapsL]using hx);omega
   rintro _ h3 ⟨rfl,rfl⟩
   simp(maxDischargeDepth:=30)only[AA,↓reduceIte,Q1,Q2,Q3,Q4,reduceCtorEq,Q5,Q6,Q7,XH,iJ,ag.r,NE,f2.ok]
   exact⟨by simp[LSheet.gapsL],fh2⟩
  |true=>
   obtain⟨po,co,rfl⟩:=so.value
   have h2o:=f.other
   simp(maxDischargeDepth:=30)only[AA,↓reduceIte,Q1,Q2,Q3,Q4,reduceCtorEq,Q5,Q6,Q7,XH,iJ,ag.r,NE,g13,g7,f2.ok,dL,r12,m12,r22,m22,F.r2]
   refine aC (tp f2.ok h2o.1 h2o.2.1 (by omega) hs) ?_
   rintro _ h5 ⟨rfl,f5⟩
   have n5:=f5.next
   have f6:=aI [.row [.int .i64 (zh S.other.lo S.other.hi s)] 1 true] (Fr.refl f5.ok)
   have n6:(h5.ex [.row [.int .i64 (zh S.other.lo S.other.hi s)] 1 true]).next=h5.next+1:=by rw[bc];rfl
   obtain⟨h7,e7,q7,k7,n7,g7'⟩:=dI (ts:=[]) kr (N:=H.next) f6.ok (by omega) (by omega) ((so.fr f2.ok f5).fr f5.ok f6) (x:= .slice (some ⟨h5.next,0,some 1⟩) 1 1) (m:=0) (new:=[.int .i64 (zh S.other.lo S.other.hi s)]) rfl (by
    show ae (rowAt _ h5.next) (fun cells=>aA cells 0 ((0+1)*1))=_
    rw[aZ rfl];rfl) rfl rfl (by omega)
   rw[n6]at e7 q7 n7 g7'
   simp only[XH,aG,Nat.zero_add]at e7 q7
   have f7:Fr H h7:=⟨k7,by omega,fun j hj=>by rw[g7' j (by omega) (fun e=>by have:=(so.blk_lt f2.ok e).1;omega),gz (by omega)];exact(f2.trans f5).get j hj⟩
   have ln:(S.gapsL s l true).length=l.length -1+1:=by simp[LSheet.gapsL]
   have sl:=SL.ls aP (xs:=S.gapsL s l true) (by
    rw[ln]
    unfold LSheet.gapsL
    rw[List.flatMap_append];exact q7)
   simp(maxDischargeDepth:=30)only[AA,↓reduceIte,Q1,Q2,Q3,Q4,reduceCtorEq,Q5,Q6,Q7,XH,iJ,ag.r,NE,g13,g7,f5.ok,eF (dE _ _),aG,e7,k7]
   refine aC (KL h7 sl (by rw[ln];omega) (fun x hx=> ?_)) ?_
   ·have:=f.gaps hs l true x hx;omega
   rintro _ h8 ⟨rfl,rfl⟩
   simp(maxDischargeDepth:=30)only[AA,↓reduceIte,Q1,Q2,Q3,Q4,reduceCtorEq,Q5,Q6,Q7,XH,iJ,ag.r,NE,k7]
   exact⟨trivial,f1.trans f7⟩
end Go.Am

namespace Go.Am
open Go Go.Proofs
def oD:=A2 @WE<|A2 @Rx<|A2 @Rw<|A2 @jq<|A2 @Jw<|A2 @Qw<|A2 @mV<|A2 @PH<|A2 @sF<|A2 @Om<|A2 @Ol @FD
def LSheet.wideP (S:LSheet) (s:Int) (l:List (Nat×Nat)) (dash:Bool):Int:=cK (S.lettersL l dash)+cK (S.gapsL s l dash)
theorem Lv {b:Int} (hb:0<=b): ∀{l:List Int} {a:Int},0<=a ->(∀x∈l,0<=x/\ x<=b) ->0<=l.foldl (· + ·) a/\ l.foldl (· + ·) a<=a+l.length*b
 |[],a,ha,_=>by simp;omega
 |x::l,a,ha,h=>by
  have c:=h x (by simp)
  have:=Lv hb (l:=l) (a:=a+x) (by omega) fun y hy=>h y (by simp[hy])
  simp only[List.foldl_cons,List.length_cons,Int.natCast_add,Int.add_mul]
  omega
theorem OL {b:Int} (hb:0<=b) {l:List Int} (h: ∀x∈l,0<=x/\ x<=b):0<=cK l/\ cK l<=l.length*b:=by
 have:=Lv hb (l:=l) (a:=0) (by omega) h
 unfold cK;omega
theorem ixF0 (f g:Value):cD CC 383 (.agg ⟨[f,g]⟩) (.int .i64 ((0:Nat):Int))=some f:=by kernel_rfl
theorem ixF1 (f g:Value):cD CC 383 (.agg ⟨[f,g]⟩) (.int .i64 ((1:Nat):Int))=some g:=by kernel_rfl
set_option maxRecDepth 10000 in
set_option maxHeartbeats 2000000 in
theorem XN {h:Heap} (hk:HOK h) (hp:0<h.next) {u:LetV} {S:LSheet} {m:Nat} (q:IsLet h u S) (qm:HasP S h m) (f:S.Fine) {v:Value} {l:List (Nat×Nat)} (hv:LS h v l bV 2) (hl: ∀p∈l,S.SpotOK p) (hn:l.length<=500) (dash:Bool) {s:Int} (hs:0<=s/\ s<=10):
  CW CC 210 [.agg ⟨S.frontC u m⟩, .agg ⟨[v, .bool dash]⟩, .int .i64 s] h fun r h'=>r= .int .i64 (S.wideP s l dash)/\ Fr h h':=by
 obtain⟨pw,cw,pp,cp,pd,cd,F,ew,_⟩:=q.front m
 have LX:=fun {h':Heap} (g:Fr h h')=>MJ g.ok (Nat.lt_of_lt_of_le hp g.next) (m:=m) (q.fr hk g) f (hv.fr hk g) hl hn dash (s:=s)
 have GX:=fun {h':Heap} (g:Fr h h')=>YV g.ok (Nat.lt_of_lt_of_le hp g.next) (m:=m) (q.fr hk g) (qm.fr hk g) f (hv.fr hk g) hl hn dash hs
 obtain⟨R,hR⟩: ∃R,R=S.frontC u m:=⟨_,rfl⟩
 rw[<-hR]at F LX GX⊢
 obtain⟨pv,cv,rfl,hx⟩:=hv.open
 have bl:=f.letters hl dash
 have bg:=f.gaps hs l dash
 have s1:=OL (b:=20) (by omega) (l:=S.lettersL l dash) fun x hx=>by have:=bl x hx;omega
 have s2:=OL (b:=20) (by omega) (l:=S.gapsL s l dash) bg
 have n1:(S.lettersL l dash).length<=501:=by unfold LSheet.lettersL;rw[List.length_append,List.length_map];split<;>simp<;>omega
 have n2:(S.gapsL s l dash).length<=501:=by unfold LSheet.gapsL;rw[List.length_append,List.length_map,List.length_range];split<;>simp<;>omega
 have w1:IntKind.i64.wrap (0+cK (S.lettersL l dash))=cK (S.lettersL l dash):=by rw[Int.zero_add];exact bG (by omega) (by omega)
 have w2:IntKind.i64.wrap (cK (S.lettersL l dash)+cK (S.gapsL s l dash))=S.wideP s l dash:=bG (by omega) (by omega)
 refine aw Tryz.f210 (by kernel_rfl) (by kernel_rfl) rfl rfl ?_
 simp only[Tryz.f210]
 have f1:=aI [.row R 0 true, .row [.slice pv l.length cv, .bool dash] 0 true] (Fr.refl hk)
 have r1:rowAt (h.ex [.row R 0 true, .row [.slice pv l.length cv, .bool dash] 0 true]) h.next=some R:=aZ rfl
 have r2:rowAt (h.ex [.row R 0 true, .row [.slice pv l.length cv, .bool dash] 0 true]) (h.next+1)=some [.slice pv l.length cv, .bool dash]:=by rw[jy rfl (by simp)];rfl
 simp(maxDischargeDepth:=30)only[AA,↓reduceIte,Q1,Q2,Q3,Q4,reduceCtorEq,Q5,Q6,Q7,XH,oD,hk,F.ro,F.rl]
 generalize(h.ex [.row R 0 true, .row [.slice pv l.length cv, .bool dash] 0 true])=H at f1 r1 r2⊢
 refine dN [7,9,11,12,13,14,15,16,17,18,19,20,21] 11 2 (fun i g h'=>g 7= .int .i64 (if i=0 then 0 else if i=1 then cK (S.lettersL l dash)else S.wideP s l dash)/\ Fr H h') (by simp only[aa,↓reduceIte]) ⟨by simp only[aa,Nat.reduceEqDiff,↓reduceIte],Fr.refl f1.ok⟩ ?_ ?_
 ·rintro i g h2 hi ag g11 ⟨g7,f2⟩ ih
  have r12:=f2.row' f1.ok r1
  have m12:=af f2.ok r12
  have r22:=f2.row' f1.ok r2
  have m22:=af f2.ok r22
  have fh2:=f1.trans f2
  rcases(by omega:i=0 \/i=1)with rfl|rfl
  ·have hd:decide (((0:Nat):Int)<2)=true:=rfl
   have wn:IntKind.i64.wrap (((0:Nat):Int)+1)=((1:Nat):Int):=rfl
   simp only[↓reduceIte]at g7
   simp(maxDischargeDepth:=30)only[AA,↓reduceIte,Q1,Q2,Q3,Q4,reduceCtorEq,Q5,Q6,Q7,XH,oD,ag.r,NE,g11,g7,f2.ok,hd,r12,m12,r22,m22,F.ra,ixF0]
   refine aC (LX fh2) ?_
   rintro _ h3 ⟨rfl,f3⟩
   simp(maxDischargeDepth:=30)only[AA,↓reduceIte,Q1,Q2,Q3,Q4,reduceCtorEq,Q5,Q6,Q7,XH,oD,ag.r,NE,g11,g7,f3.ok,w1,wn]
   refine ih _ _ (by simp only[AG,Nat.reduceEqDiff,ag]) (by simp only[aa,↓reduceIte]) ⟨by simp only[aa,Nat.reduceEqDiff,↓reduceIte],f2.trans f3⟩
  ·have hd:decide (((1:Nat):Int)<2)=true:=rfl
   have wn:IntKind.i64.wrap (((1:Nat):Int)+1)=((2:Nat):Int):=rfl
   simp only[Nat.reduceEqDiff,↓reduceIte]at g7
   simp(maxDischargeDepth:=30)only[AA,↓reduceIte,Q1,Q2,Q3,Q4,reduceCtorEq,Q5,Q6,Q7,XH,oD,ag.r,NE,g11,g7,f2.ok,hd,r12,m12,r22,m22,F.ra,ixF1]
   refine aC (GX fh2) ?_
   rintro _ h3 ⟨rfl,f3⟩
   simp(maxDischargeDepth:=30)only[AA,↓reduceIte,Q1,Q2,Q3,Q4,reduceCtorEq,Q5,Q6,Q7,XH,oD,ag.r,NE,g11,g7,f3.ok,w2,wn]
   refine ih _ _ (by simp only[AG,Nat.reduceEqDiff,ag]) (by simp only[aa,↓reduceIte]) ⟨by simp only[aa,Nat.reduceEqDiff,↓reduceIte],f2.trans f3⟩
 ·rintro g h2 ag g11 ⟨g7,f2⟩
  have hd:decide (((2:Nat):Int)<2)=false:=rfl
  simp only[Nat.reduceEqDiff,↓reduceIte]at g7
  simp(maxDischargeDepth:=30)only[AA,↓reduceIte,Q1,Q2,Q3,Q4,reduceCtorEq,Q5,Q6,Q7,XH,oD,ag.r,NE,g11,g7,f2.ok,hd]
  exact⟨trivial,f1.trans f2⟩
end Go.Am

namespace Go.Am
open Go Go.Proofs
section
variable {C:Ctx} {rd:Option Nat} {body:Code} {k:List Item} {N:Nat} {f:Nat ->Value} {D:List Deferred} {p:Option Value} {h:Heap} {Q:FEnd ->FrS ->Heap ->Prop}
theorem Kr (ws:List Nat) (n:Nat) (I:Nat ->(Nat ->Value) ->Heap ->Prop) (hI:I n f h)
  (step: ∀m g h,Ag ws g f ->I m g h ->(∀m' g' h',m'<m ->Ag ws g' f ->I m' g' h' ->W (bH C rd (.inLoop body::k) ⟨T N g',D,p⟩ h') Q) ->W (bH C rd (.code body:: .inLoop body::k) ⟨T N g,D,p⟩ h) Q):
  W (bH C rd (.inLoop body::k) ⟨T N f,D,p⟩ h) Q:=by
 refine eT n (fun m g h=>Ag ws g f/\ I m g h) ⟨Ag.refl _ _,hI⟩ ?_
 rintro m g h ⟨ag,hI⟩ ih
 exact step m g h ag hI fun m' g' h' hm ag' hI'=>ih m' g' h' hm ⟨ag',hI'⟩
end
def LSheet.lenW (S:LSheet) (w:Nat):Nat:=match S.words[w]? with
 |some w=>w.signs.length
 |none=>0
def mM (e p:Nat×Nat):Bool:=decide (p.1<e.1)||(decide (p.1=e.1)&&decide (p.2<e.2))
def LSheet.stepG (S:LSheet) (e:Nat×Nat):Nat ->Nat×Nat ->List (Nat×Nat) ->List (Nat×Nat)×(Nat×Nat)
 |0,p,acc=>(acc,p)
 |n+1,p,acc=>if mM e p=true then(if p.2=S.lenW p.1 then S.stepG e n (p.1+1,0) acc else S.stepG e n (p.1,p.2+1) (acc++[p]))else(acc,p)
def LSheet.linesG (S:LSheet):List (Nat×Nat) ->Nat×Nat ->List (List (Nat×Nat)×Bool)
 |[],_=>[]
 |e::es,p=>((S.stepG e 100 p []).1,decide (e.2<S.lenW e.1))::S.linesG es (S.stepG e 100 p []).2
def LSheet.psum (S:LSheet):Nat ->Nat
 |0=>0
 |w+1=>S.psum w+S.lenW w+1
def LSheet.EndOK (S:LSheet) (e:Nat×Nat):Prop:=e.1<S.words.length/\ e.2<=S.lenW e.1
structure LSheet.At (S:LSheet) (n:Nat) (p:Nat×Nat):Prop where
 i:p.2<=S.lenW p.1
 n:S.psum S.words.length<=S.psum p.1+p.2+n
theorem LSheet.psum_mono (S:LSheet) {a b:Nat} (h:a<=b):S.psum a<=S.psum b:=by
 induction h with
 |refl=>exact Nat.le_refl _
 |step _ ih=>simp only[LSheet.psum];omega
theorem LSheet.lenW_le {S:LSheet} (f:S.Fine) (w:Nat):S.lenW w<=6:=by
 unfold LSheet.lenW
 split
 ·next x hx=>exact(f.word (List.mem_of_getElem? hx)).1.2
 ·omega
theorem LSheet.psum_le {S:LSheet} (f:S.Fine): ∀w,S.psum w<=7*w
 |0=>Nat.le_refl _
 |w+1=>by have:=S.psum_le f w;have:=S.lenW_le f w;simp only[LSheet.psum];omega
theorem LSheet.At.start {S:LSheet} (f:S.Fine):S.At 100 (0,0):=⟨Nat.zero_le _,by have:=S.psum_le f S.words.length;have:=f.nw;simp only[LSheet.psum];omega⟩
theorem LSheet.At.pos {S:LSheet} {n:Nat} {e p:Nat×Nat} (a:S.At n p) (he:S.EndOK e) (hg:mM e p=true): ∃n',n=n'+1/\ p.1<S.words.length:=by
 have hp:p.1<S.words.length:=by
  unfold mM at hg
  simp only[Bool.or_eq_true,Bool.and_eq_true,decide_eq_true_eq]at hg
  have:=he.1
  omega
 have h1:=S.psum_mono (a:=p.1+1) (b:=S.words.length) (by omega)
 simp only[LSheet.psum]at h1
 have:=a.i
 have:=a.n
 exact⟨n -1,by omega,hp⟩
theorem LSheet.At.next {S:LSheet} {n:Nat} {p:Nat×Nat} (a:S.At (n+1) p) (h:p.2=S.lenW p.1):S.At n (p.1+1,0):=⟨Nat.zero_le _,by have:=a.n;simp only[LSheet.psum];omega⟩
theorem LSheet.At.inner {S:LSheet} {n:Nat} {p:Nat×Nat} (a:S.At (n+1) p) (h:p.2≠S.lenW p.1):S.At n (p.1,p.2+1):=⟨by have:=a.i;show p.2+1<=S.lenW p.1;omega,by have:=a.n;show _<=S.psum p.1+(p.2+1)+n;omega⟩
theorem LSheet.lenW_spot {S:LSheet} {p:Nat×Nat} (h:p.2<S.lenW p.1):S.SpotOK p:=by
 unfold LSheet.lenW at h
 split at h
 ·next w hw=>exact⟨w,hw,h⟩
 ·omega
theorem LSheet.stepG_at {S:LSheet} {e:Nat×Nat} (he:S.EndOK e): ∀(n:Nat) (p:Nat×Nat) (acc:List (Nat×Nat)),S.At n p ->(∀x∈acc,S.SpotOK x) ->(∀x∈(S.stepG e n p acc).1,S.SpotOK x)/\ S.psum p.1+p.2<=S.psum (S.stepG e n p acc).2.1+(S.stepG e n p acc).2.2/\ (S.stepG e n p acc).2.2<=S.lenW (S.stepG e n p acc).2.1/\ (S.stepG e n p acc).1.length<=acc.length+n
 |0,p,acc,a,ha=>⟨ha,Nat.le_refl _,a.i,Nat.le_refl _⟩
 |n+1,p,acc,a,ha=>by
  unfold LSheet.stepG
  cases hg:mM e p with
  |false=>simp only[Bool.false_eq_true,↓reduceIte];exact⟨ha,Nat.le_refl _,a.i,by omega⟩
  |true=>
   simp only[↓reduceIte]
   by_cases h:p.2=S.lenW p.1
   ·rw[if_pos h]
    have ih:=S.stepG_at he n _ acc (a.next h) ha
    refine⟨ih.1,?_,ih.2.2.1,by omega⟩
    have:=ih.2.1
    simp only[LSheet.psum]at this
    omega
   ·rw[if_neg h]
    have hi:=a.i
    have ih:=S.stepG_at he n _ (acc++[p]) (a.inner h) (fun x hx=>by
     rcases List.mem_append.1 hx with hx|hx
     ·exact ha x hx
     ·simp at hx;subst hx;exact S.lenW_spot (by omega))
    refine⟨ih.1,?_,ih.2.2.1,?_⟩
    ·have:=ih.2.1
     simp only at this
     omega
    ·have:=ih.2.2.2
     simp at this;omega
theorem LSheet.stepG_at' {S:LSheet} {e:Nat×Nat} (he:S.EndOK e) {p:Nat×Nat} (a:S.At 100 p):S.At 100 (S.stepG e 100 p []).2/\ (∀x∈(S.stepG e 100 p []).1,S.SpotOK x)/\ (S.stepG e 100 p []).1.length<=100:=by
 have:=S.stepG_at he 100 p [] a (by simp)
 exact⟨⟨this.2.2.1,by have:=a.n;omega⟩,this.1,by simpa using this.2.2.2⟩
theorem LSheet.linesG_ok {S:LSheet}: ∀(es:List (Nat×Nat)) (p:Nat×Nat),(∀e∈es,S.EndOK e) ->S.At 100 p -> ∀l∈S.linesG es p,(∀x∈l.1,S.SpotOK x)/\ l.1.length<=100
 |[],p,_,_,l,h=>by simp[LSheet.linesG]at h
 |e::es,p,he,a,l,h=>by
  have s:=S.stepG_at' (he e (by simp)) a
  simp only[LSheet.linesG,List.mem_cons]at h
  rcases h with rfl|h
  ·exact s.2
  ·exact S.linesG_ok es _ (fun x hx=>he x (by simp[hx])) s.1 l h
theorem LSheet.linesG_len (S:LSheet): ∀(es:List (Nat×Nat)) (p:Nat×Nat),(S.linesG es p).length=es.length
 |[],_=>rfl
 |e::es,p=>by simp[LSheet.linesG,S.linesG_len es]
end Go.Am
