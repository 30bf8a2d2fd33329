/- Parts V123, V124 of the abstract machine over this program, joined: what each part says stands at its head. -/
import Derived.Test.YtlflfbnnjlkkcaaGreatJV120
import Derived.Test.YtlflfbnnjlkkcaaGreatJV113
import Derived.OpenShut
set_option linter.unusedSimpArgs false
set_option linter.unusedVariables false
set_option linter.defProp false
namespace Go.Am
open Go Go.Proofs Go.ChangeShapes Go.WideShapes Go.RowKit Go.Proofs.YtlflfbnnjlkkcaaGreat
section
variable {H:Type} {enc:TypeId×Value ->H}
theorem mz:Tryz.prog.cellsOf 28=10:=by kernel_rfl
theorem ux:Tryz.prog.cellsOf 23=1:=by kernel_rfl
theorem uu:Tryz.prog.cellsOf 26=1:=by kernel_rfl
theorem oc:Tryz.prog.cellsOf 94=3:=by kernel_rfl
theorem od:Tryz.prog.cellsOf 200=4:=by kernel_rfl
theorem qt:Tryz.prog.cellsOf 32=3:=by kernel_rfl
theorem Ey:Tryz.prog.cellsOf 29=1:=by kernel_rfl
theorem xm:Tryz.prog.cellsOf 30=1:=by kernel_rfl
theorem rf:Tryz.prog.cellsOf 206=2:=by kernel_rfl
theorem nX:Tryz.prog.cellsOf 35=2:=by kernel_rfl
theorem MM:Tryz.prog.cellsOf 33=1:=by kernel_rfl
theorem qu:Tryz.prog.cellsOf 38=3:=by kernel_rfl
theorem tz:Tryz.prog.cellsOf 36=1:=by kernel_rfl
theorem mA:Tryz.prog.cellsOf 96=5:=by kernel_rfl
theorem ut:Tryz.prog.cellsOf 44=1:=by kernel_rfl
theorem tx:Tryz.prog.cellsOf 45=1:=by kernel_rfl
theorem oa:Tryz.prog.cellsOf 89=5:=by kernel_rfl
theorem my:Tryz.prog.cellsOf 166=5:=by kernel_rfl
theorem zb:Tryz.prog.cellsOf 163=1:=by kernel_rfl
theorem za:Tryz.prog.cellsOf 164=1:=by kernel_rfl
theorem JA:Tryz.prog.cellsOf 4=1:=by kernel_rfl
theorem nZ:Tryz.prog.cellsOf 47=3:=by kernel_rfl
theorem uq:Tryz.prog.cellsOf 49=35:=by kernel_rfl
theorem jc:Tryz.prog.cellsOf 3=1:=by kernel_rfl
theorem kP:Tryz.prog.cellsOf 22=1:=by kernel_rfl
theorem fL:Tryz.prog.cellsOf 25=2:=by kernel_rfl
theorem Ho:Tryz.prog.cellsOf 39=3:=by kernel_rfl
theorem mK:Tryz.prog.cellsOf 40=6:=by kernel_rfl
theorem zc:Tryz.prog.cellsOf 41=1:=by kernel_rfl
theorem qp:Tryz.prog.cellsOf 43=13:=by kernel_rfl
theorem tL:Tryz.prog.cellsOf 143=6:=by kernel_rfl
theorem l_2 {cs:List Value} (h:cs.length=2): ∃a0 a1,cs=[a0,a1]:=by
 match cs,h with
 |[a0,a1],_=>exact⟨a0,a1,rfl⟩
theorem l_3 {cs:List Value} (h:cs.length=3): ∃a0 a1 a2,cs=[a0,a1,a2]:=by
 match cs,h with
 |[a0,a1,a2],_=>exact⟨a0,a1,a2,rfl⟩
theorem l_4 {cs:List Value} (h:cs.length=4): ∃a0 a1 a2 a3,cs=[a0,a1,a2,a3]:=by
 match cs,h with
 |[a0,a1,a2,a3],_=>exact⟨a0,a1,a2,a3,rfl⟩
theorem l_5 {cs:List Value} (h:cs.length=5): ∃a0 a1 a2 a3 a4,cs=[a0,a1,a2,a3,a4]:=by
 match cs,h with
 |[a0,a1,a2,a3,a4],_=>exact⟨a0,a1,a2,a3,a4,rfl⟩
theorem l_6 {cs:List Value} (h:cs.length=6): ∃a0 a1 a2 a3 a4 a5,cs=[a0,a1,a2,a3,a4,a5]:=by
 match cs,h with
 |[a0,a1,a2,a3,a4,a5],_=>exact⟨a0,a1,a2,a3,a4,a5,rfl⟩
theorem l_10 {cs:List Value} (h:cs.length=10): ∃a0 a1 a2 a3 a4 a5 a6 a7 a8 a9,cs=[a0,a1,a2,a3,a4,a5,a6,a7,a8,a9]:=by
 match cs,h with
 |[a0,a1,a2,a3,a4,a5,a6,a7,a8,a9],_=>exact⟨a0,a1,a2,a3,a4,a5,a6,a7,a8,a9,rfl⟩
theorem l_13 {cs:List Value} (h:cs.length=13): ∃a0 a1 a2 a3 a4 a5 a6 a7 a8 a9 a10 a11 a12,cs=[a0,a1,a2,a3,a4,a5,a6,a7,a8,a9,a10,a11,a12]:=by
 match cs,h with
 |[a0,a1,a2,a3,a4,a5,a6,a7,a8,a9,a10,a11,a12],_=>exact⟨a0,a1,a2,a3,a4,a5,a6,a7,a8,a9,a10,a11,a12,rfl⟩
section
variable {w:World} {n:Nat}
abbrev TR (w:World) (n:Nat) (t:TypeId) (cs:List Value) (enc:TypeId×Value ->H) (x:DataW H×List MemPlace):Prop:=DataW.trod enc Tryz.prog w 0 (fun _=>true) true n t cs=some x
theorem Kf {t:TypeId} (hu:Tryz.prog.underlying t=some .bool) {cs:List Value} {x:DataW H×List MemPlace} (h:TR w n t cs enc x): ∃b:Bool,cs=[.bool b]:=by
 obtain⟨b,rfl,_⟩:=DataW.trod_bool hu h
 exact⟨b,rfl⟩
abbrev Uy (w:World) (V:Value):Prop:= ∃l:List Int,bX w V l aQ 1
theorem mL {A:Value} {x:DataW H×List MemPlace} (h:TR w n 22 [A] enc x):Uy w A:=by
 obtain⟨l,hl,_⟩:=iF (fun _=>True) Tryz.underlying22 jc (by decide) aP (fun n cs x h=>by obtain⟨m,e⟩:=bT Tryz.underlying3 h;exact⟨m,e,trivial⟩) h
 exact⟨l,hl⟩
theorem mH {cs:List Value} {x:DataW H×List MemPlace} (h:TR w n 25 cs enc x): ∃s:Sp,cs=s.cells:=by
 obtain⟨xs,m,rfl,_,hl,hx,hf⟩:=DataW.trod_struct Tryz.underlying25 h
 rw[fL]at hl
 obtain⟨a0,a1,rfl⟩:=l_2 hl
 have hx:xs.length=2:=hx
 match xs,hx with
 |[x0,x1],_=>
  have h0:=fieldAt hf 0 3 0 1 x0 rfl jc rfl
  have h1:=fieldAt hf 1 3 1 1 x1 rfl jc rfl
  clear h hf
  simp only[List.drop_zero,List.drop_succ_cons,List.take_succ_cons,List.take_zero]at h0 h1
  obtain⟨p,hp⟩:=bT Tryz.underlying3 h0
  obtain⟨q,hq⟩:=bT Tryz.underlying3 h1
  simp only[List.cons.injEq,and_true]at hp hq
  exact⟨⟨p,q⟩,by rw[hp,hq];rfl⟩
theorem Ye {cs:List Value} {x:DataW H×List MemPlace} (h:TR w n 200 cs enc x): ∃s:LPair,cs=s.cells:=by
 obtain⟨xs,m,rfl,_,hl,hx,hf⟩:=DataW.trod_struct Tryz.underlying200 h
 rw[od]at hl
 obtain⟨a0,a1,a2,a3,rfl⟩:=l_4 hl
 have hx:xs.length=3:=hx
 match xs,hx with
 |[x0,x1,x2],_=>
  have h0:=fieldAt hf 0 3 0 1 x0 rfl jc rfl
  have h1:=fieldAt hf 1 3 1 1 x1 rfl jc rfl
  have h2:=fieldAt hf 2 25 2 2 x2 rfl fL rfl
  clear h hf
  simp only[List.drop_zero,List.drop_succ_cons,List.take_succ_cons,List.take_zero]at h0 h1 h2
  obtain⟨p,e0⟩:=bT Tryz.underlying3 h0
  obtain⟨q,e1⟩:=bT Tryz.underlying3 h1
  obtain⟨s,e2⟩:=mH h2
  simp only[Sp.cells,List.cons.injEq,and_true]at e0 e1 e2
  exact⟨⟨p,q,s.lo,s.hi⟩,by rw[e0,e1,e2.1,e2.2];rfl⟩
theorem Zh {cs:List Value} {x:DataW H×List MemPlace} (h:TR w n 206 cs enc x): ∃s:CoatC,cs=s.cells:=by
 obtain⟨xs,m,rfl,_,hl,hx,hf⟩:=DataW.trod_struct Tryz.underlying206 h
 rw[rf]at hl
 obtain⟨a0,a1,rfl⟩:=l_2 hl
 have hx:xs.length=2:=hx
 match xs,hx with
 |[x0,x1],_=>
  have h0:=fieldAt hf 0 3 0 1 x0 rfl jc rfl
  have h1:=fieldAt hf 1 3 1 1 x1 rfl jc rfl
  clear h hf
  simp only[List.drop_zero,List.drop_succ_cons,List.take_succ_cons,List.take_zero]at h0 h1
  obtain⟨p,hp⟩:=bT Tryz.underlying3 h0
  obtain⟨q,hq⟩:=bT Tryz.underlying3 h1
  simp only[List.cons.injEq,and_true]at hp hq
  exact⟨⟨p,q⟩,by rw[hp,hq];rfl⟩
theorem WA {cs:List Value} {x:DataW H×List MemPlace} (h:TR w n 89 cs enc x): ∃s:Board,cs=s.cells:=by
 obtain⟨xs,m,rfl,_,hl,hx,hf⟩:=DataW.trod_struct Tryz.underlying89 h
 rw[oa]at hl
 obtain⟨a0,a1,a2,a3,a4,rfl⟩:=l_5 hl
 have hx:xs.length=4:=hx
 match xs,hx with
 |[x0,x1,x2,x3],_=>
  have h0:=fieldAt hf 0 3 0 1 x0 rfl jc rfl
  have h1:=fieldAt hf 1 3 1 1 x1 rfl jc rfl
  have h2:=fieldAt hf 2 25 2 2 x2 rfl fL rfl
  have h3:=fieldAt hf 3 3 4 1 x3 rfl jc rfl
  clear h hf
  simp only[List.drop_zero,List.drop_succ_cons,List.take_succ_cons,List.take_zero]at h0 h1 h2 h3
  obtain⟨p,e0⟩:=bT Tryz.underlying3 h0
  obtain⟨q,e1⟩:=bT Tryz.underlying3 h1
  obtain⟨s,e2⟩:=mH h2
  obtain⟨r,e3⟩:=bT Tryz.underlying3 h3
  simp only[Sp.cells,List.cons.injEq,and_true]at e0 e1 e2 e3
  exact⟨⟨p,q,s.lo,s.hi,r⟩,by rw[e0,e1,e2.1,e2.2,e3];rfl⟩
theorem tar_c {cs:List Value} {x:DataW H×List MemPlace} (h:TR w n 166 cs enc x): ∃s:Tar,cs=s.cells:=by
 obtain⟨xs,m,rfl,_,hl,hx,hf⟩:=DataW.trod_struct Tryz.underlying166 h
 rw[my]at hl
 obtain⟨a0,a1,a2,a3,a4,rfl⟩:=l_5 hl
 have hx:xs.length=5:=hx
 match xs,hx with
 |[x0,x1,x2,x3,x4],_=>
  have h0:=fieldAt hf 0 163 0 1 x0 rfl zb rfl
  have h1:=fieldAt hf 1 3 1 1 x1 rfl jc rfl
  have h2:=fieldAt hf 2 3 2 1 x2 rfl jc rfl
  have h3:=fieldAt hf 3 164 3 1 x3 rfl za rfl
  have h4:=fieldAt hf 4 4 4 1 x4 rfl JA rfl
  clear h hf
  simp only[List.drop_zero,List.drop_succ_cons,List.take_succ_cons,List.take_zero]at h0 h1 h2 h3 h4
  obtain⟨a,e0⟩:=bT Tryz.underlying163 h0
  obtain⟨b,e1⟩:=bT Tryz.underlying3 h1
  obtain⟨c,e2⟩:=bT Tryz.underlying3 h2
  obtain⟨d,e3⟩:=bT Tryz.underlying164 h3
  obtain⟨e,e4⟩:=Kf Tryz.underlying4 h4
  simp only[List.cons.injEq,and_true]at e0 e1 e2 e3 e4
  exact⟨⟨a,b,c,d,e⟩,by rw[e0,e1,e2,e3,e4];rfl⟩
set_option maxRecDepth 100000 in
theorem KO {cs:List Value} {x:DataW H×List MemPlace} (h:TR w n 40 cs enc x): ∃t:Tin,cs=t.cells:=by
 obtain⟨xs,m,rfl,_,hl,hx,hf⟩:=DataW.trod_array Tryz.underlying40 h
 rw[mK]at hl
 obtain⟨a,b,c,d,e,f,rfl⟩:=l_6 hl
 match xs,hx with
 |[x0,x1,x2],_=>
  have h0:=hf 0 (by decide)
  have h1:=hf 1 (by decide)
  have h2:=hf 2 (by decide)
  rw[fL]at h0 h1 h2
  obtain⟨s0,e0⟩:=mH (x:=x0) h0
  obtain⟨s1,e1⟩:=mH (x:=x1) h1
  obtain⟨s2,e2⟩:=mH (x:=x2) h2
  simp[Sp.cells]at e0 e1 e2
  exact⟨⟨s0,s1,s2⟩,by simp[Tin.cells,e0,e1,e2]⟩
theorem tin_c {cs:List Value} {x:DataW H×List MemPlace} (h:TR w n 143 cs enc x): ∃t:Tin,cs=t.cells:=by
 obtain⟨xs,m,rfl,_,hl,hx,hf⟩:=DataW.trod_struct Tryz.underlying143 h
 rw[tL]at hl
 obtain⟨a0,a1,a2,a3,a4,a5,rfl⟩:=l_6 hl
 have hx:xs.length=1:=hx
 match xs,hx with
 |[x0],_=>
  have h0:=fieldAt hf 0 40 0 6 x0 rfl mK rfl
  clear h hf
  simp only[List.drop_zero,List.drop_succ_cons,List.take_succ_cons,List.take_zero]at h0
  exact KO h0
def WIn (w:World) (x:WordV):Prop:=Uy w x.signs/\ Uy w x.cuts
def SIn (w:World) (x:StrokeV):Prop:=Uy w x.needs
theorem XM {cs:List Value} {x:DataW H×List MemPlace} (h:TR w n 94 cs enc x): ∃s:WordV,cs=s.cells/\ WIn w s:=by
 obtain⟨xs,m,rfl,_,hl,hx,hf⟩:=DataW.trod_struct Tryz.underlying94 h
 rw[oc]at hl
 obtain⟨a0,a1,a2,rfl⟩:=l_3 hl
 have hx:xs.length=3:=hx
 match xs,hx with
 |[x0,x1,x2],_=>
  have h0:=fieldAt hf 0 22 0 1 x0 rfl kP rfl
  have h1:=fieldAt hf 1 22 1 1 x1 rfl kP rfl
  have h2:=fieldAt hf 2 4 2 1 x2 rfl JA rfl
  clear h hf
  simp only[List.drop_zero,List.drop_succ_cons,List.take_succ_cons,List.take_zero]at h0 h1 h2
  obtain⟨b,e2⟩:=Kf Tryz.underlying4 h2
  simp only[List.cons.injEq,and_true]at e2
  exact⟨⟨a0,a1,b⟩,by rw[e2];rfl,mL h0,mL h1⟩
theorem ON {cs:List Value} {x:DataW H×List MemPlace} (h:TR w n 96 cs enc x): ∃s:StrokeV,cs=s.cells/\ SIn w s:=by
 obtain⟨xs,m,rfl,_,hl,hx,hf⟩:=DataW.trod_struct Tryz.underlying96 h
 rw[mA]at hl
 obtain⟨a0,a1,a2,a3,a4,rfl⟩:=l_5 hl
 have hx:xs.length=4:=hx
 match xs,hx with
 |[x0,x1,x2,x3],_=>
  have h0:=fieldAt hf 0 3 0 1 x0 rfl jc rfl
  have h1:=fieldAt hf 1 4 1 1 x1 rfl JA rfl
  have h2:=fieldAt hf 2 25 2 2 x2 rfl fL rfl
  have h3:=fieldAt hf 3 22 4 1 x3 rfl kP rfl
  clear h hf
  simp only[List.drop_zero,List.drop_succ_cons,List.take_succ_cons,List.take_zero]at h0 h1 h2 h3
  obtain⟨p,e0⟩:=bT Tryz.underlying3 h0
  obtain⟨b,e1⟩:=Kf Tryz.underlying4 h1
  obtain⟨s,e2⟩:=mH h2
  simp only[Sp.cells,List.cons.injEq,and_true]at e0 e1 e2
  exact⟨⟨p,b,s.lo,s.hi,a4⟩,by rw[e0,e1,e2.1,e2.2];rfl,mL h3⟩
theorem XC {cs:List Value} {x:DataW H×List MemPlace} (h:TR w n 22 cs enc x): ∃s:Value,cs=jB s/\ Uy w s:=by
 rcases DataW.trod_slice Tryz.underlying22 h with⟨h0,_⟩|⟨a,len,cap,elems,rest,n,_,h0,_⟩
 ·exact⟨_,h0,mL (by rw[h0]at h;exact h)⟩
 ·exact⟨_,h0,mL (by rw[h0]at h;exact h)⟩
structure LIn (W:World) (S:LSheet) (U:LetV):Prop where
 w:bX W U.w S.widths aQ 1
 pr:bX W U.pr S.pairs LPair.cells 4
 wd: ∃us,bX W U.wd us WordV.cells 3/\ ∀x∈us,WIn W x
theorem V4 {cs:List Value} {x:DataW H×List MemPlace} (h:TR w n 28 cs enc x): ∃(S:LSheet) (U:LetV),cs=S.cells U/\ LIn w S U:=by
 obtain⟨xs,m,rfl,_,hl,hx,hf⟩:=DataW.trod_struct Tryz.underlying28 h
 rw[mz]at hl
 obtain⟨a0,a1,a2,a3,a4,a5,a6,a7,a8,a9,rfl⟩:=l_10 hl
 have hx:xs.length=8:=hx
 match xs,hx with
 |[x0,x1,x2,x3,x4,x5,x6,x7],_=>
  have h0:=fieldAt hf 0 22 0 1 x0 rfl kP rfl
  have h1:=fieldAt hf 1 23 1 1 x1 rfl ux rfl
  have h2:=fieldAt hf 2 25 2 2 x2 rfl fL rfl
  have h3:=fieldAt hf 3 25 4 2 x3 rfl fL rfl
  have h4:=fieldAt hf 4 3 6 1 x4 rfl jc rfl
  have h5:=fieldAt hf 5 26 7 1 x5 rfl uu rfl
  have h6:=fieldAt hf 6 3 8 1 x6 rfl jc rfl
  have h7:=fieldAt hf 7 3 9 1 x7 rfl jc rfl
  clear h hf
  simp only[List.drop_zero,List.drop_succ_cons,List.take_succ_cons,List.take_zero]at h0 h1 h2 h3 h4 h5 h6 h7
  obtain⟨l0,q0⟩:=mL h0
  obtain⟨l1,q1,_⟩:=iF (fun _=>True) Tryz.underlying23 od (by decide) LPair.len (fun n cs x h=>by obtain⟨y,e⟩:=Ye h;exact⟨y,e,trivial⟩) h1
  obtain⟨s2,e2⟩:=mH h2
  obtain⟨s3,e3⟩:=mH h3
  obtain⟨p4,e4⟩:=bT Tryz.underlying3 h4
  obtain⟨l5,q5⟩:=iF (WIn w) Tryz.underlying26 oc (by decide) WordV.len (fun n cs x h=>XM h) h5
  obtain⟨p6,e6⟩:=bT Tryz.underlying3 h6
  obtain⟨p7,e7⟩:=bT Tryz.underlying3 h7
  simp only[Sp.cells,List.cons.injEq,and_true]at e2 e3 e4 e6 e7
  exact⟨⟨l0,l1,s2,s3,p4,[],p6,p7⟩,⟨a0,a1,a7⟩,by rw[e2.1,e2.2,e3.1,e3.2,e4,e6,e7];rfl,q0,q1,l5,q5⟩
theorem Wu {cs:List Value} {x:DataW H×List MemPlace} (h:TR w n 32 cs enc x): ∃(S:CoatS) (A B C:Value),cs=[A,B,C]/\ bX w A S.dry Sp.cells 2/\ bX w B S.work aQ 1/\ bX w C S.coats CoatC.cells 2:=by
 obtain⟨xs,m,rfl,_,hl,hx,hf⟩:=DataW.trod_struct Tryz.underlying32 h
 rw[qt]at hl
 obtain⟨a0,a1,a2,rfl⟩:=l_3 hl
 have hx:xs.length=3:=hx
 match xs,hx with
 |[x0,x1,x2],_=>
  have h0:=fieldAt hf 0 29 0 1 x0 rfl Ey rfl
  have h1:=fieldAt hf 1 22 1 1 x1 rfl kP rfl
  have h2:=fieldAt hf 2 30 2 1 x2 rfl xm rfl
  clear h hf
  simp only[List.drop_zero,List.drop_succ_cons,List.take_succ_cons,List.take_zero]at h0 h1 h2
  obtain⟨l0,q0,_⟩:=iF (fun _=>True) Tryz.underlying29 fL (by decide) Sp.len (fun n cs x h=>by obtain⟨y,e⟩:=mH h;exact⟨y,e,trivial⟩) h0
  obtain⟨l1,q1⟩:=mL h1
  obtain⟨l2,q2,_⟩:=iF (fun _=>True) Tryz.underlying30 rf (by decide) CoatC.len (fun n cs x h=>by obtain⟨y,e⟩:=Zh h;exact⟨y,e,trivial⟩) h2
  exact⟨⟨l0,l1,l2⟩,a0,a1,a2,rfl,q0,q1,q2⟩
theorem U5 {cs:List Value} {x:DataW H×List MemPlace} (h:TR w n 35 cs enc x): ∃(N:Int) (A:Value),cs=[.int .i64 N,A]/\ ∃us,bX w A us jB 1/\ ∀x∈us,Uy w x:=by
 obtain⟨xs,m,rfl,_,hl,hx,hf⟩:=DataW.trod_struct Tryz.underlying35 h
 rw[nX]at hl
 obtain⟨a0,a1,rfl⟩:=l_2 hl
 have hx:xs.length=2:=hx
 match xs,hx with
 |[x0,x1],_=>
  have h0:=fieldAt hf 0 3 0 1 x0 rfl jc rfl
  have h1:=fieldAt hf 1 33 1 1 x1 rfl MM rfl
  clear h hf
  simp only[List.drop_zero,List.drop_succ_cons,List.take_succ_cons,List.take_zero]at h0 h1
  obtain⟨p,e0⟩:=bT Tryz.underlying3 h0
  obtain⟨l1,q1⟩:=iF (Uy w) Tryz.underlying33 kP (by decide) jU (fun n cs x h=>XC h) h1
  simp only[List.cons.injEq,and_true]at e0
  exact⟨p,a1,by rw[e0],l1,q1⟩
theorem WU {cs:List Value} {x:DataW H×List MemPlace} (h:TR w n 38 cs enc x): ∃(N:Int) (l:List Int) (A B:Value),cs=[.int .i64 N,A,B]/\ bX w A l aQ 1/\ ∃us,bX w B us StrokeV.cells 5/\ ∀x∈us,SIn w x:=by
 obtain⟨xs,m,rfl,_,hl,hx,hf⟩:=DataW.trod_struct Tryz.underlying38 h
 rw[qu]at hl
 obtain⟨a0,a1,a2,rfl⟩:=l_3 hl
 have hx:xs.length=3:=hx
 match xs,hx with
 |[x0,x1,x2],_=>
  have h0:=fieldAt hf 0 3 0 1 x0 rfl jc rfl
  have h1:=fieldAt hf 1 22 1 1 x1 rfl kP rfl
  have h2:=fieldAt hf 2 36 2 1 x2 rfl tz rfl
  clear h hf
  simp only[List.drop_zero,List.drop_succ_cons,List.take_succ_cons,List.take_zero]at h0 h1 h2
  obtain⟨p,e0⟩:=bT Tryz.underlying3 h0
  obtain⟨l1,q1⟩:=mL h1
  obtain⟨l2,q2⟩:=iF (SIn w) Tryz.underlying36 mA (by decide) StrokeV.len (fun n cs x h=>ON h) h2
  simp only[List.cons.injEq,and_true]at e0
  exact⟨p,l1,a1,a2,by rw[e0],q1,l2,q2⟩
set_option maxRecDepth 100000 in
theorem Yj {cs:List Value} {x:DataW H×List MemPlace} (h:TR w n 39 cs enc x): ∃a b c:Int,cs=[.int .i64 a, .int .i64 b, .int .i64 c]:=by
 obtain⟨xs,m,rfl,_,hl,hx,hf⟩:=DataW.trod_array Tryz.underlying39 h
 rw[Ho]at hl
 obtain⟨a,b,c,rfl⟩:=l_3 hl
 match xs,hx with
 |[x0,x1,x2],_=>
  have h0:=hf 0 (by decide)
  have h1:=hf 1 (by decide)
  have h2:=hf 2 (by decide)
  rw[jc]at h0 h1 h2
  obtain⟨s0,e0⟩:=bT Tryz.underlying3 (x:=x0) h0
  obtain⟨s1,e1⟩:=bT Tryz.underlying3 (x:=x1) h1
  obtain⟨s2,e2⟩:=bT Tryz.underlying3 (x:=x2) h2
  simp at e0 e1 e2
  exact⟨s0,s1,s2,by rw[e0,e1,e2]⟩
theorem U1 {cs:List Value} {x:DataW H×List MemPlace} (h:TR w n 43 cs enc x): ∃(S:TintS) (A:Value),cs=S.cells A/\ bX w A S.tins Tin.cells 6:=by
 obtain⟨xs,m,rfl,_,hl,hx,hf⟩:=DataW.trod_struct Tryz.underlying43 h
 rw[qp]at hl
 obtain⟨a0,a1,a2,a3,a4,a5,a6,a7,a8,a9,a10,a11,a12,rfl⟩:=l_13 hl
 have hx:xs.length=5:=hx
 match xs,hx with
 |[x0,x1,x2,x3,x4],_=>
  have h0:=fieldAt hf 0 39 0 3 x0 rfl Ho rfl
  have h1:=fieldAt hf 1 40 3 6 x1 rfl mK rfl
  have h2:=fieldAt hf 2 25 9 2 x2 rfl fL rfl
  have h3:=fieldAt hf 3 3 11 1 x3 rfl jc rfl
  have h4:=fieldAt hf 4 41 12 1 x4 rfl zc rfl
  clear h hf
  simp only[List.drop_zero,List.drop_succ_cons,List.take_succ_cons,List.take_zero]at h0 h1 h2 h3 h4
  obtain⟨o1,o2,o3,e0⟩:=Yj h0
  obtain⟨f,e1⟩:=KO h1
  obtain⟨y,e2⟩:=mH h2
  obtain⟨o,e3⟩:=bT Tryz.underlying3 h3
  obtain⟨t,ht,_⟩:=iF (fun _=>True) Tryz.underlying41 tL (by decide) Tin.len (fun n cs x h=>by obtain⟨y,e⟩:=tin_c h;exact⟨y,e,trivial⟩) h4
  simp only[Tin.cells,Sp.cells,List.cons.injEq,and_true]at e0 e1 e2 e3
  exact⟨⟨o1,o2,o3,f.a,f.b,f.c,y,o,t⟩,a12,by rw[e0.1,e0.2.1,e0.2.2,e1.1,e1.2.1,e1.2.2.1,e1.2.2.2.1,e1.2.2.2.2.1,e1.2.2.2.2.2,e2.1,e2.2,e3];rfl,ht⟩
theorem Qq {cs:List Value} {x:DataW H×List MemPlace} (h:TR w n 47 cs enc x): ∃(S:Sheet) (A B C:Value),cs=[A,B,C]/\ bX w A S.offs aQ 1/\ bX w B S.boards Board.cells 5/\ bX w C S.tars Tar.cells 5:=by
 obtain⟨xs,m,rfl,_,hl,hx,hf⟩:=DataW.trod_struct Tryz.underlying47 h
 rw[nZ]at hl
 obtain⟨a0,a1,a2,rfl⟩:=l_3 hl
 have hx:xs.length=3:=hx
 match xs,hx with
 |[x0,x1,x2],_=>
  have h0:=fieldAt hf 0 22 0 1 x0 rfl kP rfl
  have h1:=fieldAt hf 1 44 1 1 x1 rfl ut rfl
  have h2:=fieldAt hf 2 45 2 1 x2 rfl tx rfl
  clear h hf
  simp only[List.drop_zero,List.drop_succ_cons,List.take_succ_cons,List.take_zero]at h0 h1 h2
  obtain⟨l0,q0⟩:=mL h0
  obtain⟨l1,q1,_⟩:=iF (fun _=>True) Tryz.underlying44 oa (by decide) Board.len (fun n cs x h=>by obtain⟨y,e⟩:=WA h;exact⟨y,e,trivial⟩) h1
  obtain⟨l2,q2,_⟩:=iF (fun _=>True) Tryz.underlying45 my (by decide) Tar.len (fun n cs x h=>by obtain⟨y,e⟩:=tar_c h;exact⟨y,e,trivial⟩) h2
  exact⟨⟨l0,l1,l2⟩,a0,a1,a2,rfl,q0,q1,q2⟩
structure SuIn (W:World) (S:SuiteD) (U:SuiteV):Prop where
 front:LIn W S.front ⟨U.w,U.pr,U.wd⟩
 dry:bX W U.dry S.coats.dry Sp.cells 2
 wk:bX W U.wk S.coats.work aQ 1
 ct:bX W U.ct S.coats.coats CoatC.cells 2
 sp: ∃us,bX W U.sp us jB 1/\ ∀x∈us,Uy W x
 bo:bX W U.bo S.bench.boards aQ 1
 st: ∃us,bX W U.st us StrokeV.cells 5/\ ∀x∈us,SIn W x
 ti:bX W U.ti S.tints.tins Tin.cells 6
 sk:bX W U.sk S.stock aQ 1
 of:bX W U.of S.prices.offs aQ 1
 bd:bX W U.bd S.prices.boards Board.cells 5
 tr:bX W U.tr S.prices.tars Tar.cells 5
theorem OW {l:List Value} (h:l.length=35):l=l.take 10++((l.drop 10).take 3++((l.drop 13).take 2++((l.drop 15).take 3++((l.drop 18).take 13++((l.drop 31).take 1++(l.drop 32).take 3))))):=by
 have e: ∀(a b:Nat),(l.drop a).take b++l.drop (a+b)=l.drop a:=fun a b=>by
  rw[<-List.drop_drop,List.take_append_drop]
 rw[List.take_of_length_le (l:=l.drop 32) (by rw[List.length_drop];omega),e 31 1,e 18 13,e 15 3,e 13 2,e 10 3,List.take_append_drop]
set_option maxRecDepth 100000 in
theorem OM {V:Value} {d:DataW H} {ps:List MemPlace} {base:Nat} (hok:Value.okWide Tryz.prog w .any base 49 V) (h:DataW.Trod enc Tryz.prog w 0 (fun _=>true) true 49 V d ps):
  ∃(S:SuiteD) (U:SuiteV),V= .agg ⟨S.cells U⟩/\ SuIn w S U:=by
 obtain⟨cs,rfl,hsz⟩:=okWide_struct Tryz.underlying49 hok
 rw[uq]at hsz
 obtain⟨L⟩:=cs
 have hL:L.length=35:=hsz
 obtain⟨n,h⟩:=h
 have h':DataW.trod enc Tryz.prog w 0 (fun _=>true) true n 49 L=some (d,ps):=h
 clear h hsz hok
 obtain⟨xs,m,rfl,_,hl,hx,hf⟩:=DataW.trod_struct Tryz.underlying49 h'
 clear h' hl
 have hx:xs.length=7:=hx
 match xs,hx with
 |[x0,x1,x2,x3,x4,x5,x6],_=>
  have h0:=fieldAt hf 0 28 0 10 x0 rfl mz rfl
  have h1:=fieldAt hf 1 32 10 3 x1 rfl qt rfl
  have h2:=fieldAt hf 2 35 13 2 x2 rfl nX rfl
  have h3:=fieldAt hf 3 38 15 3 x3 rfl qu rfl
  have h4:=fieldAt hf 4 43 18 13 x4 rfl qp rfl
  have h5:=fieldAt hf 5 22 31 1 x5 rfl kP rfl
  have h6:=fieldAt hf 6 47 32 3 x6 rfl nZ rfl
  clear hf
  rw[List.drop_zero]at h0
  obtain⟨S0,U0,e0,q0⟩:=V4 h0
  obtain⟨S1,A1,B1,C1,e1,q1,q1',q1''⟩:=Wu h1
  obtain⟨N,A2,e2,q2⟩:=U5 h2
  obtain⟨N3,l3,A3,B3,e3,q3,q3'⟩:=WU h3
  obtain⟨S4,A4,e4,q4⟩:=U1 h4
  obtain⟨A5,e5⟩: ∃A,(L.drop 31).take 1=[A]:=by
   obtain⟨s,e,_⟩:=XC h5
   exact⟨s,e⟩
  rw[e5]at h5
  obtain⟨l5,q5⟩:=mL h5
  obtain⟨S6,A6,B6,C6,e6,q6,q6',q6''⟩:=Qq h6
  refine⟨⟨S0,S1,⟨N,[]⟩,⟨N3,l3,[]⟩,S4,l5,S6⟩,⟨U0.w,U0.pr,U0.wd,A1,B1,C1,A2,A3,B3,A4,A5,A6,B6,C6⟩,?_,q0,q1,q1',q1'',q2,q3,q3',q4,q5,q6,q6',q6''⟩
  rw[OW hL,e0,e1,e2,e3,e4,e5,e6];rfl
end
theorem oT {C:Ctx} {good:Code ->Prop} {w:World} {μ:Mu} {h:Heap} (S:Start C good w μ h) {V:Value} (q:Uy w V): ∃l μ' h' v,μ.le μ'/\ Start C good w μ' h'/\ Fr h h'/\ VRel μ' v V/\ IsRow (fun _=>True) h' v l:=by
 obtain⟨l,q⟩:=q
 obtain⟨μ',h',v,a,b,c,d,e,f⟩:=yD S aP jG q
 exact⟨l,μ',h',v,a,b,c,d,⟨e,fun _ _ _=>trivial⟩,fun hn=>by obtain⟨b',c',e',h'⟩:=f hn;exact⟨b',0,none,c',e',h'⟩⟩
theorem VRels.app {μ:Mu}: ∀{a A b B:List Value},VRels μ a A ->VRels μ b B ->VRels μ (a++b) (A++B)
 |[],[],_,_,_,h=>h
 |[],_::_,_,_,h,_=>by have:=h.1;simp at this
 |_::_,[],_,_,h,_=>by have:=h.1;simp at this
 |x::a,X::A,b,B,h,h'=>by
  refine .cons (h.2 0 x X rfl rfl) (VRels.app (a:=a) (A:=A) ⟨by have:=h.1;simpa using this,fun i y Y hy hY=>h.2 (i+1) y Y (by simpa using hy) (by simpa using hY)⟩ h')
theorem C9 {C:Ctx} {good:Code ->Prop} {w:World} {α β:Type} {f:α ->List Value} {R:α ->Prop} {Q:Heap ->α ->β ->Prop}
  (one: ∀{μ:Mu} {h:Heap} {X:α},Start C good w μ h ->R X -> ∃x y μ' h',μ.le μ'/\ Start C good w μ' h'/\ Fr h h'/\ VRels μ' (f x) (f X)/\ Q h' x y)
  (hQ: ∀{h h':Heap} {x:α} {y:β},HOK h ->Fr h h' ->Q h x y ->Q h' x y): ∀(XS:List α) {μ:Mu} {h:Heap},Start C good w μ h ->(∀X∈XS,R X) ->
   ∃us ws μ' h',μ.le μ'/\ Start C good w μ' h'/\ Fr h h'/\ us.length=XS.length/\ VRels μ' (us.flatMap f) (XS.flatMap f)/\ LR Q h' us ws
 |[],μ,h,S,_=>⟨[],[],μ,h,fun _ _ a=>a,S,Fr.refl S.ok,rfl, .nil,rfl,fun i u w hu=>by simp at hu⟩
 |X::XS,μ,h,S,hR=>by
  obtain⟨x,y,μ1,h1,l1,S1,f1,v1,q1⟩:=one S (hR X (by simp))
  obtain⟨us,ws,μ2,h2,l2,S2,f2,n2,v2,q2⟩:=C9 one hQ XS S1 fun Y hY=>hR Y (by simp[hY])
  refine⟨x::us,y::ws,μ2,h2,fun i e hi=>l2 i e (l1 i e hi),S2,f1.trans f2,by simp[n2],?_,by simp[q2.1],?_⟩
  ·simp only[List.flatMap_cons]
   exact(v1.mono l2).app v2
  ·intro i u w' hu hw
   cases i with
   |zero=>simp at hu hw;subst hu hw;exact hQ S1.ok f2 q1
   |succ i=>exact q2.2 i u w' (by simpa using hu) (by simpa using hw)
theorem IP {C:Ctx} {good:Code ->Prop} {w:World} {μ:Mu} {h:Heap} {X:WordV} (S:Start C good w μ h) (q:WIn w X): ∃(x:WordV) (y:LWord) (μ':Mu) (h':Heap),μ.le μ'/\ Start C good w μ' h'/\ Fr h h'/\ VRels μ' x.cells X.cells/\ IsWord (fun _=>True) h' x y:=by
 obtain⟨l1,μ1,h1,v1,a1,S1,f1,r1,i1⟩:=oT S q.1
 obtain⟨l2,μ2,h2,v2,a2,S2,f2,r2,i2⟩:=oT S1 q.2
 exact⟨⟨v1,v2,X.free⟩,⟨l1,l2,X.free⟩,μ2,h2,fun i e hi=>a2 i e (a1 i e hi),S2,f1.trans f2, .cons (r1.mono a2) (.cons r2 (.cons (.plain _ rfl) .nil)),i1.1.fr S1.ok f2,i2.1,rfl⟩
theorem Eh {C:Ctx} {good:Code ->Prop} {w:World} {μ:Mu} {h:Heap} {X:StrokeV} (S:Start C good w μ h) (q:SIn w X): ∃(x:StrokeV) (y:BStroke) (μ':Mu) (h':Heap),μ.le μ'/\ Start C good w μ' h'/\ Fr h h'/\ VRels μ' x.cells X.cells/\ IsStroke (fun _=>True) h' x y:=by
 obtain⟨l1,μ1,h1,v1,a1,S1,f1,r1,i1⟩:=oT S q
 exact⟨⟨X.board,X.round,X.lo,X.hi,v1⟩,⟨X.board,X.round,X.lo,X.hi,l1⟩,μ1,h1,a1,S1,f1, .cons (.plain _ rfl) (.cons (.plain _ rfl) (.cons (.plain _ rfl) (.cons (.plain _ rfl) (.cons r1 .nil)))),rfl,rfl,rfl,rfl,i1.1⟩
theorem Md {C:Ctx} {good:Code ->Prop} {w:World} {μ:Mu} {h:Heap} {X:Value} (S:Start C good w μ h) (q:Uy w X): ∃(x:Value) (y:List Int) (μ':Mu) (h':Heap),μ.le μ'/\ Start C good w μ' h'/\ Fr h h'/\ VRels μ' (jB x) (jB X)/\ IsRow (fun _=>True) h' x y:=by
 obtain⟨l1,μ1,h1,v1,a1,S1,f1,r1,i1⟩:=oT S q
 exact⟨v1,l1,μ1,h1,a1,S1,f1, .cons r1 .nil,i1⟩
theorem Ax {C:Ctx} {good:Code ->Prop} {w:World} {μ:Mu} {h:Heap} (S:Start C good w μ h) {α β:Type} {f:α ->List Value} {s:Nat} {R:α ->Prop} {Q:(Nat ->Prop) ->Heap ->α ->β ->Prop} (hf: ∀x,(f x).length=s)
  (one: ∀{μ:Mu} {h:Heap} {X:α},Start C good w μ h ->R X -> ∃x y μ' h',μ.le μ'/\ Start C good w μ' h'/\ Fr h h'/\ VRels μ' (f x) (f X)/\ Q (fun _=>True) h' x y)
  (hQ: ∀{h h':Heap} {x:α} {y:β},HOK h ->Fr h h' ->Q (fun _=>True) h x y ->Q (fun _=>True) h' x y) {V:Value} (q: ∃XS,bX w V XS f s/\ ∀X∈XS,R X):
  ∃ws μ' h' v,μ.le μ'/\ Start C good w μ' h'/\ Fr h h'/\ VRel μ' v V/\ LN (fun _=>True) Q f s h' v ws:=by
 obtain⟨XS,q,hR⟩:=q
 obtain⟨us,ws,μ1,h1,l1,S1,f1,n1,v1,q1⟩:=C9 one hQ XS S hR
 obtain⟨μ2,h2,v,l2,S2,f2,v2,q2,_⟩:=C8 S1 hf n1 v1 q
 exact⟨ws,μ2,h2,v,fun i e hi=>l2 i e (l1 i e hi),S2,f1.trans f2,v2,us,⟨q2,fun _ _ _=>trivial⟩,q1.map fun _ _ e=>hQ S1.ok f2 e⟩
theorem gL {C:Ctx} {good:Code ->Prop} {w:World} {μ:Mu} {h:Heap} (S:Start C good w μ h) {α:Type} {V:Value} {xs:List α} {f:α ->List Value} {s:Nat} (hf: ∀x,(f x).length=s) (hp: ∀x,(f x).all aU=true) (q:bX w V xs f s):
  ∃μ' h' v,μ.le μ'/\ Start C good w μ' h'/\ Fr h h'/\ VRel μ' v V/\ LP (fun _=>True) h' v xs f s:=by
 obtain⟨μ',h',v,a,b,c,d,e,_⟩:=yD S hf hp q
 exact⟨μ',h',v,a,b,c,d,e,fun _ _ _=>trivial⟩
end
end Go.Am

namespace Go.Am
open Go Go.Proofs Go.ChangeShapes Go.WideShapes Go.RowKit Go.Proofs.YtlflfbnnjlkkcaaGreat
set_option maxRecDepth 100000 in
theorem Er {H:Type} {enc:TypeId×Value ->H} {W:World} {base:Nat} {args:Array Value} {ds:List (DataW H)} {ps:List MemPlace}
  (hval: ∀(j:Nat) t v,[49][j]? =some t ->args[j]? =some v ->Value.okWide Tryz.prog W .any base t v)
  (hA:DataW.TrodAll enc Tryz.prog W 0 (fun _=>true) true [49] args.toList ds ps):ds.length=1/\ Calls Tryz.prog 3 args W (Fw W):=by
 obtain⟨args⟩:=args
 obtain⟨V0,vs1,d0,ds1,_,p1,rfl,rfl,_,h0,hA⟩:=trodAll_cons hA
 obtain⟨rfl,rfl,_⟩:=trodAll_nil hA
 refine⟨rfl,?_⟩
 obtain⟨S0,U,rfl,q⟩:=OM (hval 0 49 V0 rfl rfl) h0
 have Z0:=Start.zero (C:=CC) rfl (goodP CC iw) W
 obtain⟨μ1,k1,uw,l1,Z1,f1,vw,qw⟩:=gL Z0 aP jG q.front.w
 obtain⟨μ2,k2,upr,l2,Z2,f2,vpr,qpr⟩:=gL Z1 LPair.len (fun _=>rfl) q.front.pr
 obtain⟨dwd,μ3,k3,uwd,l3,Z3,f3,vwd,qwd⟩:=Ax Z2 WordV.len IP (fun hk f e=>IsWord.fr e hk f) q.front.wd
 obtain⟨μ4,k4,udry,l4,Z4,f4,vdry,qdry⟩:=gL Z3 Sp.len (fun _=>rfl) q.dry
 obtain⟨μ5,k5,uwk,l5,Z5,f5,vwk,qwk⟩:=gL Z4 aP jG q.wk
 obtain⟨μ6,k6,uct,l6,Z6,f6,vct,qct⟩:=gL Z5 CoatC.len (fun _=>rfl) q.ct
 obtain⟨dsp,μ7,k7,usp,l7,Z7,f7,vsp,qsp⟩:=Ax Z6 jU Md (fun hk f e=>IsRow.fr e hk f) q.sp
 obtain⟨μ8,k8,ubo,l8,Z8,f8,vbo,qbo⟩:=gL Z7 aP jG q.bo
 obtain⟨dst,μ9,k9,ust,l9,Z9,f9,vst,qst⟩:=Ax Z8 StrokeV.len Eh (fun hk f e=>IsStroke.fr e hk f) q.st
 obtain⟨μ10,k10,uti,l10,Z10,f10,vti,qti⟩:=gL Z9 Tin.len (fun _=>rfl) q.ti
 obtain⟨μ11,k11,usk,l11,Z11,f11,vsk,qsk⟩:=gL Z10 aP jG q.sk
 obtain⟨μ12,k12,uof,l12,Z12,f12,vof,qof⟩:=gL Z11 aP jG q.of
 obtain⟨μ13,k13,ubd,l13,Z13,f13,vbd,qbd⟩:=gL Z12 Board.len (fun _=>rfl) q.bd
 obtain⟨μ14,k14,utr,l14,Z14,f14,vtr,qtr⟩:=gL Z13 Tar.len (fun _=>rfl) q.tr
 have g14:Fr k14 k14:=Fr.refl Z14.ok
 have m14:μ14.le μ14:=fun _ _ a=>a
 have g13:Fr k13 k14:=f14.trans g14
 have m13:μ13.le μ14:=fun i e hi=>m14 i e (l14 i e hi)
 have g12:Fr k12 k14:=f13.trans g13
 have m12:μ12.le μ14:=fun i e hi=>m13 i e (l13 i e hi)
 have g11:Fr k11 k14:=f12.trans g12
 have m11:μ11.le μ14:=fun i e hi=>m12 i e (l12 i e hi)
 have g10:Fr k10 k14:=f11.trans g11
 have m10:μ10.le μ14:=fun i e hi=>m11 i e (l11 i e hi)
 have g9:Fr k9 k14:=f10.trans g10
 have m9:μ9.le μ14:=fun i e hi=>m10 i e (l10 i e hi)
 have g8:Fr k8 k14:=f9.trans g9
 have m8:μ8.le μ14:=fun i e hi=>m9 i e (l9 i e hi)
 have g7:Fr k7 k14:=f8.trans g8
 have m7:μ7.le μ14:=fun i e hi=>m8 i e (l8 i e hi)
 have g6:Fr k6 k14:=f7.trans g7
 have m6:μ6.le μ14:=fun i e hi=>m7 i e (l7 i e hi)
 have g5:Fr k5 k14:=f6.trans g6
 have m5:μ5.le μ14:=fun i e hi=>m6 i e (l6 i e hi)
 have g4:Fr k4 k14:=f5.trans g5
 have m4:μ4.le μ14:=fun i e hi=>m5 i e (l5 i e hi)
 have g3:Fr k3 k14:=f4.trans g4
 have m3:μ3.le μ14:=fun i e hi=>m4 i e (l4 i e hi)
 have g2:Fr k2 k14:=f3.trans g3
 have m2:μ2.le μ14:=fun i e hi=>m3 i e (l3 i e hi)
 have g1:Fr k1 k14:=f2.trans g2
 have m1:μ1.le μ14:=fun i e hi=>m2 i e (l2 i e hi)
 obtain⟨S,hS⟩: ∃S:SuiteD,S={S0 with front:={S0.front with words:=dwd},board:={S0.board with spots:=dsp},bench:={S0.bench with strokes:=dst}}:=⟨_,rfl⟩
 have su:IsSuite (fun _=>True) k14 ⟨uw,upr,uwd,udry,uwk,uct,usp,ubo,ust,uti,usk,uof,ubd,utr⟩ S:=by
  subst hS
  exact⟨qw.fr Z1.ok g1,qpr.fr Z2.ok g2,qwd.fr Z3.ok g3 fun _ _ e=>e.fr Z3.ok g3,qdry.fr Z4.ok g4,qwk.fr Z5.ok g5,qct.fr Z6.ok g6,qsp.fr Z7.ok g7 fun _ _ e=>e.fr Z7.ok g7,qbo.fr Z8.ok g8,qst.fr Z9.ok g9 fun _ _ e=>e.fr Z9.ok g9,qti.fr Z10.ok g10,qof.fr Z12.ok g12,qbd.fr Z13.ok g13,qtr.fr Z14.ok g14⟩
 have sk:LP (fun _=>True) k14 usk S.stock aQ 1:=by
  subst hS
  exact qsk.fr Z11.ok g11
 have rl:VRels μ14 (S.cells ⟨uw,upr,uwd,udry,uwk,uct,usp,ubo,ust,uti,usk,uof,ubd,utr⟩) (S0.cells U):=by
  subst hS
  exact .cons (vw.mono m1) (.cons (vpr.mono m2) (.cons (.plain _ rfl) (.cons (.plain _ rfl) (.cons (.plain _ rfl) (.cons (.plain _ rfl) (.cons (.plain _ rfl) (.cons (vwd.mono m3) (.cons (.plain _ rfl) (.cons (.plain _ rfl) (.cons (vdry.mono m4) (.cons (vwk.mono m5) (.cons (vct.mono m6) (.cons (.plain _ rfl) (.cons (vsp.mono m7) (.cons (.plain _ rfl) (.cons (vbo.mono m8) (.cons (vst.mono m9) (.cons (.plain _ rfl) (.cons (.plain _ rfl) (.cons (.plain _ rfl) (.cons (.plain _ rfl) (.cons (.plain _ rfl) (.cons (.plain _ rfl) (.cons (.plain _ rfl) (.cons (.plain _ rfl) (.cons (.plain _ rfl) (.cons (.plain _ rfl) (.cons (.plain _ rfl) (.cons (.plain _ rfl) (.cons (vti.mono m10) (.cons (vsk.mono m11) (.cons (vof.mono m12) (.cons (vbd.mono m13) (.cons (vtr.mono m14) .nil))))))))))))))))))))))))))))))))))
 exact MI Z14 (args:=[.agg ⟨S.cells ⟨uw,upr,uwd,udry,uwk,uct,usp,ubo,ust,uti,usk,uof,ubd,utr⟩⟩]) (.cons (.agg _ _ rl.1 rl.2) .nil) (Ji Z14.ok Z14.rel.pos su sk)
end Go.Am
