/- Parts Am9, Am10, Am11, Am12 of the abstract machine over this program, joined: what each part says stands at its head. -/
import Derived.Test.YtlflfbnnjlkkcaaGreatJAm5
import Derived.Laws.BytesArg
import Derived.Laws.BytesString
set_option linter.unusedSimpArgs false
set_option linter.unusedVariables false
set_option linter.defProp false
namespace Go.Am
open Go
section
variable {C:Ctx} (hC:C.Ok0) {good:Code ->Prop} {w0:World} {μ:Mu} {h:Heap} {w:World}
theorem eW (H:HRel good w0 μ h w) {s n:Nat} {x X:Value} {l:List Value} (hn:i8 x=some n \/ ∃m,i8 x=some m/\ n<=m) (hx:VRel μ x X) (hc:bf h s n x=some l):
  ∃L:Array Value,(Builtin.firstCells s n X).run C.P w= .ok L w/\ VRels μ l L.toList:=by
 cases x with
 |slice p len cap=>
  cases p with
  |none=>
   obtain rfl:=hx.nilslice_inv
   cases n with
   |zero=>simp[bf]at hc;subst hc;exact⟨#[],by simp[Builtin.firstCells], .nil⟩
   |succ n=>simp[bf]at hc
  |some a=>
   obtain⟨A,CAP,rfl,hcc,hlc,hsl⟩:=hx.slice_inv
   cases n with
   |zero=>
    simp[bf]at hc;subst hc
    exact⟨#[],by simp[Builtin.firstCells,loadCells,loadCellsFrom], .nil⟩
   |succ n=>
    simp only[bf]at hc
    obtain⟨cells,hcl,h2⟩:=ab hc
    obtain⟨e1,e2⟩:=u1 h2
    have hlen:n+1<=len:=by
     rcases hn with h|⟨m,h,hm⟩<;>simp[i8]at h<;>omega
    rcases hsl with⟨_,hz⟩|⟨_,e,he,hz⟩
    ·omega
    ·rcases hz with⟨s1,s2,s3,_⟩|hz
     ·obtain⟨B,el,fz,x1,x2,x3,x5⟩:=H.row he hcl
      have hL:VRels μ l ((((B.toList.drop e.base).take cells.length).drop a.off).take ((n+1)*s)):=by rw[e1];exact(x5.drop _).take _
      generalize hLe:(((B.toList.drop e.base).take cells.length).drop a.off).take ((n+1)*s)=L at hL
      have hget: ∀j u,L[j]? =some u ->w.cell? (A.add j)=some u:=by
       intro j u hu
       rw[eG s1,s2,s3,cell_of_row w e.blk _ B el fz x1]
       rw[<-hLe,List.getElem?_take]at hu
       split at hu
       ·rw[List.getElem?_drop,List.getElem?_take]at hu
        split at hu
        ·rw[List.getElem?_drop]at hu
         rw[<-Array.getElem?_toList,<-hu];congr 1;omega
        ·simp at hu
       ·simp at hu
      refine⟨L.toArray,?_,by simpa using hL⟩
      exact run_firstCells_some w s (n+1) A len CAP L (by rw[<-hL.1];exact e2) hget
     ·omega
 |string b=>
  obtain rfl:=hx.string_inv
  simp[bf]at hc
  subst hc
  refine⟨(b.extract 0 n).data.map fun x=> .int .u8 x.toNat,by simp[Builtin.firstCells],?_⟩
  have:((b.extract 0 n).data.map fun x=>Value.int .u8 x.toNat).toList=(b.data.toList.take n).map fun x=>Value.int .u8 x.toNat:=by
   simp[ByteArray.data_extract,List.extract_eq_take_drop]
  rw[this]
  rw[<-List.map_take]
  refine VRels.plain (l:=(b.data.toList.take n).map fun x=>Value.int .u8 x.toNat) ?_
  apply List.all_eq_true.2
  intro x hx
  obtain⟨y,_,rfl⟩:=List.mem_map.1 hx
  rfl
 |_=>simp[bf]at hc
theorem Nz {v:Value} {x:UInt8} (h:Fd v=some x): ∃n,v= .int .u8 n/\ x=UInt8.ofNat n.toNat:=by
 unfold Fd at h
 split at h
 ·simp at h;exact⟨_,rfl,h.symm⟩
 ·simp at h
theorem Fc {l:List Value}: ∀{b:List UInt8},zL l=some b -> ∃ns:List Int,l=ns.map (Value.int .u8)/\ b=ns.map fun n=>UInt8.ofNat n.toNat:=by
 induction l with
 |nil=>intro b hb;simp[zL,cU]at hb;exact⟨[],rfl,hb⟩
 |cons v l ih=>
  intro b hb
  have hb:ae (Fd v) (fun x=>ae (zL l) fun t=>some (x::t))=some b:=hb
  obtain⟨x,hx,h1⟩:=ab hb
  obtain⟨t,ht,h2⟩:=ab h1
  simp at h2
  obtain⟨ns,rfl,rfl⟩:=ih ht
  obtain⟨n,rfl,hx'⟩:=Nz hx
  exact⟨n::ns,rfl,by rw[<-h2,hx'];rfl⟩
include hC
theorem H8 (H:HRel good w0 μ h w) {s d:TypeId} {x X:Value} {v:Value} (hx:VRel μ x X) (hv:ka C s d x h=some (.val v)):
  ∃V,(convert s d X).run C.P w= .ok V w/\ VRel μ v V:=by
 obtain⟨ds,hds,h1⟩:=ab hv
 obtain⟨dd,hdd,h2⟩:=ab h1
 cases x<;>try (simp at h2;done)
 ·rename_i k n
  obtain rfl:=hx.int_inv
  simp only at h2
  cases dd<;>simp only[E1]at h2<;>try (simp at h2;done)
  ·simp at h2;subst h2
   refine⟨_,?_, .plain _ rfl⟩
   unfold convert
   simp only[Sem.run_bind,bE hC hds,bE hC hdd,Result.andThen_ok]
   cases ds<;>rfl
  ·obtain⟨u,hu,h3⟩:=ab h2
   simp[aY]at h3;subst h3
   obtain⟨p,q⟩:=GV hu w
   exact⟨_,p, .plain _ q⟩
 ·rename_i b
  obtain rfl:=hx.string_inv
  simp only at h2
  unfold EZ at h2
  split at h2
  ·simp at h2;subst h2
   refine⟨_,?_, .plain _ rfl⟩
   unfold convert
   simp only[Sem.run_bind,bE hC hds,bE hC hdd,Result.andThen_ok]
   cases ds<;>rfl
  ·obtain⟨d8,hd8,h3⟩:=ab h2
   obtain⟨_,h4⟩:=aq h3
   simp at h4
  ·simp at h2
 ·rename_i p n cap
  simp only at h2
  unfold uE at h2
  split at h2
  ·rename_i e
   obtain⟨d8,hd8,h3⟩:=ab h2
   obtain⟨h8,h4⟩:=aq h3
   obtain⟨l,hl,h5⟩:=ab h4
   obtain⟨b,hb,h6⟩:=ab h5
   simp at h6;subst h6
   have hu8:d8= .int .u8:=by
    cases d8<;>simp[VU]at h8
    rename_i k;cases k<;>simp at h8⊢
   subst hu8
   obtain⟨L,hL,hr⟩:=eW H (.inl rfl) hx hl
   obtain⟨ns,rfl,rfl⟩:=Fc hb
   have hLe:L.toList=ns.map (Value.int .u8):=hr.basic (by simp[List.all_eq_true,basic])
   have hLe':L=(ns.map (Value.int .u8)).toArray:=by apply Array.ext';rw[hLe]
   subst hLe'
   have key: ∀X',(convert s d X').run C.P w=(Conv.bytesToString X').run C.P w ->X'=X -> ∃V,(convert s d X).run C.P w= .ok V w/\ VRel μ (Bi (ns.map fun n=>UInt8.ofNat n.toNat)) V:=by
    intro X' he hX
    subst hX
    refine⟨Bi (ns.map fun n=>UInt8.ofNat n.toNat),?_, .plain _ rfl⟩
    rw[he]
    cases p with
    |none=>
     obtain rfl:=hx.nilslice_inv
     have:ns=[]:=by
      cases n with
      |zero=>simp[bf]at hl;exact hl
      |succ n=>simp[bf]at hl
     subst this
     rfl
    |some a=>
     obtain⟨A,CAP,rfl,_⟩:=hx.slice_inv
     have:=run_bytesToString w A n CAP ns (by simpa[Builtin.firstCells]using hL)
     rw[this,foldl_push_bytes]
     congr 2
     apply ByteArray.ext
     simp[Bi]
   cases p with
   |none=>obtain rfl:=hx.nilslice_inv;exact key _ (run_convert_bytes_string w s d e none n cap (qG hC hds) (qG hC hd8) (qG hC hdd)) rfl
   |some a=>obtain⟨A,CAP,rfl,_⟩:=hx.slice_inv;exact key _ (run_convert_bytes_string w s d e (some A) n CAP (qG hC hds) (qG hC hd8) (qG hC hdd)) rfl
  ·simp at h2
omit hC in
theorem tR {t:TypeId} {name:String} {f:FuncId} (h:lV C t name=some f):
  ∃i m d b,C.T.get t=some i/\ i.methods.toList.find? (fun m=>m.name==name)=some m/\ m.path= #[]/\ m.func=some (f,b)/\ C.und t=some d/\ b=pA d:=by
 obtain⟨i,hi,h1⟩:=ab h
 obtain⟨m,hm,h2⟩:=ab h1
 obtain⟨d,hd,h3⟩:=ab h2
 unfold Dq at h3
 split at h3
 ·rename_i f' b hp hf
  obtain⟨h4,h5⟩:=aq h3
  simp at h5;subst h5
  refine⟨i,m,d,b,hi,hm,?_,hf,hd,by simpa using h4⟩
  apply Array.ext';rw[hp]
 ·simp at h3
theorem Et {t:TypeId} {name:String} {f:FuncId} {V:Value} (h:lV C t name=some f) (n:Nat):(nilAhead (n+1) t V name).run C.P w= .ok (some false) w:=by
 obtain⟨i,m,d,b,hi,hm,hp,hf,hd,hb⟩:=tR h
 have hm':i.methods.find? (fun m=>m.name==name)=some m:=by rw[<-Array.find?_toList];exact hm
 unfold nilAhead
 simp only[Sem.run_bind,j8 hC hi,Result.andThen_ok,hm',hp,followBlind,Sem.run_pure,hf]
 cases b with
 |true=>rfl
 |false=>
  simp only[Sem.run_bind,bE hC hd,Result.andThen_ok]
  cases d<;>simp[pA]at hb<;>rfl
theorem Jo {t:TypeId} {name:String} {f:FuncId} {V:Value} (h:lV C t name=some f) (n:Nat):(method (n+1) t V name).run C.P w= .ok (f,V) w:=by
 obtain⟨i,m,d,b,hi,hm,hp,hf,hd,hb⟩:=tR h
 have hm':i.methods.find? (fun m=>m.name==name)=some m:=by rw[<-Array.find?_toList];exact hm
 unfold method
 simp only[Sem.run_bind,j8 hC hi,Result.andThen_ok,hm',hp,follow,Sem.run_pure,hf]
 unfold receiverAt
 simp only[Sem.run_bind,bE hC hd,Result.andThen_ok]
 cases b with
 |true=>cases d<;>simp[pA]at hb;rfl
 |false=>cases d<;>simp[pA]at hb<;>rfl
omit hC in
theorem HW {P:Program} {x X:Value} {i:Nat} {ev:EV} (hx:VRel μ x X) (hv:rP x i=some ev): ∃v V,ev= .val v/\ (Instr.extract X i).run P w= .ok V w/\ VRel μ v V:=by
 obtain⟨vs,h1,h2⟩:=ab hv
 obtain⟨v,h3,h4⟩:=ab h2
 cases x<;>simp[Xw]at h1
 subst h1
 obtain⟨Xs,rfl,hs⟩:=hx.tuple_inv
 obtain⟨V,hV,hr⟩:=hs.get h3
 simp[aY]at h4
 rw[Array.getElem?_toList]at hV
 exact⟨v,V,h4.symm,by simp[Instr.extract,hV],hr⟩
theorem Ki {x X v:Value} {xt t:TypeId} {ok:Bool} (hx:VRel μ x X) (hv:gW C x t ok=some v): ∃V,(Instr.typeAssert X xt t ok).run C.P w= .ok V w/\ VRel μ v V:=by
 obtain⟨d,hd,h1⟩:=ab hv
 obtain⟨hni,h2⟩:=aq h1
 obtain⟨z,hz,h3⟩:=ab h2
 have hzr:VRel μ z z:= .ofPlain (tU hC hz)
 have two: ∀a A:Value,∀b:Bool,VRel μ a A ->VRel μ (nO [a, .bool b]) (.tuple #[A, .bool b]):=fun a A b h=> .tup' (.cons h (.cons (.plain _ rfl) .nil))
 unfold Instr.typeAssert
 simp only[Sem.run_bind,bE hC hd,Result.andThen_ok]
 cases x<;>simp only[Io]at h3<;>try (simp at h3;done)
 ·rename_i u y
  obtain⟨Y,rfl,hy⟩:=hx.iface_inv
  by_cases hut:u=t
  ·subst hut
   simp only[Nat.beq_refl]at h3
   cases ok with
   |true=>simp at h3;subst h3;exact⟨.tuple #[Y, .bool true],by cases d<;>simp[eB]at hni<;>simp,two _ _ _ hy⟩
   |false=>simp at h3;subst h3;exact⟨Y,by cases d<;>simp[eB]at hni<;>simp,hy⟩
  ·have hb:Nat.beq u t=false:=by cases hb:Nat.beq u t with|false=>rfl|true=>exact absurd (Nat.eq_of_beq_eq_true hb) hut
   simp only[hb]at h3
   obtain⟨hok,h4⟩:=aq h3
   simp at h4;subst h4;subst hok
   exact⟨.tuple #[z, .bool false],by cases d<;>simp[eB]at hni<;>simp[hut,gI hC hz],two _ _ _ hzr⟩
 ·obtain rfl:=hx.nilIface_inv
  obtain⟨hok,h4⟩:=aq h3
  simp at h4;subst h4;subst hok
  exact⟨.tuple #[z, .bool false],by cases d<;>simp[eB]at hni<;>simp[gI hC hz],two _ _ _ hzr⟩
end
end Go.Am

namespace Go.Am
open Go
def FRel (k:Value) (es ES:List MapEntry) (i:Nat) (r R:Option (Nat×Value)):Prop:=
 match r with
 |none=>R=none
 |some q=> ∃n e E,q.1=i+n/\ es[n]? =some e/\ ES[n]? =some E/\ q.2=e.val/\ R=some (q.1,E.val)/\ nW k e.key=some true
theorem FRel.cons {k:Value} {e E:MapEntry} {es ES:List MapEntry} {i:Nat} {r R:Option (Nat×Value)} (h:FRel k es ES (i+1) r R):FRel k (e::es) (E::ES) i r R:=by
 cases r with
 |none=>exact h
 |some q=>obtain⟨n,f,F,h1,h2,h3,h4⟩:=h;exact⟨n+1,f,F,by omega,by simpa using h2,by simpa using h3,h4⟩
theorem ERels.cons_inv {μ:Mu} {e:MapEntry} {es ES:List MapEntry} (h:ERels μ (e::es) ES): ∃E ES',ES=E::ES'/\ E.key=e.key/\ E.born=e.born/\ VRel μ e.val E.val/\ ERels μ es ES':=by
 cases ES with
 |nil=>have:=h.1;simp at this
 |cons E ES=>
  obtain⟨h1,h2,h3⟩:=h.2 0 e E rfl rfl
  refine⟨E,ES,rfl,h1,h2,h3,by have:=h.1;simpa using this,fun i f F a b=>h.2 (i+1) f F (by simpa using a) (by simpa using b)⟩
theorem pU (k:Value) (e:MapEntry) (es:List MapEntry) (i:Nat):jA k (e::es) i=(match nW k e.key with|some true=>some (some (i,e.val))|some false=>jA k es (i+1)|none=>none):=rfl
def ox:TypeDesc ->Value ->Bool
 | .int _, .int _ _=>true
 | .string, .string _=>true
 | .bool, .bool _=>true
 |_,_=>false
theorem Hm {d : TypeDesc} {k y : Value} {b : Bool} (hd : ox d k = true) (h : nW k y = some b) :
    Instr.sameNow d k y = some b := by
  cases k <;> cases y <;> first
    | (simp [nW, dH] at h; done)
    | (cases d <;> first
        | (simp [ox] at hd; done)
        | (simp only [nW, dH] at h
           first
            | (split at h
               · rename_i hk; subst hk; simpa [Instr.sameNow] using h
               · simp at h)
            | (rw [sH] at h; simpa [Instr.sameNow] using h)
            | (simpa [Instr.sameNow] using h)))
section
variable {C:Ctx} (hC:C.Ok0) {good:Code ->Prop} {w0:World} {μ:Mu} {h:Heap} {w:World}
theorem HU {d:TypeDesc} {k:Value} (hd:ox d k=true) {es:List MapEntry}:
  ∀{ES:List MapEntry} {i:Nat} {r:Option (Nat×Value)},ERels μ es ES ->jA k es i=some r -> ∃R,Instr.findNow d k ES i=some R/\ FRel k es ES i r R:=by
 induction es with
 |nil=>
  intro ES i r he h
  have:ES=[]:=by have:=he.1;simp at this;exact List.eq_nil_of_length_eq_zero this.symm
  subst this
  have:r=none:=by simpa[jA,cU]using h.symm
  subst this
  exact⟨none,rfl,rfl⟩
 |cons e es ih=>
  intro ES i r he h
  obtain⟨E,ES',rfl,h1,h2,h3,h4⟩:=he.cons_inv
  rw[pU]at h
  cases hk:nW k e.key with
  |none=>rw[hk]at h;simp at h
  |some b=>
   rw[hk]at h
   have hn:=Hm hd hk
   rw[<-h1]at hn
   cases b with
   |true=>
    simp at h;subst h
    exact⟨some (i,E.val),by simp[Instr.findNow,hn],0,e,E,rfl,rfl,rfl,rfl,rfl,hk⟩
   |false=>
    simp only at h
    obtain⟨R,hR,hf⟩:=ih h4 h
    exact⟨R,by simp[Instr.findNow,hn,hR],hf.cons⟩
include hC
theorem rD {kt:TypeId} (hq:C.eqOk kt=true) {cs:Array Value} (hlk:C.like kt cs.toList=true) {es:List MapEntry}:
  ∀{ES:List MapEntry} {i:Nat} {r:Option (Nat×Value)},ERels μ es ES ->jA (.agg cs) es i=some r -> ∃R,(Instr.findAsking kt (.agg cs) ES i).run C.P w= .ok R w/\ FRel (.agg cs) es ES i r R:=by
 induction es with
 |nil=>
  intro ES i r he h
  have:ES=[]:=by have:=he.1;simp at this;exact List.eq_nil_of_length_eq_zero this.symm
  subst this
  have:r=none:=by simpa[jA,cU]using h.symm
  subst this
  exact⟨none,rfl,rfl⟩
 |cons e es ih=>
  intro ES i r he h
  obtain⟨E,ES',rfl,h1,h2,h3,h4⟩:=he.cons_inv
  rw[pU]at h
  cases hk:nW (.agg cs) e.key with
  |none=>rw[hk]at h;simp at h
  |some b=>
   rw[hk]at h
   cases hek:e.key<;>rw[hek]at hk<;>try (simp[nW,dH]at hk;done)
   rename_i ys
   obtain⟨hkl,hk'⟩:=aq hk
   obtain⟨z,hz,hlike⟩:=zC hlk
   have hr:=(hC.eq kt z hq hz).eq cs ys b hlike hkl hk' w
   rw[<-hek,<-h1]at hr
   cases b with
   |true=>
    simp at h;subst h
    exact⟨some (i,E.val),by simp[Instr.findAsking,hr],0,e,E,rfl,rfl,rfl,rfl,rfl,by rw[hek];exact hk⟩
   |false=>
    simp only at h
    obtain⟨R,hR,hf⟩:=ih h4 h
    exact⟨R,by simp[Instr.findAsking,hr,hR],hf.cons⟩
theorem zD {kt:TypeId} {k K:Value} (hf:iP C kt k=true) (hk:VRel μ k K) {es ES:List MapEntry} {r:Option (Nat×Value)} (he:ERels μ es ES) (h:jA k es 0=some r):
  K=k/\ (∀e,(Instr.checkKey e 10000 kt k).run C.P w= .ok () w)/\ ∃R,(Instr.findKey kt k ES).run C.P w= .ok R w/\ FRel k es ES 0 r R:=by
 unfold iP at hf
 cases hd:C.und kt with
 |none=>rw[hd]at hf;simp at hf
 |some d=>
  rw[hd]at hf
  simp only at hf
  have basicCase:ox d k=true ->K=k ->
    K=k/\ (∀e,(Instr.checkKey e 10000 kt k).run C.P w= .ok () w)/\ ∃R,(Instr.findKey kt k ES).run C.P w= .ok R w/\ FRel k es ES 0 r R:=by
   intro hb hK
   refine⟨hK,?_,?_⟩
   ·intro e
    have: ∀n,(Instr.checkKey e (n+1) kt k).run C.P w= .ok () w:=by
     intro n
     simp only[Instr.checkKey,Sem.run_bind,bE hC hd,Result.andThen_ok]
     cases d<;>cases k<;>first|(simp[ox]at hb;done)|rfl
    exact this 9999
   ·obtain⟨R,hR,hf⟩:=HU hb he h
    exact⟨R,by simp[Instr.findKey,bE hC hd,hR],hf⟩
  cases d<;>simp only[XJ]at hf<;>try (simp at hf;done)
  ·cases k<;>simp at hf
   exact basicCase rfl hk.bool_inv
  ·cases k<;>simp[rh]at hf
   exact basicCase rfl hk.int_inv
  ·cases k<;>simp at hf
   exact basicCase rfl hk.string_inv
  ·rename_i nn fs
   obtain⟨hq,hsk⟩:=(Bool.and_eq_true _ _).mp hf
   obtain⟨hlk,hsk⟩:=(Bool.and_eq_true _ _).mp hsk
   unfold sG at hsk
   split at hsk
   case h_2=>simp at hsk
   rename_i cs _
   obtain⟨hall,hn⟩:=(Bool.and_eq_true _ _).mp hsk
   obtain⟨Xs,rfl,hs⟩:=hk.agg_inv
   have hall':=hall
   have hX:Xs=cs:=by apply Array.ext';exact hs.basic hall'
   subst hX
   refine⟨rfl,?_,?_⟩
   ·intro e
    cases hz:C.size kt with
    |none=>rw[hz]at hn;simp at hn
    |some n=>
     rw[hz]at hn
     obtain⟨z,hz',hll⟩:=zC (show C.like kt Xs.toList=true from hlk)
     exact(hC.eq kt z hq hz').key Xs n (KT hC hz) (Nat.eq_of_beq_eq_true hn) hll e w
   ·obtain⟨R,hR,hf⟩:=rD (w:=w) hC hq hlk he h
    refine⟨R,?_,hf⟩
    simp only[Instr.findKey,Sem.run_bind,bE hC hd,Result.andThen_ok]
    cases ES with
    |nil=>
     have:R=none:=by
      have:(Instr.findAsking kt (.agg Xs) [] 0).run C.P w= .ok none w:=rfl
      rw[this]at hR;simpa using hR.symm
     subst this;rfl
    |cons E ES=>
     have:Instr.findNow (.array nn fs) (.agg Xs) (E::ES) 0=none:=by simp[Instr.findNow,Instr.sameNow]
     rw[this];exact hR
  ·rename_i fs
   obtain⟨hq,hsk⟩:=(Bool.and_eq_true _ _).mp hf
   obtain⟨hlk,hsk⟩:=(Bool.and_eq_true _ _).mp hsk
   unfold sG at hsk
   split at hsk
   case h_2=>simp at hsk
   rename_i cs _
   obtain⟨hall,hn⟩:=(Bool.and_eq_true _ _).mp hsk
   obtain⟨Xs,rfl,hs⟩:=hk.agg_inv
   have hall':=hall
   have hX:Xs=cs:=by apply Array.ext';exact hs.basic hall'
   subst hX
   refine⟨rfl,?_,?_⟩
   ·intro e
    cases hz:C.size kt with
    |none=>rw[hz]at hn;simp at hn
    |some n=>
     rw[hz]at hn
     obtain⟨z,hz',hll⟩:=zC (show C.like kt Xs.toList=true from hlk)
     exact(hC.eq kt z hq hz').key Xs n (KT hC hz) (Nat.eq_of_beq_eq_true hn) hll e w
   ·obtain⟨R,hR,hf⟩:=rD (w:=w) hC hq hlk he h
    refine⟨R,?_,hf⟩
    simp only[Instr.findKey,Sem.run_bind,bE hC hd,Result.andThen_ok]
    cases ES with
    |nil=>
     have:R=none:=by
      have:(Instr.findAsking kt (.agg Xs) [] 0).run C.P w= .ok none w:=rfl
      rw[this]at hR;simpa using hR.symm
     subst this;rfl
    |cons E ES=>
     have:Instr.findNow (.struct fs) (.agg Xs) (E::ES) 0=none:=by simp[Instr.findNow,Instr.sameNow]
     rw[this];exact hR
end
end Go.Am

namespace Go.Am
open Go
theorem VRel.plainEq {μ:Mu} {v V:Value} (h:VRel μ v V) (hp:aU v=true):V=v:=by
 cases h<;>first|rfl|(simp[aU]at hp)
section
variable {C:Ctx} (hC:C.Ok0) {good:Code ->Prop} {w0:World} {μ:Mu} {h:Heap} {w:World}
include hC
omit hC in
theorem yR (H:HRel good w0 μ h w) {m M:Value} {es:List MapEntry} (hm:VRel μ m M) (he:je h m=some es):
  (M= .map none/\ es=[]) \/ ∃b ES c,M= .map (some b)/\ w.heap[b]? =some (.map ES c)/\ ERels μ es ES.toList:=by
 cases m<;>simp only[je]at he<;>try (simp at he;done)
 rename_i r
 cases r with
 |none=>obtain rfl:=hm.nilmap_inv;simp at he;exact .inl ⟨rfl,he⟩
 |some r=>
  obtain⟨e,rfl,hr⟩:=hm.map_inv
  obtain⟨x,hx,h1⟩:=ab he
  obtain⟨o,ho,h2⟩:=ab hx
  cases o<;>simp[Bm]at h2
  rename_i es' c
  subst h2
  simp at h1;subst h1
  obtain⟨_,ES,h3,h4⟩:=H.obj r e _ hr ho
  exact .inr ⟨e.blk,ES,c,rfl,h3,h4⟩
theorem Jp (H:HRel good w0 μ h w) {t:TypeId} {m M k K v:Value} {ok:Bool} (hm:VRel μ m M) (hk:VRel μ k K) (hv:mF C t m k ok h=some v):
  ∃V,(Instr.lookup t M K ok).run C.P w= .ok V w/\ VRel μ v V:=by
 obtain⟨d,hd,h1⟩:=ab hv
 obtain⟨⟨kt,et⟩,hq,h2⟩:=ab h1
 obtain⟨hf,h3⟩:=aq h2
 obtain⟨z,hz,h4⟩:=ab h3
 obtain⟨es,hes,h5⟩:=ab h4
 obtain⟨r,hr,h6⟩:=ab h5
 cases d<;>simp[jo]at hq
 rename_i kt' et'
 obtain⟨rfl,rfl⟩:=hq
 dsimp only at hf hz
 have hzr:VRel μ z z:= .ofPlain (tU hC hz)
 have two: ∀a A:Value,∀b:Bool,VRel μ a A ->VRel μ (nO [a, .bool b]) (.tuple #[A, .bool b]):=fun a A b h=> .tup' (.cons h (.cons (.plain _ rfl) .nil))
 unfold Instr.lookup
 simp only[Sem.run_bind,bE hC hd,Result.andThen_ok]
 rcases yR H hm hes with⟨rfl,rfl⟩|⟨b,ES,c,rfl,hb,hER⟩
 ·obtain⟨rfl,hck,R,hR,hfr⟩:=zD (w:=w) (ES:=[]) hC hf hk ⟨rfl,fun i e E a _=>by simp at a⟩ hr
  have hrn:r=none:=by simpa[jA,cU]using hr.symm
  subst hrn
  have hfr:R=none:=hfr
  subst hfr
  cases ok with
  |true=>simp[tP]at h6;subst h6;exact⟨.tuple #[z, .bool false],by simp[hck,hR,gI hC hz],two _ _ _ hzr⟩
  |false=>simp[tP]at h6;subst h6;exact⟨z,by simp[hck,hR,gI hC hz],hzr⟩
 ·obtain⟨rfl,hck,R,hR,hfr⟩:=zD (w:=w) hC hf hk hER hr
  have hg:(getObj b).run C.P w= .ok (.map ES c) w:=by simp[getObj,Sem.run,hb]
  cases r with
  |none=>
   have hfr:R=none:=hfr
   subst hfr
   cases ok with
   |true=>simp[tP]at h6;subst h6;exact⟨.tuple #[z, .bool false],by simp[hg,hck,hR,gI hC hz],two _ _ _ hzr⟩
   |false=>simp[tP]at h6;subst h6;exact⟨z,by simp[hg,hck,hR,gI hC hz],hzr⟩
  |some q=>
   obtain⟨n,e,E,e1,e2,e3,e4,rfl,_⟩:=hfr
   have hv2:=(hER.2 n e E e2 e3).2.2
   cases ok with
   |true=>simp[tP]at h6;subst h6;exact⟨.tuple #[E.val, .bool true],by simp[hg,hck,hR],by rw[e4];exact two _ _ _ hv2⟩
   |false=>simp[tP]at h6;subst h6;exact⟨E.val,by simp[hg,hck,hR],by rw[e4];exact hv2⟩
theorem VO (H:HRel good w0 μ h w) {t:TypeId} {x X v:Value} {ts:Array TypeId} {ty:TypeId} {Xs:Array Value} (ht:ts[0]? =some t) (hX:Xs[0]? =some X) (hx:VRel μ x X) (hv:mg C t x h=some v):
  (Builtin.len_ ts ty Xs).run C.P w= .ok v w/\ aU v=true:=by
 obtain⟨d,hd,h1⟩:=ab hv
 unfold Builtin.len_
 simp only[ht,hX,Sem.run_bind,bE hC hd,Result.andThen_ok]
 cases d<;>simp only[Lc]at h1<;>try (simp at h1;done)
 ·cases x<;>simp at h1
  obtain rfl:=hx.string_inv
  subst h1
  exact⟨rfl,rfl⟩
 ·rename_i el
  cases x<;>simp at h1
  rename_i p n c
  subst h1
  cases p with
  |none=>obtain rfl:=hx.nilslice_inv;exact⟨rfl,rfl⟩
  |some p=>obtain⟨A,CAP,rfl,_⟩:=hx.slice_inv;exact⟨rfl,rfl⟩
 ·simp at h1;subst h1
  refine⟨?_,rfl⟩
  cases X<;>rfl
 ·obtain⟨es,hes,h2⟩:=ab h1
  simp at h2;subst h2
  refine⟨?_,rfl⟩
  rcases yR H hx hes with⟨rfl,rfl⟩|⟨b,ES,c,rfl,hb,hER⟩
  ·rfl
  ·have hg:(getObj b).run C.P w= .ok (.map ES c) w:=by simp[getObj,Sem.run,hb]
   have hl:es.length=ES.size:=by rw[hER.1];simp
   simp[hg,goInt,hl]
omit hC in
theorem Bj {P:Program} (f:Value ->Value ->Option Value) (F:Value ->Value ->Sem Value) (hf: ∀x y z,f x y=some z ->(F x y).run P w= .ok z w/\ aU z=true/\ aU x=true/\ aU y=true):
  ∀(l L:List Value) (x X v:Value),VRels μ l L ->VRel μ x X ->tQ f l x=some v -> ∃V,(L.foldlM F X).run P w= .ok V w/\ VRel μ v V:=by
 intro l
 induction l with
 |nil=>
  intro L x X v hl hx h
  obtain rfl:=hl.nil_inv
  have:x=v:=by simpa[tQ,cU]using h
  subst this
  exact⟨X,rfl,hx⟩
 |cons y l ih=>
  intro L x X v hl hx h
  obtain⟨Y,L',rfl,hy,hl'⟩:=hl.cons_inv
  have h:ae (f x y) (tQ f l)=some v:=h
  obtain⟨z,hz,h1⟩:=ab h
  obtain⟨p1,p2,p3,p4⟩:=hf x y z hz
  have hX:X=x:=hx.plainEq p3
  have hY:Y=y:=hy.plainEq p4
  subst hX;subst hY
  obtain⟨V,q1,q2⟩:=ih L' z z v hl' (.plain _ p2) h1
  exact⟨V,by simp[List.foldlM_cons,p1,q1],q2⟩
omit hC in
theorem QN {P:Program} (x y z:Value) (h:min2 x y=some z):(Builtin.min2 x y).run P w= .ok z w/\ aU z=true/\ aU x=true/\ aU y=true:=by
 unfold min2 at h
 split at h
 ·simp at h;subst h;exact⟨rfl,rfl,rfl,rfl⟩
 ·simp at h
omit hC in
theorem QP {P:Program} (x y z:Value) (h:max2 x y=some z):(Builtin.max2 x y).run P w= .ok z w/\ aU z=true/\ aU x=true/\ aU y=true:=by
 unfold max2 at h
 split at h
 ·simp at h;subst h;exact⟨rfl,rfl,rfl,rfl⟩
 ·simp at h
omit hC in
theorem Es {v V:Value} {ev:EV} (hv:VRel μ v V) (h:ir C v=some ev):ev= .val v:=by
 unfold ir at h
 split at h
 ·simpa[aY]using h.symm
 ·unfold K6 at h
  split at h
  ·simpa[aY]using h.symm
  ·simpa[aY]using h.symm
  ·unfold sP at h
   split at h
   ·obtain⟨_,_,h1⟩:=ab h;simpa[aY]using h1.symm
   ·simp at h
  ·simp at h
 ·simpa[aY]using h.symm
 ·simp at h
end
section
variable {C:Ctx} (hC:C.Ok0) {good:Code ->Prop} {w0:World} {μ:Mu} {h:Heap} {w:World}
include hC
theorem Ef (hsz:w0.heap.size<=w.heap.size) {s d:TypeId} {x X:Value} {o:AObj} {mk:Nat ->Value} (hx:VRel μ x X) (hv:ka C s d x h=some (.new o mk)):
  ∃x' mk' V w' O lim esz,EV.new o mk= .new x' mk'/\ (convert s d X).run C.P w= .ok V w'/\ Grew w w' O/\
   ∀i,μ i=none ->i≠0 ->ORel good w0.heap.size (μ.upd i ⟨w.heap.size,0,lim,esz⟩) ⟨w.heap.size,0,lim,esz⟩ x' (some O)/\ VRel (μ.upd i ⟨w.heap.size,0,lim,esz⟩) (mk' i) V:=by
 obtain⟨ds,hds,h1⟩:=ab hv
 obtain⟨dd,hdd,h2⟩:=ab h1
 cases x<;>try (simp at h2;done)
 ·simp only at h2
  cases dd<;>simp only[E1]at h2<;>try (simp at h2;done)
  obtain⟨u,hu,h3⟩:=ab h2
  simp[aY]at h3
 ·rename_i b
  obtain rfl:=hx.string_inv
  simp only at h2
  unfold EZ at h2
  split at h2
  ·simp at h2
  ·rename_i e
   obtain⟨d8,hd8,h3⟩:=ab h2
   obtain⟨h8,h4⟩:=aq h3
   simp only[Option.some.injEq,EV.new.injEq]at h4
   obtain⟨rfl,rfl⟩:=h4
   have hu8:d8= .int .u8:=by
    cases d8<;>simp[VU]at h8
    rename_i k;cases k<;>simp at h8⊢
   subst hu8
   have hl:b.data.toList.length=b.size:=Array.length_toList
   have hcap:=grownCap_ge w b.size 0 e
   generalize hcp:grownCap w b.size 0 e=cap at hcap
   have harr:(b.data.map (fun x=>Value.int .u8 x.toNat)++Array.replicate (cap -b.size) (Value.int .u8 0)).size=cap:=by
    simp only[Array.size_append,Array.size_map,Array.size_replicate]
    have:b.data.size=b.size:=rfl
    omega
   generalize hA:b.data.map (fun x=>Value.int .u8 x.toNat)++Array.replicate (cap -b.size) (Value.int .u8 0)=arr at harr
   let w1:=w.drew.alloc (.cells arr e)
   have hw1:w1.heap[w.heap.size]? =some (.cells arr e (0,0)):=heap_alloc_new w.drew _
   let w2:=w1.freeze ⟨w.heap.size,cap,none⟩ 1
   have hw2:w2.heap=w1.heap.modify w.heap.size fun
     | .cells c elem (lo,hi)=> .cells c elem (if lo==hi then(cap,cap+1)else(min lo cap,max hi (cap+1)))
     |o=>o:=by
    show(w1.freeze ⟨w.heap.size,cap,none⟩ 1).heap=_
    unfold World.freeze
    rw[if_neg (by omega)]
    rfl
   refine⟨_,_, .slice (some ⟨w.heap.size,0,none⟩) b.size cap,w2, .cells arr e (cap,cap+1),cap,1,rfl,?_,⟨rfl,rfl,?_,?_,?_⟩,fun i hi hi0=>⟨?_,?_⟩⟩
   ·unfold convert
    simp only[Sem.run_bind,bE hC hds,bE hC hdd,Result.andThen_ok]
    have hq:(Question.appendCap b.size 0 e).forced=false:=rfl
    have:(Conv.stringToBytes e b).run C.P w= .ok (.slice (some ⟨w.heap.size,0,none⟩) b.size cap) w2:=by
     unfold Conv.stringToBytes
     have e1:(Question.appendCap b.size 0 e).cut (w.tape w.drawn (Question.appendCap b.size 0 e))=cap:=hcp
     simp only[Sem.run_bind,run_choose,hq,Bool.false_eq_true,if_false,Result.andThen_ok,e1,newRow,run_newObj,Sem.run_pure,hA]
     have hsh:w1.shape? w.heap.size=some (e,cap):=by
      unfold World.shape?;rw[hw1];simp[harr]
     have:(markStringish ⟨w.heap.size,0,none⟩).run C.P w1= .ok () w2:=by
      unfold markStringish
      simp only[Sem.run_bind,run_shape,Result.andThen_ok,hsh,run_freeze]
      rfl
     show((markStringish ⟨w.heap.size,0,none⟩).run C.P w1).andThen _=_
     rw[this];rfl
    simp only[bE hC hd8,Sem.run_bind,Result.andThen_ok]
    exact this
   ·rw[hw2];simp[w1]
   ·rw[hw2,Array.getElem?_modify,if_pos rfl,hw1];rfl
   ·intro j hj
    rw[hw2,Array.getElem?_modify,if_neg (by omega)]
    exact heap_alloc_old w.drew _ j hj
   ·refine⟨arr,e,(cap,cap+1),rfl,by simp[harr],by simp[oq,hl];exact hcap,rfl,?_,fun _=>⟨hsz,fun j hj=>by dsimp only;omega⟩⟩
    have:(arr.toList.drop 0).take (oq b.data.toList).length=oq b.data.toList:=by
     rw[<-hA]
     simp[oq]
    rw[this]
    exact VRels.plain (List.all_eq_true.2 fun x hx=>by obtain⟨y,_,rfl⟩:=List.mem_map.1 hx;rfl)
   ·have:=mh (μ:=μ) i ⟨w.heap.size,0,cap,1⟩ rfl hi0 b.data.toList.length b.data.toList.length cap (by omega) (by omega) (by simp)
    rw[hl]at this⊢
    exact this
  ·simp at h2
 ·rename_i p n c
  simp only at h2
  unfold uE at h2
  split at h2
  ·obtain⟨d8,hd8,h3⟩:=ab h2
   obtain⟨h8,h4⟩:=aq h3
   obtain⟨l,hl,h5⟩:=ab h4
   obtain⟨b,hb,h6⟩:=ab h5
   simp at h6
  ·simp at h2
end
def EarlySim (good:Code ->Prop) (w0:World) (P:Program) (μ:Mu) (w:World) (R:Operand ->Value) (o:Oper):EV ->Prop
 | .val v=> ∃V w',(execOp R o).run P w= .ok (.value V) w'/\ Quiet w w'/\ VRel μ v V
 | .new x mk=> ∃V w' O lim esz,(execOp R o).run P w= .ok (.value V) w'/\ Grew w w' O/\
   ∀i,μ i=none ->i≠0 ->ORel good w0.heap.size (μ.upd i ⟨w.heap.size,0,lim,esz⟩) ⟨w.heap.size,0,lim,esz⟩ x (some O)/\ VRel (μ.upd i ⟨w.heap.size,0,lim,esz⟩) (mk i) V
section
variable {C:Ctx} (hC:C.Ok0) {good:Code ->Prop} {w0:World} {μ:Mu} {h:Heap} {w:World}
theorem EarlySim.ofVal {P:Program} {R:Operand ->Value} {o:Oper} {s:Sem Value} {v V:Value} (he:execOp R o=(do pure (.value (<-s)))) (hr:s.run P w= .ok V w) (hv:VRel μ v V):
  EarlySim good w0 P μ w R o (.val v):=⟨V,w,by rw[he];simp[hr],Quiet.refl w,hv⟩
theorem EarlySim.ofNew {P:Program} {R:Operand ->Value} {o:Oper} {s:Sem Value} {ev:EV} (he:execOp R o=(do pure (.value (<-s))))
  (h: ∃x mk V w' O lim esz,ev= .new x mk/\ s.run P w= .ok V w'/\ Grew w w' O/\
   ∀i,μ i=none ->i≠0 ->ORel good w0.heap.size (μ.upd i ⟨w.heap.size,0,lim,esz⟩) ⟨w.heap.size,0,lim,esz⟩ x (some O)/\ VRel (μ.upd i ⟨w.heap.size,0,lim,esz⟩) (mk i) V):
  EarlySim good w0 P μ w R o ev:=by
 obtain⟨x,mk,V,w',O,lim,esz,rfl,h2,h3⟩:=h
 exact⟨V,w',O,lim,esz,by rw[he];simp[h2],h3⟩
include hC
theorem yf (H:HRel good w0 μ h w) {ρ R:Operand ->Value} {o:Oper} {ev:EV} (hr: ∀x∈o.op.operands.toList,VRel μ (ρ x) (R x)) (he:aJ C ρ h o.op=some ev):
  EarlySim good w0 C.P μ w R o ev:=by
 have hsz:=H.size
 obtain⟨dst,op,ty,pos,after,guard⟩:=o
 dsimp only at hr he
 cases op<;>simp only[aJ]at he<;>try (simp at he;done)
 case move x=>
  simp[aY]at he;subst he
  exact⟨R x,w,rfl,Quiet.refl w,hr x (by simp[Op.operands])⟩
 case assign x=>
  simp[aY]at he;subst he
  exact⟨R x,w,rfl,Quiet.refl w,hr x (by simp[Op.operands])⟩
 case pick c a b=>
  have hc:=hr c (by simp[Op.operands])
  have ha:=hr a (by simp[Op.operands])
  have hb:=hr b (by simp[Op.operands])
  unfold Ct at he
  split at he
  ·rename_i hcc
   rw[hcc]at hc
   simp[aY]at he;subst he
   exact⟨R a,w,by simp[execOp,hc.bool_inv,asBool],Quiet.refl w,ha⟩
  ·rename_i hcc
   rw[hcc]at hc
   simp[aY]at he;subst he
   exact⟨R b,w,by simp[execOp,hc.bool_inv,asBool],Quiet.refl w,hb⟩
  ·simp at he
 case alloc t=>exact EarlySim.ofNew rfl (NL hC hsz he)
 case box t x=>exact EarlySim.ofNew rfl (Wz hsz (hr x (by simp[Op.operands])) he)
 case build t ps=>
  obtain⟨v,hv,h1⟩:=ab he
  simp[aY]at h1;subst h1
  obtain⟨V,hV,hrv⟩:=NB (w:=w) (R:=R) hC (fun p hp=>hr p.2 (by simp[Op.operands];exact⟨p.1,by simpa using hp⟩)) hv
  exact EarlySim.ofVal rfl hV hrv
 case buildSlice t n ps=>
  exact EarlySim.ofNew rfl (Cn (R:=R) hC hsz (fun p hp=>hr p.2 (by simp[Op.operands];exact⟨p.1,by simpa using hp⟩)) he)
 case load t a=>
  obtain⟨v,hv,h1⟩:=ab he
  simp[aY]at h1;subst h1
  obtain⟨V,hV,hrv⟩:=QV hC H hv (hr a (by simp[Op.operands]))
  exact EarlySim.ofVal rfl hV hrv
 case nilCheck x=>
  have hx:=hr x (by simp[Op.operands])
  have e:=Es hx he
  subst e
  refine⟨R x,w,?_,Quiet.refl w,hx⟩
  unfold ir at he
  split at he
  ·rename_i a hxa
   rw[hxa]at hx
   obtain⟨A,hA,_⟩:=hx.ptr_inv
   simp[execOp,hA]
  ·rename_i fn first cap hxa
   rw[hxa]at hx
   obtain⟨g,Xs,Ys,hA,hfn,hxs,_⟩:=hx.func_inv
   rw[hxa]at he
   cases hfn with
   |func f=>simp[execOp,hA]
   |yield l e he'=>simp[execOp,hA]
   |method n=>
    simp only[K6]at he
    unfold sP at he
    split at he
    ·rename_i t y rest hfirst
     obtain⟨f,hf,_⟩:=ab he
     rw[hfirst]at hxs
     obtain⟨V,L',hL,hv,_⟩:=hxs.cons_inv
     obtain⟨U,rfl,hU⟩:=hv.iface_inv
     have h0:Xs[0]? =some (.iface t U):=by rw[<-Array.getElem?_toList,hL];rfl
     have hdep:0<Made.depth:=by decide
     obtain⟨k,hk⟩: ∃k,C.P.types.size+Made.depth=k+1:=⟨C.P.types.size+Made.depth -1,by omega⟩
     simp[execOp,hA,h0,hk,Et hC hf k]
    ·simp at he
  ·rename_i t y hxa
   rw[hxa]at hx
   obtain⟨U,hA,_⟩:=hx.iface_inv
   simp[execOp,hA]
  ·simp at he
 case binOp op t x y yt=>
  obtain⟨v,hv,h1⟩:=ab he
  simp[aY]at h1;subst h1
  obtain⟨p,q⟩:=WR (w:=w) hC hv (hr x (by simp[Op.operands])) (hr y (by simp[Op.operands]))
  exact EarlySim.ofVal rfl p (.plain _ q)
 case unOp op t x=>
  obtain⟨v,hv,h1⟩:=ab he
  simp[aY]at h1;subst h1
  obtain⟨p,q⟩:=XT (w:=w) hv (hr x (by simp[Op.operands]))
  exact EarlySim.ofVal rfl p (.plain _ q)
 case convert s d x=>
  have hx:=hr x (by simp[Op.operands])
  cases ev with
  |val v=>
   obtain⟨V,hV,hrv⟩:=H8 hC H hx he
   exact EarlySim.ofVal rfl hV hrv
  |new o mk=>exact EarlySim.ofNew rfl (Ef hC hsz hx he)
 case makeInterface t x=>
  obtain⟨d,hd,h1⟩:=ab he
  obtain⟨h2,h3⟩:=aq h1
  simp[aY]at h3;subst h3
  refine EarlySim.ofVal (V:= .iface t (R x)) rfl ?_ (.iface _ _ _ (hr x (by simp[Op.operands])))
  unfold Instr.makeInterface
  simp only[Sem.run_bind,bE hC hd,Result.andThen_ok]
  cases d<;>simp[eB]at h2<;>rfl
 case makeFunc fn first cap=>
  obtain⟨hf,h1⟩:=aq he
  simp[aY]at h1;subst h1
  refine⟨.func fn (first.map R) (cap.map R),w,rfl,Quiet.refl w,?_⟩
  have e1:first.map R=⟨first.toList.map R⟩:=by apply Array.ext';simp
  have e2:cap.map R=⟨cap.toList.map R⟩:=by apply Array.ext';simp
  rw[e1,e2]
  refine .func' ?_ (.map fun x hx=>hr x ?_) (.map fun x hx=>hr x ?_)
  ·cases fn<;>simp[Lw]at hf
   ·exact .func _
   ·exact .method _
  ·simp[Op.operands];exact .inl (by simpa using hx)
  ·simp[Op.operands];exact .inr (by simpa using hx)
 case makeMap t r=>exact EarlySim.ofNew rfl (Ha hsz he)
 case makeSlice t l c=>exact EarlySim.ofNew rfl (CK hC hsz (hr l (by simp[Op.operands])) (hr c (by simp[Op.operands])) he)
 case slice t x lo hi mx=>
  obtain⟨v,hv,h1⟩:=ab he
  simp[aY]at h1;subst h1
  obtain⟨V,hV,hrv⟩:=Mj (w:=w) hC (fun i e hi=>(H.dom i e hi).2) (hr x (by simp[Op.operands])) (.map fun y hy=>hr y (by subst hy;simp[Op.operands])) (.map fun y hy=>hr y (by subst hy;simp[Op.operands])) (.map fun y hy=>hr y (by subst hy;simp[Op.operands])) hv
  exact EarlySim.ofVal rfl hV hrv
 case fieldAddr t x i=>
  obtain⟨v,V,rfl,hV,hrv⟩:=CN (w:=w) hC he (hr x (by simp[Op.operands]))
  exact EarlySim.ofVal rfl hV hrv
 case field t x i=>
  obtain⟨v,V,rfl,hV,hrv⟩:=Nk (w:=w) hC he (hr x (by simp[Op.operands]))
  exact EarlySim.ofVal rfl hV hrv
 case indexAddr t x ix=>
  obtain⟨v,hv,h1⟩:=ab he
  simp[aY]at h1;subst h1
  obtain⟨V,hV,hrv⟩:=CL (w:=w) hC hv (hr x (by simp[Op.operands])) (hr ix (by simp[Op.operands]))
  exact EarlySim.ofVal rfl hV hrv
 case index t x ix=>
  obtain⟨v,hv,h1⟩:=ab he
  simp[aY]at h1;subst h1
  obtain⟨V,hV,hrv⟩:=MV (w:=w) hC hv (hr x (by simp[Op.operands])) (hr ix (by simp[Op.operands]))
  exact EarlySim.ofVal rfl hV hrv
 case lookup t m k ok=>
  obtain⟨v,hv,h1⟩:=ab he
  simp[aY]at h1;subst h1
  obtain⟨V,hV,hrv⟩:=Jp hC H (hr m (by simp[Op.operands])) (hr k (by simp[Op.operands])) hv
  exact EarlySim.ofVal rfl hV hrv
 case typeAssert x xt t ok=>
  obtain⟨v,hv,h1⟩:=ab he
  simp[aY]at h1;subst h1
  obtain⟨V,hV,hrv⟩:=Ki (w:=w) (xt:=xt) hC (hr x (by simp[Op.operands])) hv
  exact EarlySim.ofVal rfl hV hrv
 case extract x i=>
  obtain⟨v,V,rfl,hV,hrv⟩:=HW (w:=w) (P:=C.P) (hr x (by simp[Op.operands])) he
  exact EarlySim.ofVal rfl hV hrv
 case call c=>
  obtain⟨callee,args,ats⟩:=c
  cases callee<;>simp only at he<;>try (simp at he;done)
  rename_i b
  have hra:VRels μ (args.toList.map ρ) (args.toList.map R):= .map fun x hx=>hr x (by simp[Op.operands,Call.operands];simpa using hx)
  have hget:(args.map R).toList=args.toList.map R:=by simp
  cases b<;>simp only[tf]at he<;>try (simp at he;done)
  ·split at he
   ·rename_i t ts x xs ht hx
    obtain⟨v,hv,h1⟩:=ab he
    simp[aY]at h1;subst h1
    have hX:VRel μ (ρ x) (R x):=hr x (by simp[Op.operands,Call.operands];rw[<-Array.mem_toList_iff,hx];simp)
    have hx0:(args.map R)[0]? =some (R x):=by rw[<-Array.getElem?_toList,hget,hx];rfl
    have ht0:ats[0]? =some t:=by rw[<-Array.getElem?_toList,ht];rfl
    obtain⟨p,q⟩:=VO (ty:=ty) hC H ht0 hx0 hX hv
    exact⟨v,w,by simp[execOp,resolve,invoke,builtin,p],Quiet.refl w, .plain _ q⟩
   ·simp at he
  ·split at he
   ·rename_i x xs hx
    obtain⟨v,hv,h1⟩:=ab he
    simp[aY]at h1;subst h1
    rw[hx]at hra
    obtain⟨X,L',hL,hX,hrest⟩:=hra.cons_inv
    obtain⟨V,p,q⟩:=Bj (P:=C.P) (w:=w) max2 Builtin.max2 QP _ _ _ _ _ hrest hX hv
    have hmap:args.toList.map R=X::L':=by rw[hx];exact hL
    exact⟨V,w,by simp[execOp,resolve,invoke,builtin,Builtin.max_,hmap,p],Quiet.refl w,q⟩
   ·simp at he
  ·split at he
   ·rename_i x xs hx
    obtain⟨v,hv,h1⟩:=ab he
    simp[aY]at h1;subst h1
    rw[hx]at hra
    obtain⟨X,L',hL,hX,hrest⟩:=hra.cons_inv
    obtain⟨V,p,q⟩:=Bj (P:=C.P) (w:=w) min2 Builtin.min2 QN _ _ _ _ _ hrest hX hv
    have hmap:args.toList.map R=X::L':=by rw[hx];exact hL
    exact⟨V,w,by simp[execOp,resolve,invoke,builtin,Builtin.min_,hmap,p],Quiet.refl w,q⟩
   ·simp at he
end
end Go.Am

namespace Go.Am
open Go
def Fresh (n:Nat) (μ μ':Mu):Prop:= ∀i e,μ' i=some e ->μ i=some e \/n<=i
theorem Fresh.refl (n:Nat) (μ:Mu):Fresh n μ μ:=fun _ _ h=> .inl h
theorem Fresh.trans {n m:Nat} {a b c:Mu} (hnm:n<=m) (h:Fresh n a b) (h':Fresh m b c):Fresh n a c:=by
 intro i e hi
 rcases h' i e hi with h1|h1
 ·exact h i e h1
 ·exact .inr (by omega)
theorem Fresh.upd {n:Nat} (μ:Mu) {i:Nat} (e:Spot) (h:n<=i):Fresh n μ (μ.upd i e):=by
 intro j f hj
 by_cases hji:j=i
 ·subst hji;exact .inr h
 ·rw[Mu.upd_ne _ _ hji]at hj;exact .inl hj
theorem Kn {l:List Value} (h:bF l=true): ∀v∈l,jx v=true:=by
 induction l with
 |nil=>intro v hv;simp at hv
 |cons a l ih=>
  have h:(match jx a with|true=>bF l|false=>false)=true:=h
  cases ha:jx a with
  |false=>rw[ha]at h;simp at h
  |true=>
   rw[ha]at h
   intro v hv
   rcases List.mem_cons.1 hv with rfl|hv
   ·exact ha
   ·exact ih h v hv
theorem VRel.oneCell {μ:Mu} {v V:Value} (h:VRel μ v V) (ho:jx v=true):V.oneCell'=true:=by
 cases h with
 |plain v hp=>cases v<;>first|rfl|(simp[jx]at ho)
 |_=>first|rfl|(simp[jx]at ho)
theorem VRels.oneCell {μ:Mu} {l L:List Value} (h:VRels μ l L) (ho:bF l=true): ∀V∈L,V.oneCell'=true:=by
 intro V hV
 obtain⟨i,hi⟩:=List.mem_iff_getElem?.1 hV
 have hlt:i<L.length:=by
  rcases Nat.lt_or_ge i L.length with h'|h'
  ·exact h'
  ·rw[List.getElem?_eq_none h']at hi;simp at hi
 have hli:i<l.length:=by rw[h.1];exact hlt
 have hl:l[i]? =some l[i]:=List.getElem?_eq_getElem hli
 exact(h.2 i _ _ hl hi).oneCell (Kn ho _ (List.mem_of_getElem? hl))
theorem LZ {cells vs l:List Value} {off:Nat} (h:fm cells off vs=some l):off+vs.length<=cells.length/\ l=cells.take off++(vs++cells.drop (off+vs.length)):=by
 unfold fm at h
 split at h
 ·rename_i v
  split at h
  ·rename_i hb
   have:=Nat.le_of_ble_eq_true hb
   simp at h
   subst h
   rw[zB,List.set_eq_take_append_cons_drop]
   refine⟨by simpa using this,?_⟩
   rw[if_pos (by omega)]
   rfl
  ·simp at h
 ·split at h
  ·rename_i hb
   have:=Nat.le_of_ble_eq_true hb
   simp at h
   exact⟨this,h.symm⟩
  ·simp at h
theorem iv {P:Program} (g o:Nat) (t:TypeId) (fz:Nat×Nat): ∀(vs:List Value) (i:Nat) (cur:Array Value) (w:World),w.heap[g]? =some (.cells cur t fz) ->Bd cur fz ->
  o+i+vs.length<=cur.size ->(∀v∈vs,v.oneCell'=true) ->
  (storeCells ⟨g,o,none⟩ vs i).run P w= .ok () (w.setRow g (cur.toList.take (o+i)++vs++cur.toList.drop (o+i+vs.length)).toArray)
 |[],i,cur,w,hg,_,_,_=>by
  simp only[storeCells,List.append_nil,List.length_nil,Nat.add_zero,List.take_append_drop,Array.toArray_toList]
  rw[setRow_self w g cur t fz hg]
  rfl
 |v::rest,i,cur,w,hg,hz,hl,h1=>by
  have hi:o+i<cur.size:=by simp at hl;omega
  have hadd:(⟨g,o,none⟩:Addr).add i=⟨g,o+i,none⟩:=eG rfl i
  have hcell:w.cell? ⟨g,o+i,none⟩=some cur[o+i]:=by simp[World.cell?,hg,hi]
  have hfro:w.frozen? ⟨g,o+i,none⟩=false:=by
   have:=hz (o+i) hi
   unfold World.frozen?
   rw[hg]
   obtain⟨lo,hi'⟩:=fz
   simp only[Bool.and_eq_false_iff,decide_eq_false_iff_not]
   dsimp only at this
   omega
  have hst:(store ((⟨g,o,none⟩:Addr).add i) v).run P w= .ok () (w.setRow g (cur.setIfInBounds (o+i) v)):=by
   rw[hadd,run_store P w _ v _ (h1 v (by simp)),hcell]
   simp[hfro,setCell_eq_setRow w g (o+i) cur t fz v hg]
  have ih:=iv (P:=P) g o t fz rest (i+1) (cur.setIfInBounds (o+i) v) (w.setRow g (cur.setIfInBounds (o+i) v)) (setRow_heap w g cur _ t _ hg) (by unfold Bd at hz⊢;simpa using hz) (by simp at hl⊢;omega) (fun x hx=>h1 x (by simp[hx]))
  simp only[storeCells,Sem.run_bind,hst,Result.andThen_ok,ih,setRow_setRow]
  congr 3
  have e:=list_seg_step cur.toList (o+i) v rest (by simp at hl⊢;omega)
  simpa[Array.toList_setIfInBounds,Nat.add_assoc]using e
theorem Mp (A L:List Value) (b o k:Nat) (h:b+o+L.length<=A.length) (hk:o+L.length<=k):
  ((A.take (b+o)++L++A.drop (b+o+L.length)).drop b).take k=((A.drop b).take k).take o++(L++((A.drop b).take k).drop (o+L.length)):=by
 apply List.ext_getElem?
 intro i
 simp only[List.getElem?_take,List.getElem?_drop,List.getElem?_append,List.length_append,List.length_take,List.length_drop]
 have e1:min (b+o) A.length=b+o:=by omega
 have e2:min o (min k (A.length -b))=o:=by omega
 rw[e1,e2]
 by_cases h1:i<k
 ·by_cases h2:i<o
  ·simp[h1,h2,show b+i<b+o from by omega,show b+i<b+o+L.length from by omega]
  ·by_cases h3:i -o<L.length
   ·simp[h1,h2,h3,show b+i<b+o+L.length from by omega,show¬b+i<b+o from by omega,show b+i -(b+o)=i -o from by omega]
   ·simp[h1,h2,h3,show¬b+i<b+o+L.length from by omega,show o+L.length+(i -o -L.length)<k from by omega,show b+o+L.length+(b+i -(b+o+L.length))=b+(o+L.length+(i -o -L.length))from by omega]
 ·by_cases h3:i -o<L.length
  ·omega
  ·simp[h1,show¬i<o from by omega,h3,show¬o+L.length+(i -o -L.length)<k from by omega]
section
variable {C:Ctx} (hC:C.Ok0) {good:Code ->Prop} {w0:World} {μ:Mu} {h:Heap} {w:World}
theorem qW {o:AObj} {q:List Value×Nat} (h:fO o=some q):o= .row q.1 q.2 true:=by
 unfold fO at h
 split at h
 ·simp at h;subst h;rfl
 ·simp at h
theorem CZ {P:Program} (H:HRel good w0 μ h w) {r off:Nat} {e:Spot} {cells vs VS l:List Value} {esz:Nat} (he:μ r=some e) (hr:h.get r=some (.row cells esz true)) (hv:VRels μ vs VS) (ho:bF vs=true)
  (hw:fm cells off vs=some l):
  ∃w',(storeCells ⟨e.blk,e.base+off,none⟩ VS).run P w= .ok () w'/\ HRel good w0 μ (h.set r (.row l esz true)) w':=by
 obtain⟨X,el,fz,x1,x2,x3,x4,x5,x6⟩:=H.obj r e _ he hr
 obtain⟨hge,hnf⟩:=x6 rfl
 obtain⟨w1,w2⟩:=LZ hw
 have hlen:VS.length=vs.length:=hv.1.symm
 have hst:=iv (P:=P) e.blk (e.base+off) el fz VS 0 X w x1 hnf (by omega) (hv.oneCell ho)
 refine⟨_,hst,?_⟩
 refine H.turned he hr rfl rfl (Turned.setRow x1) ?_
 have hsz:(X.toList.take (e.base+off+0)++VS++X.toList.drop (e.base+off+0+VS.length)).length=X.size:=by
  simp;omega
 have hll:l.length=cells.length:=by rw[w2];simp;omega
 refine⟨_,el,fz,rfl,by simp only[List.size_toArray,hsz];exact x2,by omega,x4,?_,fun _=>⟨hge,?_⟩⟩
 ·rw[hll]
  have:=Mp X.toList VS e.base off cells.length (by simp;omega) (by omega)
  simp only[Nat.add_zero]
  rw[this,w2,hlen]
  exact(x5.take off).append (hv.append (x5.drop (off+vs.length)))
 ·intro i hi
  simp only[List.size_toArray,hsz]at hi
  exact hnf i hi
include hC
theorem Mb (H:HRel good w0 μ h w) {t:TypeId} {p v P' V:Value} {h':Heap} (hp:VRel μ p P') (hv:VRel μ v V) (hs:rO C t p v h=some h'):
  ∃w',(Instr.storeAt t P' V).run C.P w= .ok () w'/\ HRel good w0 μ h' w':=by
 obtain⟨a,ha,h1⟩:=ab hs
 obtain⟨⟨cells,esz⟩,hr,h2⟩:=ab h1
 obtain⟨n,hn,h3⟩:=ab h2
 obtain⟨h4,h5⟩:=aq h3
 obtain⟨h6,h7⟩:=aq h5
 obtain⟨l,hl,h8⟩:=ab h7
 simp at h8;subst h8
 obtain⟨o,ho,hor⟩:=ab hr
 obtain rfl:=qW hor
 obtain rfl:=lM ha
 obtain⟨A,rfl,sp,e,he,e1,e2⟩:=hp.ptr_inv
 have hA:A=⟨e.blk,e.base+a.off,none⟩:=by obtain⟨b,o,s⟩:=A;simp only at sp e1 e2;subst sp;subst e1;subst e2;rfl
 subst hA
 have hlen:=Nat.eq_of_beq_eq_true h4
 obtain⟨w',hw,hH⟩:=CZ (P:=C.P) H he ho hv.cells h6 hl
 refine⟨w',?_,hH⟩
 have hsz:V.cells.size=n:=by have:=hv.cells.1;rw[hlen]at this;simpa using this.symm
 simp[Instr.storeAt,Instr.sureAddr,storeVar,cE hC hn,hsz,hw]
end
end Go.Am
