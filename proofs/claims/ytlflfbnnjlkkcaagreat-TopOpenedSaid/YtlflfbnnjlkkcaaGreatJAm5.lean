/- Parts Am5, Am6, Am7, Am8 of the abstract machine over this program, joined: what each part says stands at its head. -/
import Derived.Test.YtlflfbnnjlkkcaaGreatJAm2
set_option linter.unusedSimpArgs false
set_option linter.unusedVariables false
set_option linter.defProp false
namespace Go.Am
open Go
theorem Kd (s:ByteArray): ∀(n i:Nat) (r:List UInt8),s.size -i=n ->ByteArray.toList.loop s i r=r.reverse++s.data.toList.drop i:=by
 intro n
 induction n with
 |zero=>
  intro i r h
  rw[ByteArray.toList.loop]
  have h1: ¬i<s.size:=by omega
  rw[if_neg h1]
  have:s.data.toList.drop i=[]:=by
   apply List.drop_eq_nil_of_le
   have:s.data.toList.length=s.size:=Array.length_toList
   omega
  rw[this,List.append_nil]
 |succ n ih=>
  intro i r h
  rw[ByteArray.toList.loop]
  have h1:i<s.size:=by omega
  rw[if_pos h1,ih (i+1) _ (by omega),List.reverse_cons,List.append_assoc]
  congr 1
  have hl:i<s.data.toList.length:=by rw[Array.length_toList];exact h1
  rw[List.drop_eq_getElem_cons hl]
  have:s.get! i=s.data.toList[i]:=by
   have hi:i<s.data.size:=h1
   show s.data[i]! =_
   rw[getElem!_pos s.data i hi,Array.getElem_toList]
  rw[this];rfl
theorem Fb (s:ByteArray):s.toList=s.data.toList:=by
 unfold ByteArray.toList;rw[Kd s _ 0 [] rfl];simp
theorem NA (a:List UInt8): ∀b,yi a b=(a==b):=by
 induction a with
 |nil=>intro b;cases b<;>rfl
 |cons x a ih=>
  intro b
  cases b with
  |nil=>rfl
  |cons y b=>
   have e:yi (x::a) (y::b)=(match Nat.beq x.toNat y.toNat with|true=>yi a b|false=>false):=rfl
   rw[e]
   by_cases h:x=y
   ·subst h
    have:Nat.beq x.toNat x.toNat=true:=Nat.beq_refl _
    rw[this];simp[ih]
   ·have:Nat.beq x.toNat y.toNat=false:=by
     cases hb:Nat.beq x.toNat y.toNat with
     |false=>rfl
     |true=>exact absurd (UInt8.toNat_inj.1 (Nat.eq_of_beq_eq_true hb)) h
    rw[this];simp[h]
theorem sH (a b:ByteArray):p9 a b=(a==b):=by
 unfold p9
 have e:(a==b)=(a.data==b.data):=rfl
 rw[NA,e,Bool.eq_iff_iff,beq_iff_eq,beq_iff_eq]
 exact⟨fun h=>Array.ext' h,fun h=>by rw[h]⟩
theorem append_eq (a b:ByteArray):(⟨⟨a.data.toList++b.data.toList⟩⟩:ByteArray)=a++b:=by
 apply ByteArray.ext
 rw[ByteArray.data_append]
 apply Array.ext'
 simp
theorem yI {α:Type} {P:Program} {s:Sem α} {a:α} (h:vj P s=some a) (w:World):s.run P w= .ok a w:=by
 induction s<;>simp only[vj]at h<;>try (simp at h;done)
 ·simp at h;subst h;rfl
 ·rename_i k ih;simp only[Sem.run];exact ih P h
theorem mo {P:Program} {s:Sem Value} {v:Value} (h:mt P s=some v) (w:World):s.run P w= .ok v w/\ aU v=true:=by
 obtain⟨u,hu,h1⟩:=ab h
 cases u<;>simp[intV]at h1
 subst h1
 exact⟨yI hu w,rfl⟩
theorem GV {P:Program} {s:Sem Value} {v:Value} (h:KZ P s=some v) (w:World):s.run P w= .ok v w/\ aU v=true:=by
 obtain⟨u,hu,h1⟩:=ab h
 cases u<;>simp[strV]at h1
 subst h1
 exact⟨yI hu w,rfl⟩
theorem E9 {x y:Value} {b:Bool} (h:dH x y=some b):basic x=true/\ basic y=true:=by
 cases x<;>cases y<;>first|(simp[dH]at h;done)|exact⟨rfl,rfl⟩
theorem VRel.basic {μ:Mu} {x X:Value} (h:VRel μ x X) (hb:Go.Am.basic x=true):X=x:=by
 cases x<;>first|(simp[Go.Am.basic]at hb;done)|exact h.bool_inv|exact h.int_inv|exact h.string_inv
theorem VRels.basic {μ:Mu} {l:List Value}: ∀{L:List Value},VRels μ l L ->l.all Go.Am.basic=true ->L=l:=by
 induction l with
 |nil=>intro L h _;exact h.nil_inv
 |cons v l ih=>
  intro L h hb
  obtain⟨V,L',rfl,hv,hs⟩:=h.cons_inv
  simp only[List.all_cons,Bool.and_eq_true]at hb
  rw[hv.basic hb.1,ih hs hb.2]
theorem vT (x y:Value) (xs ys:List Value):bP (x::xs) (y::ys)=(match dH x y with|some true=>bP xs ys|some false=>some false|none=>none):=rfl
theorem Ie {μ:Mu} {l:List Value}: ∀{m L M:List Value} {b:Bool},bP l m=some b ->VRels μ l L ->VRels μ m M ->bP L M=some b:=by
 induction l with
 |nil=>
  intro m L M b h hl hm
  obtain rfl:=hl.nil_inv
  cases m with
  |nil=>obtain rfl:=hm.nil_inv;exact h
  |cons y m=>simp[bP,cU]at h
 |cons x l ih=>
  intro m L M b h hl hm
  obtain⟨X,L',rfl,hx,hl'⟩:=hl.cons_inv
  cases m with
  |nil=>simp[bP,nU]at h
  |cons y m=>
   obtain⟨Y,M',rfl,hy,hm'⟩:=hm.cons_inv
   rw[vT]at h⊢
   cases hc:dH x y with
   |none=>rw[hc]at h;simp at h
   |some c=>
    obtain⟨b1,b2⟩:=E9 hc
    rw[hx.basic b1,hy.basic b2,hc]
    rw[hc]at h
    cases c with
    |false=>exact h
    |true=>exact ih h hl' hm'
def K5:Value ->Value ->Bool
 | .nilIface, .nilIface=>true
 |_,_=>false
theorem CO {P:Program} {op:BinOp} {t:TypeId} {x y:Operand} (w:World) (h:(dF x||dF y)=true):
  (eqGuard op t x y .nilIface .nilIface).run P w= .ok () w:=by
 unfold eqGuard
 cases x<;>cases y<;>first
  |(simp[dF]at h;done)
  |(cases op<;>simp)
theorem HX {P:Program} {op:BinOp} {t:TypeId} {x y:Operand} {xs ys:Array Value} (w:World) (h:P.eqGuardType P.depth t=false):
  (eqGuard op t x y (.agg xs) (.agg ys)).run P w= .ok () w:=by
 unfold eqGuard
 cases op<;>simp[h]
theorem bQ {P:Program} {op:BinOp} {t:TypeId} {x y:Operand} {a b:Value} (w:World) (h1:K5 a b=false) (h2:zM a b=false \/(D0 a).isNone=true):
  (eqGuard op t x y a b).run P w= .ok () w:=by
 unfold eqGuard
 cases a<;>cases b<;>first
  |(simp[K5]at h1;done)
  |(simp[zM,D0]at h2;done)
  |(cases op<;>rfl)
section
variable {C:Ctx} (hC:C.Ok0) {μ:Mu} {w:World}
include hC
theorem jE {t:TypeId} {p:TypeDesc ->Bool} {b r:Bool} (h:Fz C t p b=some r): ∃d,C.P.underlying t=some d/\ p d=true/\ r=b:=by
 obtain⟨d,hd,h1⟩:=ab h
 obtain⟨h2,h3⟩:=aq h1
 simp at h3
 exact⟨d,qG hC hd,h2,h3.symm⟩
theorem Y2 {t:TypeId} {x y:Operand} {a b A B:Value} {r:Bool} (op:BinOp) (h:aEq C t (dF x||dF y) a b=some r) (ha:VRel μ a A) (hb:VRel μ b B):
  (eqGuard op t x y A B).run C.P w= .ok () w/\ (Op.equal t A B).run C.P w= .ok r w:=by
 have hmax:(∀d,(Op.equalIn (d+1) t A B).run C.P w= .ok r w) ->(Op.equal t A B).run C.P w= .ok r w:=fun h=>h 9999
 unfold aEq at h
 split at h
 ·obtain rfl:=ha.bool_inv;obtain rfl:=hb.bool_inv
  obtain⟨d,hd,hp,rfl⟩:=jE hC h
  cases d<;>simp[Lj]at hp
  exact⟨bQ w rfl (.inr rfl),hmax fun d=>by simp[Op.equalIn,run_underlying hd]⟩
 ·obtain rfl:=ha.nilslice_inv
  obtain⟨d,hd,hp,rfl⟩:=jE hC h
  cases d<;>simp[og]at hp
  rename_i q _ _ _
  cases q with
  |none=>obtain rfl:=hb.nilslice_inv;exact⟨bQ w rfl (.inr rfl),hmax fun d=>by simp[Op.equalIn,run_underlying hd]⟩
  |some q=>obtain⟨A',C',rfl,_⟩:=hb.slice_inv;exact⟨bQ w rfl (.inr rfl),hmax fun d=>by simp[Op.equalIn,run_underlying hd]⟩
 ·obtain⟨A',C',rfl,_⟩:=ha.slice_inv;obtain rfl:=hb.nilslice_inv
  obtain⟨d,hd,hp,rfl⟩:=jE hC h
  cases d<;>simp[og]at hp
  exact⟨bQ w rfl (.inr rfl),hmax fun d=>by simp[Op.equalIn,run_underlying hd]⟩
 ·obtain rfl:=ha.nilptr_inv
  obtain⟨d,hd,hp,rfl⟩:=jE hC h
  cases d<;>simp[pA]at hp
  rename_i q _
  cases q with
  |none=>obtain rfl:=hb.nilptr_inv;exact⟨bQ w rfl (.inr rfl),hmax fun d=>by simp[Op.equalIn,run_underlying hd]⟩
  |some q=>obtain⟨A',rfl,_⟩:=hb.ptr_inv;exact⟨bQ w rfl (.inr rfl),hmax fun d=>by simp[Op.equalIn,run_underlying hd]⟩
 ·obtain⟨A',rfl,_⟩:=ha.ptr_inv;obtain rfl:=hb.nilptr_inv
  obtain⟨d,hd,hp,rfl⟩:=jE hC h
  cases d<;>simp[pA]at hp
  exact⟨bQ w rfl (.inr rfl),hmax fun d=>by simp[Op.equalIn,run_underlying hd]⟩
 ·obtain rfl:=ha.nilmap_inv
  obtain⟨d,hd,hp,rfl⟩:=jE hC h
  cases d<;>simp[EB]at hp
  rename_i q _ _
  cases q with
  |none=>obtain rfl:=hb.nilmap_inv;exact⟨bQ w rfl (.inr rfl),hmax fun d=>by simp[Op.equalIn,run_underlying hd]⟩
  |some q=>obtain⟨e,rfl,_⟩:=hb.map_inv;exact⟨bQ w rfl (.inr rfl),hmax fun d=>by simp[Op.equalIn,run_underlying hd]⟩
 ·obtain⟨e,rfl,_⟩:=ha.map_inv;obtain rfl:=hb.nilmap_inv
  obtain⟨d,hd,hp,rfl⟩:=jE hC h
  cases d<;>simp[EB]at hp
  exact⟨bQ w rfl (.inr rfl),hmax fun d=>by simp[Op.equalIn,run_underlying hd]⟩
 ·obtain rfl:=ha.nilFunc_inv;obtain rfl:=hb.nilFunc_inv
  obtain⟨d,hd,hp,rfl⟩:=jE hC h
  cases d<;>simp[sR]at hp
  exact⟨bQ w rfl (.inr rfl),hmax fun d=>by simp[Op.equalIn,run_underlying hd]⟩
 ·obtain rfl:=ha.nilFunc_inv;obtain⟨_,_,_,rfl,_⟩:=hb.func_inv
  obtain⟨d,hd,hp,rfl⟩:=jE hC h
  cases d<;>simp[sR]at hp
  exact⟨bQ w rfl (.inr rfl),hmax fun d=>by simp[Op.equalIn,run_underlying hd]⟩
 ·obtain⟨_,_,_,rfl,_⟩:=ha.func_inv;obtain rfl:=hb.nilFunc_inv
  obtain⟨d,hd,hp,rfl⟩:=jE hC h
  cases d<;>simp[sR]at hp
  exact⟨bQ w rfl (.inr rfl),hmax fun d=>by simp[Op.equalIn,run_underlying hd]⟩
 ·obtain rfl:=ha.nilIface_inv;obtain rfl:=hb.nilIface_inv
  obtain⟨hc,h⟩:=aq h
  obtain⟨d,hd,hp,rfl⟩:=jE hC h
  cases d<;>simp[eB]at hp
  exact⟨CO w hc,hmax fun d=>by simp[Op.equalIn,run_underlying hd]⟩
 ·obtain rfl:=ha.nilIface_inv;obtain⟨_,rfl,_⟩:=hb.iface_inv
  obtain⟨d,hd,hp,rfl⟩:=jE hC h
  cases d<;>simp[eB]at hp
  exact⟨bQ w rfl (.inr rfl),hmax fun d=>by simp[Op.equalIn,run_underlying hd]⟩
 ·obtain⟨_,rfl,_⟩:=ha.iface_inv;obtain rfl:=hb.nilIface_inv
  obtain⟨d,hd,hp,rfl⟩:=jE hC h
  cases d<;>simp[eB]at hp
  exact⟨bQ w rfl (.inr rfl),hmax fun d=>by simp[Op.equalIn,run_underlying hd]⟩
 ·obtain⟨hk,h⟩:=aq h
  obtain⟨Xs,rfl,hx⟩:=ha.agg_inv
  obtain⟨Ys,rfl,hy⟩:=hb.agg_inv
  obtain⟨hk,hk2⟩:=(Bool.and_eq_true _ _).mp hk
  obtain⟨hk2,hk3⟩:=(Bool.and_eq_true _ _).mp hk2
  obtain⟨z,hz,hlike⟩:=zC hk2
  have hs:=hC.eq t z hk hz
  have hX:=hx.basic (tI hlike)
  have hY:=hy.basic (tI hk3)
  exact⟨HX w hs.guard,hs.eq Xs Ys r (by rw[hX];exact hlike) (by rw[hX,hY];exact hk3) (Ie h hx hy) w⟩
 ·simp at h
end
def XE:BinOp ->Bool ->Bool
 | .neq,r=> !r
 |_,r=>r
section
variable {C:Ctx} (hC:C.Ok0) {μ:Mu} {w:World}
theorem U6 {P:Program} {op:BinOp} {a b:ByteArray} {v:Value} (h:vZ op a b=some v):(Op.stringOp op a b).run P w= .ok v w/\ aU v=true:=by
 have e1:(a.data==b.data)=p9 a b:=(sH a b).symm
 cases op<;>simp only[vZ]at h<;>try (simp at h;done)
 ·obtain⟨h1,h2⟩:=aq h
  simp at h2;subst h2
  have h3:=Nat.le_of_ble_eq_true h1
  rw[Array.length_toList,Array.length_toList]at h3
  have h4: ¬(((a.size+b.size:Nat):Int)>IntKind.i64.max):=by
   have:IntKind.i64.max=9223372036854775807:=by decide
   rw[this]
   show¬(((a.data.size+b.data.size:Nat):Int)>_)
   omega
  refine⟨?_,rfl⟩
  simp only[Op.stringOp]
  rw[if_neg h4]
  simp[Bi,append_eq]
 all_goals(simp at h;subst h;refine⟨?_,rfl⟩;simp[Op.stringOp,e1,Fb])
include hC
omit hC in
theorem VV {op : BinOp} {k k' : IntKind} {a b : Int} {v : Value} (h : eH C op k a k' b = some v) (t : TypeId) :
    (binOp op t (.int k a) (.int k' b)).run C.P w = .ok v w ∧ aU v = true := by
  have key : ∀ (op : BinOp), op ≠ .shl → op ≠ .shr → k = k' → gG C.P op k a b = some v → (binOp op t (.int k a) (.int k' b)).run C.P w = .ok v w ∧ aU v = true := by
    intro op h1 h2 hk h
    subst hk
    cases op <;> simp only [gG] at h <;> try (first | (exact absurd rfl h1) | (exact absurd rfl h2))
    all_goals first
      | (simp at h; subst h; exact ⟨by simp [binOp, Op.intArith, Op.intCmp, nP], rfl⟩)
      | (unfold Zv at h; split at h; · simp at h
         · rename_i hb; simp at h; subst h; exact ⟨by simp [binOp, Op.intDiv, hb, nP], rfl⟩)
      | (unfold Zu at h; split at h; · simp at h
         · rename_i hb; simp at h; subst h; exact ⟨by simp [binOp, Op.intDiv, hb], rfl⟩)
      | (obtain ⟨p, q⟩ := mo h w; exact ⟨by simpa [binOp] using p, q⟩)
  unfold eH at h
  split at h
  · obtain ⟨p, q⟩ := mo h w; exact ⟨by simpa [binOp] using p, q⟩
  · obtain ⟨p, q⟩ := mo h w; exact ⟨by simpa [binOp] using p, q⟩
  · rename_i h1 h2
    split at h
    · rename_i hk; exact key op (fun e => h1 e) (fun e => h2 e) hk h
    · simp at h
omit hC in
theorem WS {op:BinOp} {t:TypeId} {A B:Value} (hop:op= .eql \/op= .neq) (hi: ¬ ∃k a k' b,A= .int k a/\ B= .int k' b) (hs: ¬ ∃a b,A= .string a/\ B= .string b)
  (hf: ∀k x,A≠ .float k x) (hc: ∀k x y,A≠ .complex k x y) {r:Bool} (h:(Op.equal t A B).run C.P w= .ok r w):
  (binOp op t A B).run C.P w= .ok (.bool (XE op r)) w:=by
 rcases hop with rfl|rfl
 all_goals
  cases A<;>cases B<;>first
   |exact absurd rfl (hf _ _)
   |exact absurd rfl (hc _ _ _)
   |exact absurd ⟨_,_,_,_,rfl,rfl⟩ hi
   |exact absurd ⟨_,_,rfl,rfl⟩ hs
   |(simp only[binOp,Sem.run_bind,h];rfl)
theorem WR {op:BinOp} {t:TypeId} {x y:Operand} {a b A B v:Value} (h:eI C op t (dF x||dF y) a b=some v) (ha:VRel μ a A) (hb:VRel μ b B):
  (do eqGuard op t x y A B;binOp op t A B:Sem Value).run C.P w= .ok v w/\ aU v=true:=by
 unfold eI at h
 split at h
 ·obtain rfl:=ha.int_inv;obtain rfl:=hb.int_inv
  obtain⟨p,q⟩:=VV (w:=w) h t
  exact⟨by simp only[Sem.run_bind,bQ w (x:=x) (y:=y) (op:=op) (t:=t) (a:= .int _ _) (b:= .int _ _) rfl (.inr rfl),Result.andThen_ok,p],q⟩
 ·obtain rfl:=ha.string_inv;obtain rfl:=hb.string_inv
  obtain⟨p,q⟩:=U6 (w:=w) (P:=C.P) h
  refine⟨?_,q⟩
  simp only[Sem.run_bind,bQ w (x:=x) (y:=y) (op:=op) (t:=t) (a:= .string _) (b:= .string _) rfl (.inr rfl),Result.andThen_ok]
  cases op<;>exact p
 ·rename_i n1 n2
  have main: ∀r,aEq C t (dF x||dF y) a b=some r ->(op= .eql \/op= .neq) ->
    (do eqGuard op t x y A B;binOp op t A B:Sem Value).run C.P w= .ok (.bool (XE op r)) w:=by
   intro r hr hop
   obtain⟨g,q⟩:=Y2 (w:=w) hC op hr ha hb
   simp only[Sem.run_bind,g,Result.andThen_ok]
   refine WS hop ?_ ?_ ?_ ?_ q
   ·rintro⟨k,i,k',j,rfl,rfl⟩
    cases ha with
    |plain _ _=>cases hb with|plain _ _=>exact n1 _ _ _ _ rfl rfl
   ·rintro⟨s,u,rfl,rfl⟩
    cases ha with
    |plain _ _=>cases hb with|plain _ _=>exact n2 _ _ rfl rfl
   ·rintro k i rfl
    cases ha with|plain _ _=>simp[aEq]at hr
   ·rintro k i j rfl
    cases ha with|plain _ hp=>simp[aU]at hp
  unfold It at h
  split at h
  ·obtain⟨r,hr,h1⟩:=ab h
   simp[LH]at h1;subst h1
   exact⟨main r hr (.inl rfl),rfl⟩
  ·obtain⟨r,hr,h1⟩:=ab h
   simp[notV]at h1;subst h1
   exact⟨main r hr (.inr rfl),rfl⟩
  ·simp at h
omit hC in
theorem XT {P:Program} {op:UnOp} {a A v:Value} (h:Zt P op a=some v) (ha:VRel μ a A):(Op.unary op A).run P w= .ok v w/\ aU v=true:=by
 unfold Zt at h
 split at h
 ·obtain rfl:=ha.bool_inv;simp at h;subst h;exact⟨rfl,rfl⟩
 ·obtain rfl:=ha.int_inv;simp at h;subst h;exact⟨by simp[Op.unary,Op.intArith,nP],rfl⟩
 ·obtain rfl:=ha.int_inv;exact mo h w
 ·simp at h
end
end Go.Am

namespace Go.Am
open Go
theorem Sl (off:Nat): ∀(vs:List Value) (k:Nat) (cells:Array Value),off+k+vs.length<=cells.size ->
  ((vs.zipIdx k).foldl (fun (cs:Array Value) (x:Value×Nat)=>cs.setIfInBounds (off+x.2) x.1) cells).toList=cells.toList.take (off+k)++vs++cells.toList.drop (off+k+vs.length):=by
 intro vs
 induction vs with
 |nil=>intro k cells h;simp
 |cons v vs ih=>
  intro k cells h
  simp only[List.zipIdx_cons,List.foldl_cons]
  rw[ih (k+1) _ (by simp at h⊢;omega)]
  have:=list_seg_step cells.toList (off+k) v vs (by simp at h⊢;omega)
  simpa[Array.toList_setIfInBounds,Nat.add_assoc]using this
theorem HS (vs cells:Array Value) (off:Nat) (h:off+vs.size<=cells.size):
  (vs.zipIdx.foldl (fun cs (c,j)=>cs.setIfInBounds (off+j) c) cells).toList=cells.toList.take off++(vs.toList++cells.toList.drop (off+vs.size)):=by
 rw[<-Array.foldl_toList,Array.toList_zipIdx]
 have:=Sl off vs.toList 0 cells (by simpa using h)
 simpa[List.append_assoc]using this
theorem B5 {μ:Mu} {place:Nat ->Option (Nat×Nat)} {ρ R:Operand ->Value}: ∀(ps:List (Nat×Operand)) (cells l:List Value) (CELLS:Array Value),
  (∀p∈ps,VRel μ (ρ p.2) (R p.2)) ->VRels μ cells CELLS.toList ->bu place (ps.map fun p=>(p.1,ρ p.2)) cells=some l ->
  ∃L,Instr.fill place CELLS (ps.map fun p=>(p.1,R p.2))=some L/\ VRels μ l L.toList:=by
 intro ps
 induction ps with
 |nil=>
  intro cells l CELLS _ hc h
  have:cells=l:=by simpa[bu,cU]using h
  subst this
  exact⟨CELLS,rfl,hc⟩
 |cons p ps ih=>
  intro cells l CELLS hp hc h
  have h:ae (yP place cells (p.1,ρ p.2)) (bu place (ps.map fun p=>(p.1,ρ p.2)))=some l:=h
  obtain⟨cells',h1,h2⟩:=ab h
  obtain⟨⟨off,n⟩,hq,h3⟩:=ab h1
  obtain⟨h4,h5⟩:=aq h3
  obtain⟨h6,h7⟩:=aq h5
  simp at h7
  have hv:=(hp p (List.mem_cons_self ..)).cells
  have e4:(cellsOf (ρ p.2)).length=n:=Nat.eq_of_beq_eq_true h4
  have e6:off+n<=cells.length:=Nat.le_of_ble_eq_true h6
  have eS:(R p.2).cells.size=n:=by have:=hv.1;rw[e4]at this;simpa using this.symm
  have eC:CELLS.size=cells.length:=by have:=hc.1;simpa using this.symm
  have hz:=HS (R p.2).cells CELLS off (by rw[eS,eC];exact e6)
  obtain⟨L,hL,hr⟩:=ih cells' l _ (fun q hq=>hp q (List.mem_cons_of_mem _ hq)) (by
   rw[hz,<-h7,eS]
   exact(hc.take off).append (hv.append (hc.drop (off+n)))) h2
  refine⟨L,?_,hr⟩
  have hq':place p.1=some (off,n):=hq
  simp only[List.map_cons,Instr.fill,hq']
  rw[if_neg (by simp only[eS,eC,Bool.or_eq_true,decide_eq_true_eq];omega)]
  exact hL
theorem HV {place : Nat → Option (Nat × Nat)} : ∀ (ps : List (Nat × Value)) (cells l : List Value), bu place ps cells = some l → l.length = cells.length := by
  intro ps
  induction ps with
  | nil => intro cells l h; have : cells = l := by simpa [bu, cU] using h
           rw [this]
  | cons p ps ih =>
    intro cells l h
    have h : ae (yP place cells p) (bu place ps) = some l := h
    obtain ⟨cells', h1, h2⟩ := ab h
    obtain ⟨⟨off, n⟩, hq, h3⟩ := ab h1
    obtain ⟨h4, h5⟩ := aq h3
    obtain ⟨h6, h7⟩ := aq h5
    simp at h7
    have e4 : (cellsOf p.2).length = n := Nat.eq_of_beq_eq_true h4
    have e6 : off + n ≤ cells.length := Nat.le_of_ble_eq_true h6
    rw [ih _ _ h2, ← h7]
    simp [e4]; omega
theorem QT {α β:Type} {P:Program} {f:α ->Sem β} {g:α ->β} (w:World) (xs:Array α) (h: ∀a∈xs.toList,(f a).run P w= .ok (g a) w):(xs.mapM f).run P w= .ok (xs.map g) w:=by
 rw[Array.mapM_eq_mapM_toList]
 have key: ∀(l:List α),(∀a∈l,(f a).run P w= .ok (g a) w) ->(l.mapM f).run P w= .ok (l.map g) w:=by
  intro l
  induction l with
  |nil=>intro _;rfl
  |cons a l ih=>
   intro h
   rw[List.mapM_cons]
   simp[h a (List.mem_cons_self ..),ih (fun b hb=>h b (List.mem_cons_of_mem _ hb))]
 simp only[Sem.run_map,key xs.toList h,Result.andThen_ok]
 congr 1
 apply Array.ext';simp
theorem Di (z:List Value): ∀n,((List.range (n*z.length)).map fun i=>z[i % z.length]!)=fk z n:=by
 intro n
 induction n with
 |zero=>simp[fk,xa]
 |succ n ih=>
  have e:fk z (n+1)=z++fk z n:=rfl
  rw[e,<-ih,Nat.succ_mul,Nat.add_comm,List.range_add,List.map_append,List.map_map]
  congr 1
  ·apply List.ext_getElem?
   intro i
   rw[List.getElem?_map]
   by_cases h:i<z.length
   ·rw[List.getElem?_range h]
    simp[Nat.mod_eq_of_lt h,h]
   ·simp[h]
  ·apply List.map_congr_left
   intro i _
   simp
section
variable {C:Ctx} (hC:C.Ok0) {good:Code ->Prop} {w0:World} {μ:Mu} {h:Heap} {w:World}
include hC
theorem oI {t:TypeId} {z:Value} (hz:C.zero t=some z):VRels μ (cellsOf z) z.cells.toList:=(VRel.ofPlain (tU hC hz)).cells
theorem NB {t:TypeId} {ps:Array (Nat×Operand)} {ρ R:Operand ->Value} {v:Value} (hp: ∀p∈ps.toList,VRel μ (ρ p.2) (R p.2)) (hv:cJ C t (kL ρ ps)=some v):
  ∃V,(Instr.build t (ps.map fun (i,x)=>(i,R x))).run C.P w= .ok V w/\ VRel μ v V:=by
 obtain⟨z,hz,h1⟩:=ab hv
 obtain⟨d,hd,h2⟩:=ab h1
 obtain⟨l,hl,h3⟩:=ab h2
 simp at h3;subst h3
 have hzc:=oI (μ:=μ) hC hz
 have hmap:((ps.map fun (i,x)=>(i,R x)):Array (Nat×Value)).toList=ps.toList.map fun p=>(p.1,R p.2):=by simp
 cases d<;>simp only[Fe]at hl<;>try (simp at hl;done)
 ·rename_i n e
  obtain⟨s,hs,hl⟩:=ab hl
  obtain⟨L,hL,hr⟩:=B5 (R:=R) ps.toList _ l z.cells hp hzc hl
  refine⟨.agg L,?_, .agg' hr⟩
  unfold Instr.build
  simp only[Sem.run_bind,gI hC hz,Result.andThen_ok,bE hC hd,cE hC hs,hmap]
  have:(fun i=>some (i*s,s))=eX s:=rfl
  rw[this,hL]
  rfl
 ·rename_i fs
  obtain⟨L,hL,hr⟩:=B5 (R:=R) ps.toList _ l z.cells hp hzc hl
  refine⟨.agg L,?_, .agg' hr⟩
  have hS:=hC.S t fs hd
  have hm:=QT (P:=C.P) (f:=fun f:Field=>(do pure (f.offset,<-sizeOf f.type):Sem (Nat×Nat))) (g:=fun f=>(f.offset,(C.size f.type).getD 0)) w fs (by
   intro f hf
   obtain⟨n,hn⟩:=hS f hf
   simp[cE hC hn,hn])
  unfold Instr.build
  simp only[Sem.run_bind,gI hC hz,Result.andThen_ok,bE hC hd,hm,hmap]
  have hpl:(fun i=>(fs.map fun f=>(f.offset,(C.size f.type).getD 0))[i]?)=ak C t:=by
   funext i
   rw[Array.getElem?_map]
   unfold ak Ctx.fieldAt
   rw[hd]
   simp only[au,EP,Array.getElem?_toList]
   cases hi:fs[i]? with
   |none=>rfl
   |some f=>
    obtain⟨n,hn⟩:=hS f (by rw[<-Array.getElem?_toList]at hi;exact List.mem_of_getElem? hi)
    simp[hn]
  rw[hpl,hL]
  rfl
omit hC in
theorem uh {i:Nat} {l L:List Value} (hr:VRels μ l L) (hi:μ i=none) (el:TypeId) (s:Nat) (hsz:w0.heap.size<=w.heap.size):
  ORel good w0.heap.size (μ.upd i ⟨w.heap.size,0,L.length,s⟩) ⟨w.heap.size,0,L.length,s⟩ (.row l s true) (some (.cells ⟨L⟩ el)):=by
 refine⟨⟨L⟩,el,(0,0),rfl,by simp,by rw[hr.1];exact Nat.le_refl _,rfl,?_,fun _=>⟨hsz,fun j _ hj=>by simp at hj⟩⟩
 have:=(hr.mono (Mu.le_upd (i:=i) ⟨w.heap.size,0,L.length,s⟩ hi))
 rw[hr.1]
 simpa using this
omit hC in
theorem Dl (i:Nat) (e:Spot) (hb:e.base=0):VRel (μ.upd i e) (yJ i) (.pointer (some ⟨e.blk,0,none⟩)):=
 .ptr _ _ ⟨rfl,e,Mu.upd_self _ _ _,rfl,by simp[hb]⟩
omit hC in
theorem mh (i:Nat) (e:Spot) (hb:e.base=0) (hi0:i≠0) (n c C':Nat) (hc:c<=C') (hn:n<=C') (hl:C'*e.esz<=e.lim):
  VRel (μ.upd i e) (aG e.esz n c i) (.slice (some ⟨e.blk,0,none⟩) n C'):=
 .slice _ _ _ _ _ hc hn (.inr ⟨hi0,e,Mu.upd_self _ _ _, .inl ⟨rfl,rfl,by simp[hb],fun s hs=>by simp at hs;subst hs;exact⟨rfl,by simpa using hl⟩⟩⟩)
theorem NL (hsz:w0.heap.size<=w.heap.size) {t:TypeId} {ev:EV} (hv:Cu C t=some ev):
  ∃x mk V w' O lim esz,ev= .new x mk/\ (Instr.alloc t true (.tuple #[])).run C.P w= .ok V w'/\ Grew w w' O/\
   ∀i,μ i=none ->i≠0 ->ORel good w0.heap.size (μ.upd i ⟨w.heap.size,0,lim,esz⟩) ⟨w.heap.size,0,lim,esz⟩ x (some O)/\ VRel (μ.upd i ⟨w.heap.size,0,lim,esz⟩) (mk i) V:=by
 obtain⟨z,hz,h1⟩:=ab hv
 simp at h1
 refine⟨_,_, .pointer (some ⟨w.heap.size,0,none⟩),w.alloc (.cells z.cells t), .cells z.cells t,z.cells.toList.length,0,h1.symm,?_,Grew.alloc _ _,fun i hi hi0=>⟨?_,Dl i _ rfl⟩⟩
 ·unfold Instr.alloc
  simp[gI hC hz,newVar,newRow]
 ·exact uh (oI hC hz) hi t 0 hsz
omit hC in
theorem Wz {P:Program} (hsz:w0.heap.size<=w.heap.size) {t:TypeId} {v V:Value} {ev:EV} (hr:VRel μ v V) (hv:NO v=some ev):
  ∃x mk V' w' O lim esz,ev= .new x mk/\ (Instr.box t V).run P w= .ok V' w'/\ Grew w w' O/\
   ∀i,μ i=none ->i≠0 ->ORel good w0.heap.size (μ.upd i ⟨w.heap.size,0,lim,esz⟩) ⟨w.heap.size,0,lim,esz⟩ x (some O)/\ VRel (μ.upd i ⟨w.heap.size,0,lim,esz⟩) (mk i) V':=by
 simp[NO]at hv
 refine⟨_,_, .pointer (some ⟨w.heap.size,0,none⟩),w.alloc (.cells V.cells t), .cells V.cells t,V.cells.toList.length,0,hv.symm,?_,Grew.alloc _ _,fun i hi hi0=>⟨?_,Dl i _ rfl⟩⟩
 ·simp[Instr.box,newVar,newRow]
 ·refine⟨V.cells,t,(0,0),rfl,by simp,by rw[hr.cells.1];exact Nat.le_refl _,rfl,?_,fun _=>⟨hsz,fun j _ hj=>by simp at hj⟩⟩
  have:=(hr.cells.mono (Mu.le_upd (i:=i) ⟨w.heap.size,0,V.cells.toList.length,0⟩ hi))
  rw[hr.cells.1]
  show VRels _ _ ((V.cells.toList.drop 0).take V.cells.toList.length)
  rw[List.drop_zero,List.take_length]
  exact this
omit hC in
theorem tV {e:TypeId} {n s:Nat} {l:List Value} (hz:uP C e n=some (l,s)): ∃z,C.size e=some s/\ C.zero e=some z/\ (cellsOf z).length=s/\ l=fk (cellsOf z) n:=by
 obtain⟨s',hs,h1⟩:=ab hz
 obtain⟨z,hzz,h2⟩:=ab h1
 obtain⟨h3,h4⟩:=aq h2
 simp at h4
 obtain⟨rfl,rfl⟩:=h4
 exact⟨z,hs,hzz,Nat.eq_of_beq_eq_true h3,rfl⟩
theorem tD {e:TypeId} {n s:Nat} {l:List Value} (hz:uP C e n=some (l,s)): ∃Z:Array Value,
  ((n*s=0/\ Z= #[]) \/(n*s≠0/\ ∃z,(zeroValue e).run C.P w= .ok z w/\ Z=z.cells))/\ VRels μ l (((Array.range (n*s)).map (Z[· % Z.size]!)).toList):=by
 obtain⟨z,hs,hzz,hl,rfl⟩:=tV hz
 have hc:=oI (μ:=μ) hC hzz
 by_cases h0:n*s=0
 ·refine⟨#[], .inl ⟨h0,rfl⟩,?_⟩
  have:fk (cellsOf z) n=[]:=by
   rw[<-Di,hl,h0];rfl
  rw[this,h0]
  simpa using VRels.nil
 ·refine⟨z.cells, .inr ⟨h0,z,gI hC hzz w,rfl⟩,?_⟩
  have hzl:z.cells.size=s:=by have:=hc.1;rw[hl]at this;simpa using this.symm
  have e1:((Array.range (n*s)).map (z.cells[· % z.cells.size]!)).toList=fk z.cells.toList n:=by
   rw[<-Di]
   simp only[Array.toList_map,Array.toList_range,Array.length_toList,hzl]
   apply List.map_congr_left
   intro a _
   rw[getElem!_def,getElem!_def,Array.getElem?_toList]
  rw[e1]
  clear e1 h0 hz
  induction n with
  |zero=>exact VRels.nil
  |succ n ih=>exact hc.append ih
theorem Cn (hsz:w0.heap.size<=w.heap.size) {t:TypeId} {n:Nat} {ps:Array (Nat×Operand)} {ρ R:Operand ->Value} {ev:EV} (hp: ∀p∈ps.toList,VRel μ (ρ p.2) (R p.2))
  (hv:bn C t n (kL ρ ps)=some ev):
  ∃x mk V w' O lim esz,ev= .new x mk/\ (Instr.buildSlice t n (ps.map fun (i,x)=>(i,R x))).run C.P w= .ok V w'/\ Grew w w' O/\
   ∀i,μ i=none ->i≠0 ->ORel good w0.heap.size (μ.upd i ⟨w.heap.size,0,lim,esz⟩) ⟨w.heap.size,0,lim,esz⟩ x (some O)/\ VRel (μ.upd i ⟨w.heap.size,0,lim,esz⟩) (mk i) V:=by
 obtain⟨d,hd,h1⟩:=ab hv
 obtain⟨e,he,h2⟩:=ab h1
 obtain⟨⟨z,s⟩,hz,h3⟩:=ab h2
 obtain⟨h4,h5⟩:=aq h3
 obtain⟨l,hl,h6⟩:=ab h5
 simp at h6
 have hb: ¬n*s>2 ^ 24:=by have:=Nat.le_of_ble_eq_true h4;dsimp only at this;omega
 cases d<;>simp[dy]at he
 rename_i el
 subst he
 obtain⟨Z,hZ,hzr⟩:=tD (μ:=μ) (w:=w) hC hz
 obtain⟨zz,hs,hzz,hzl,hzeq⟩:=tV hz
 obtain⟨L,hL,hr⟩:=B5 (R:=R) ps.toList _ l _ hp hzr hl
 have hmap:((ps.map fun (i,x)=>(i,R x)):Array (Nat×Value)).toList=ps.toList.map fun p=>(p.1,R p.2):=by simp
 have hLlen:L.toList.length=n*s:=by
  rw[<-hr.1,HV _ _ _ hl,hzr.1]
  simp
 refine⟨_,_, .slice (some ⟨w.heap.size,0,none⟩) n n,w.alloc (.cells L el), .cells L el,L.toList.length,s,h6.symm,?_,Grew.alloc _ _,fun i hi hi0=>⟨uh hr hi el s hsz,?_⟩⟩
 ·unfold Instr.buildSlice
  have hpl:(fun i=>some (i*s,s))=eX s:=rfl
  rcases hZ with⟨h0,rfl⟩|⟨h0,zv,hzv,rfl⟩
  ·simp only[Sem.run_bind,bE hC hd,Result.andThen_ok,cE hC hs,if_neg hb,if_pos h0,hmap,Sem.run_pure,hpl]
   dsimp only at hL
   rw[hL]
   rfl
  ·simp only[Sem.run_bind,bE hC hd,Result.andThen_ok,cE hC hs,if_neg hb,if_neg h0,hmap,Sem.run_pure,hpl,hzv]
   dsimp only at hL
   rw[hL]
   rfl
 ·exact mh i ⟨w.heap.size,0,L.toList.length,s⟩ rfl hi0 n n n (Nat.le_refl _) (Nat.le_refl _) (by dsimp only;omega)
end
end Go.Am

namespace Go.Am
open Go
def ORelV (μ:Mu):Option Value ->Option Value ->Prop
 |none,none=>True
 |some v,some V=>VRel μ v V
 |_,_=>False
theorem ORelV.map {μ:Mu} {ρ R:Operand ->Value} {o:Option Operand} (h: ∀x,o=some x ->VRel μ (ρ x) (R x)):ORelV μ (o.map ρ) (o.map R):=by
 cases o with
 |none=>trivial
 |some x=>exact h x rfl
def ou (O:Option Value) (y:Nat) (code:BoundsCode) (d:Nat):Sem Nat:=
 match O with
 |some v=>Instr.sliceBound v y code
 |none=>pure d
theorem iq {P:Program} {μ:Mu} {w:World} {hi y d n:Nat} {o O:Option Value} (hb:gU hi d o=some n) (hr:ORelV μ o O) (hy:hi<=y) (code:BoundsCode):
  (ou O y code d).run P w= .ok n w/\ (O=none/\ n=d \/n<=hi):=by
 cases o with
 |none=>
  cases O with
  |some V=>exact hr.elim
  |none=>simp[gU]at hb;subst hb;exact⟨rfl, .inl ⟨rfl,rfl⟩⟩
 |some v=>
  cases O with
  |none=>exact hr.elim
  |some V=>
   cases v<;>simp only[gU]at hb<;>try (simp at hb;done)
   rename_i k i
   obtain⟨rfl,_,hle⟩:=G7 hb
   have hV:V= .int k (n:Int):=VRel.int_inv hr
   subst hV
   refine⟨?_, .inr hle⟩
   have h1:(0:Int)<=(n:Int)/\ (n:Int)<=(y:Int):=⟨by omega,by omega⟩
   simp[ou,Instr.sliceBound,asIntOf,h1]
section
variable {C:Ctx} (hC:C.Ok0) {good:Code ->Prop} {w0:World} {μ:Mu} {h:Heap} {w:World}
include hC
theorem CK (hsz:w0.heap.size<=w.heap.size) {t:TypeId} {l c L C':Value} {ev:EV} (hl:VRel μ l L) (hc:VRel μ c C') (hv:lX C t l c=some ev):
  ∃x mk V w' O lim esz,ev= .new x mk/\ (Instr.makeSlice t L C').run C.P w= .ok V w'/\ Grew w w' O/\
   ∀i,μ i=none ->i≠0 ->ORel good w0.heap.size (μ.upd i ⟨w.heap.size,0,lim,esz⟩) ⟨w.heap.size,0,lim,esz⟩ x (some O)/\ VRel (μ.upd i ⟨w.heap.size,0,lim,esz⟩) (mk i) V:=by
 obtain⟨d,hd,h1⟩:=ab hv
 obtain⟨e,he,h2⟩:=ab h1
 obtain⟨ln,hln,h3⟩:=ab h2
 obtain⟨cn,hcn,h4⟩:=ab h3
 obtain⟨⟨z,s⟩,hz,h5⟩:=ab h4
 obtain⟨i,hi,h6⟩:=ab h5
 obtain⟨h7,h8⟩:=aq h6
 simp at h8
 simp only[Bool.and_eq_true]at h7
 obtain⟨⟨b1,b2⟩,b3⟩:=h7
 have b1:=Nat.le_of_ble_eq_true b1
 have b2:=Nat.le_of_ble_eq_true b2
 have b3:=Nat.le_of_ble_eq_true b3
 cases d<;>simp[dy]at he
 rename_i el
 subst he
 have hl1:l= .int .i64 ln:=by
  cases l<;>simp[xe]at hln
  rename_i k n
  cases k<;>cases n<;>simp[xe]at hln
  rw[hln];rfl
 have hc1:c= .int .i64 cn:=by
  cases c<;>simp[xe]at hcn
  rename_i k n
  cases k<;>cases n<;>simp[xe]at hcn
  rw[hcn];rfl
 subst hl1;subst hc1
 obtain rfl:=hl.int_inv
 obtain rfl:=hc.int_inv
 obtain⟨Z,hZ,hzr⟩:=tD (μ:=μ) (w:=w) hC hz
 obtain⟨zz,hs,hzz,hzl,hzeq⟩:=tV hz
 have wrap: ∀n:Nat,n<=4611686018427387904 ->IntKind.i64.wrap (n:Int)=n:=by
  intro n hn
  rw[IntKind.wrap_i64];omega
 have wl:=wrap ln (by omega)
 have wc:=wrap cn b2
 have hlen:((Array.range (cn*s)).map (Z[· % Z.size]!)).toList.length=cn*s:=by simp
 have hcond: ¬((decide ((cn:Int)<0)||decide ((i.bytes:Int)*(cn:Int)>2 ^ 48))=true \/(ln:Int)<0 \/(ln:Int)>(cn:Int)):=by
  have:(i.bytes:Int)*(cn:Int)<=70368744177664:=by
   have:((cn*i.bytes:Nat):Int)<=70368744177664:=by omega
   rw[Int.natCast_mul,Int.mul_comm]at this;exact this
  simp only[Bool.or_eq_true,decide_eq_true_eq]
  omega
 refine⟨_,_, .slice (some ⟨w.heap.size,0,none⟩) ln cn,w.alloc (.cells ((Array.range (cn*s)).map (Z[· % Z.size]!)) el), .cells ((Array.range (cn*s)).map (Z[· % Z.size]!)) el,cn*s,s,h8.symm,?_,Grew.alloc _ _,fun i hi hi0=>⟨?_,?_⟩⟩
 ·unfold Instr.makeSlice
  rcases hZ with⟨h0,rfl⟩|⟨h0,zv,hzv,rfl⟩
  all_goals
   simp only[Sem.run_bind,bE hC hd,Result.andThen_ok,asInt,asIntOf,Sem.run_pure,j8 hC hi,wl,wc,Bool.or_eq_true,decide_eq_true_eq,Int.toNat_natCast,cE hC hs]
   simp only[Bool.or_eq_true,decide_eq_true_eq]at hcond
   rw[if_neg (by omega)]
   simp only[Sem.run_bind,run_askRoom,Result.andThen_ok,cE hC hs,Sem.run_pure]
  ·rw[if_pos h0];rfl
  ·rw[if_neg h0];simp only[Sem.run_bind,hzv,Result.andThen_ok,Sem.run_pure];rfl
 ·have:=uh (good:=good) (w0:=w0) (w:=w) hzr hi el s hsz
  rw[hlen]at this
  exact this
 ·exact mh i ⟨w.heap.size,0,cn*s,s⟩ rfl hi0 ln cn cn (Nat.le_refl _) b1 (Nat.le_refl _)
omit hC in
theorem Ha {P:Program} (hsz:w0.heap.size<=w.heap.size) {t:TypeId} {r:Option Operand} {R:Operand ->Value} {ev:EV} (hv:lY r=some ev):
  ∃x mk V w' O lim esz,ev= .new x mk/\ (Instr.makeMap t (r.map R)).run P w= .ok V w'/\ Grew w w' O/\
   ∀i,μ i=none ->i≠0 ->ORel good w0.heap.size (μ.upd i ⟨w.heap.size,0,lim,esz⟩) ⟨w.heap.size,0,lim,esz⟩ x (some O)/\ VRel (μ.upd i ⟨w.heap.size,0,lim,esz⟩) (mk i) V:=by
 cases r with
 |some r=>simp[lY]at hv
 |none=>
  simp[lY]at hv
  refine⟨_,_, .map (some w.heap.size),w.alloc (.map #[] 0), .map #[] 0,0,0,hv.symm,rfl,Grew.alloc _ _,fun i hi hi0=>⟨?_,?_⟩⟩
  ·exact⟨hsz, #[],rfl,rfl,fun j e E a _=>by simp at a⟩
  ·exact .map i _ (Mu.upd_self _ _ _)
omit hC in
theorem El {P:Program} {s:ByteArray} {lo hi LO HI:Option Value} {v:Value} (hlo:ORelV μ lo LO) (hhi:ORelV μ hi HI) (hv:Gm s.data.toList lo hi=some v):
  (do let(l,h,_)<-Instr.sliceBounds false s.size s.size LO HI none;pure (.string (s.extract l h)):Sem Value).run P w= .ok v w/\ aU v=true:=by
 obtain⟨b,hb,h1⟩:=ab hv
 obtain⟨a,ha,h2⟩:=ab h1
 simp at h2;subst h2
 have hsz:s.data.toList.length=s.size:=Array.length_toList
 rw[hsz]at hb
 have hbs:=iq (P:=P) (w:=w) (y:=s.size) hb hhi (Nat.le_refl _) .sliceAlen
 have has:=iq (P:=P) (w:=w) (y:=b) ha hlo (Nat.le_refl _) .sliceB
 refine⟨?_,rfl⟩
 have e3:(Instr.sliceBounds false s.size s.size LO HI none).run P w= .ok (a,b,s.size) w:=by
  have e1:=hbs.1
  have e2:=has.1
  clear hbs has hb ha hv h1 hlo hhi
  unfold Instr.sliceBounds
  cases HI<;>cases LO<;>simp_all [ou]
 simp only[Sem.run_bind,e3,Result.andThen_ok,Sem.run_pure]
 congr 2
 apply ByteArray.ext
 apply Array.ext'
 simp[ByteArray.data_extract,List.extract_eq_take_drop]
end
end Go.Am

namespace Go.Am
open Go
theorem yN {n:Nat} {o:Option Nat} {s:Nat} (h:eA n o=some s):o=some s/\ s=n:=by
 cases o with
 |none=>simp[eA]at h
 |some t=>
  simp only[eA]at h
  split at h
  ·rename_i hb
   simp at h;subst h
   exact⟨rfl,Nat.eq_of_beq_eq_true hb⟩
  ·simp at h
section
variable {C:Ctx} (hC:C.Ok0) {good:Code ->Prop} {w0:World} {μ:Mu} {h:Heap} {w:World}
theorem Mk {a:Addr} {A:Addr} {CAP l n:Nat} (hs:Iu μ a A CAP) (hl:l<=CAP):
  ∃x,ib l n (some a)=some x/\ Iu μ x (if CAP=l then A else A.add (l*n)) (CAP -l):=by
 obtain⟨b,off,sp⟩:=a
 cases b with
 |zero=>
  refine⟨⟨0,0,none⟩,rfl,?_⟩
  rcases hs with⟨_,h2⟩|⟨h1,_⟩
  ·exact .inl ⟨rfl,by omega⟩
  ·exact absurd rfl h1
 |succ r=>
  refine⟨⟨r+1,off+l*n,eA n sp⟩,rfl,?_⟩
  rcases hs with⟨h1,_⟩|⟨_,e,he,h2⟩
  ·simp at h1
  ·refine .inr ⟨by simp,e,he,?_⟩
   by_cases hcl:CAP=l
   ·exact .inr (by omega)
   ·rcases h2 with⟨s1,s2,s3,s4⟩|h3
    ·left
     rw[if_neg hcl,eG s1]
     refine⟨rfl,s2,by dsimp only at s3⊢;omega,fun s hs=> ?_⟩
     obtain⟨e1,e2⟩:=yN hs
     obtain⟨e3,e4⟩:=s4 s e1
     refine⟨e3,?_⟩
     subst e2
     dsimp only at e4⊢
     have:l*s+(CAP -l)*s=CAP*s:=by rw[<-Nat.add_mul];congr 1;omega
     omega
    ·omega
include hC
theorem Mj (h0: ∀i e,μ i=some e ->i≠0) {t:TypeId} {x X:Value} {lo hi mx LO HI MX:Option Value} {v:Value} (hx:VRel μ x X) (hlo:ORelV μ lo LO) (hhi:ORelV μ hi HI) (hmx:ORelV μ mx MX)
  (hv:jb C t x lo hi mx=some v): ∃V,(Instr.sliceAt t X LO HI MX).run C.P w= .ok V w/\ VRel μ v V:=by
 obtain⟨d,hd,h1⟩:=ab hv
 unfold Instr.sliceAt
 simp only[Sem.run_bind,bE hC hd,Result.andThen_ok]
 cases d<;>simp only[Em]at h1<;>try (simp at h1;done)
 ·split at h1
  ·obtain rfl:=hx.string_inv
   cases MX with
   |some _=>exact hmx.elim
   |none=>
    obtain⟨p,q⟩:=El (P:=C.P) (w:=w) hlo hhi h1
    refine⟨v,?_, .plain _ q⟩
    rw[<-p]
    unfold Instr.slice
    simp only[Sem.run_bind,bE hC hd,Result.andThen_ok,Option.isSome_none,Bool.false_eq_true,if_false]
  ·simp at h1
 ·rename_i el
  unfold Instr.slice
  simp only[Sem.run_bind,bE hC hd,Result.andThen_ok]
  split at h1
  ·rename_i p len cap
   cases MX with
   |some _=>exact hmx.elim
   |none=>
    obtain⟨n,hn,h2'⟩:=ab h1
    obtain⟨hnl,h2⟩:=aq h2'
    have hnl:=Nat.le_of_ble_eq_true hnl
    obtain⟨b,hb,h3⟩:=ab h2
    obtain⟨a,ha,h4⟩:=ab h3
    simp at h4;subst h4
    have key: ∀(CAP:Nat),cap<=CAP ->len<=CAP ->(Instr.sliceBounds true len CAP LO HI none).run C.P w= .ok (a,b,CAP) w/\ b<=CAP/\ a<=b:=by
     intro CAP hcc hlc
     have hb':gU CAP len hi=some b:=by
      cases hi with
      |none=>exact hb
      |some u=>
       cases u<;>simp only[gU]at hb⊢ <;>try (simp at hb;done)
       obtain⟨e1,e2,e3⟩:=G7 hb
       subst e1
       show aX (Nat.ble 0 b&&Nat.ble b CAP) (some b)=some b
       have:(Nat.ble 0 b&&Nat.ble b CAP)=true:=by
        rw[Bool.and_eq_true];exact⟨Nat.ble_eq_true_of_le (Nat.zero_le _),Nat.ble_eq_true_of_le (by omega)⟩
       rw[this];rfl
     have hbs:=iq (P:=C.P) (w:=w) (y:=CAP) hb' hhi (Nat.le_refl _) .sliceAcap
     have has:=iq (P:=C.P) (w:=w) (y:=b) ha hlo (Nat.le_refl _) .sliceB
     refine⟨?_,by rcases hbs.2 with⟨_,e⟩|e<;>omega,by rcases has.2 with⟨_,e⟩|e<;>omega⟩
     have e1:=hbs.1
     have e2:=has.1
     clear hbs has hb hb' ha hv h1 h2 h2' h3 hlo hhi
     unfold Instr.sliceBounds
     cases HI<;>cases LO<;>simp_all [ou]
    cases p with
    |none=>
     obtain rfl:=hx.nilslice_inv
     obtain⟨k1,k2,k3⟩:=key cap (Nat.le_refl _) hnl
     refine⟨.slice none (b -a) (cap -a),?_, .plain _ rfl⟩
     simp only[Sem.run_bind,k1,Result.andThen_ok,cE hC hn,Sem.run_pure]
     congr 2
     by_cases hca:cap=a<;>simp[hca]
    |some p=>
     obtain⟨A,CAP,rfl,hcc,hlc,hs⟩:=hx.slice_inv
     obtain⟨k1,k2,k3⟩:=key CAP hcc hlc
     obtain⟨y,hy,hr⟩:=Mk (n:=n) hs (Nat.le_trans k3 k2)
     rw[hy]
     refine⟨.slice (some (if CAP=a then A else A.add (a*n))) (b -a) (CAP -a),?_, .slice _ _ _ _ _ (by omega) (by omega) hr⟩
     simp only[Sem.run_bind,k1,Result.andThen_ok,cE hC hn,Sem.run_pure]
     congr 2
     by_cases hca:CAP=a<;>simp[hca]
  ·rename_i p len cap m
   cases MX with
   |none=>exact hmx.elim
   |some M=>
    obtain⟨n,hn,h2⟩:=ab h1
    obtain⟨mm,hm,h3⟩:=ab h2
    obtain⟨hiv,hhv,h4⟩:=ab h3
    obtain⟨b,hb,h5⟩:=ab h4
    obtain⟨a,ha,h6⟩:=ab h5
    subst hhv
    cases HI with
    |none=>exact hhi.elim
    |some HI=>
    have key: ∀(CAP:Nat),cap<=CAP ->(Instr.sliceBounds true len CAP LO (some HI) (some M)).run C.P w= .ok (a,b,mm) w/\ mm<=CAP/\ b<=mm/\ a<=b:=by
     intro CAP hcc
     have hms:=iq (P:=C.P) (w:=w) (y:=CAP) (d:=cap) (O:=some M) hm hmx hcc .slice3Acap
     have hbs:=iq (P:=C.P) (w:=w) (y:=mm) (O:=some HI) hb hhi (Nat.le_refl _) .slice3B
     have has:=iq (P:=C.P) (w:=w) (y:=b) ha hlo (Nat.le_refl _) .slice3C
     have q1:mm<=CAP:=by
      rcases hms.2 with⟨e,_⟩|e
      ·simp at e
      ·omega
     have q2:b<=mm:=by
      rcases hbs.2 with⟨e,_⟩|e
      ·simp at e
      ·omega
     have q3:a<=b:=by rcases has.2 with⟨_,e⟩|e<;>omega
     refine⟨?_,q1,q2,q3⟩
     have e0:=hms.1
     have e1:=hbs.1
     have e2:=has.1
     clear hms hbs has hb ha hv h1 h2 h3 h4 h5 hlo hhi hm hmx
     unfold Instr.sliceBounds
     cases LO<;>simp_all [ou]
    cases p with
    |none=>
     obtain rfl:=hx.nilslice_inv
     obtain⟨k1,k2,k3,k4⟩:=key cap (Nat.le_refl _)
     simp[AH]at h6;subst h6
     refine⟨.slice none (b -a) (mm -a),?_, .plain _ rfl⟩
     simp only[Sem.run_bind,k1,Result.andThen_ok,cE hC hn,Sem.run_pure]
     congr 2
     by_cases hca:mm=a<;>simp[hca]
    |some p=>
     obtain⟨A,CAP,rfl,hcc,hlc,hs⟩:=hx.slice_inv
     obtain⟨k1,k2,k3,k4⟩:=key CAP hcc
     refine⟨.slice (some (if mm=a then A else A.add (a*n))) (b -a) (mm -a),?_,?_⟩
     ·simp only[Sem.run_bind,k1,Result.andThen_ok,cE hC hn,Sem.run_pure]
      congr 2
      by_cases hca:mm=a<;>simp[hca]
     ·simp only[AH]at h6
      split at h6
      ·rename_i hz
       have:=Nat.eq_of_beq_eq_true hz
       simp at h6;subst h6
       have e1:b -a=0:=by omega
       have e2:mm -a=0:=by omega
       rw[e1,e2]
       exact .slice _ _ _ _ _ (Nat.le_refl _) (Nat.le_refl _) (.inl ⟨rfl,rfl⟩)
      ·rename_i hz
       obtain⟨hnz,h7⟩:=aq h6
       simp at h7;subst h7
       have hma:mm≠a:=by intro e;rw[e]at hz;simp at hz
       refine .slice _ _ _ _ _ (Nat.le_refl _) (by omega) ?_
       rw[if_neg hma]
       rcases hs with⟨q1,q2⟩|⟨q1,e,he,q3⟩
       ·omega
       ·refine .inr ⟨q1,e,he,?_⟩
        rcases q3 with⟨s1,s2,s3,s4⟩|q4
        ·left
         rw[eG s1]
         refine⟨rfl,s2,by dsimp only;omega,fun s hs=> ?_⟩
         obtain⟨e1,e2⟩:=yN hs
         obtain⟨e3,e4⟩:=s4 s e1
         refine⟨e3,?_⟩
         subst e2
         dsimp only
         have t1:a*s+(mm -a)*s=mm*s:=by rw[<-Nat.add_mul];congr 1;omega
         have t2:mm*s<=CAP*s:=Nat.mul_le_mul_right _ k2
         omega
        ·omega
  ·simp at h1
 ·rename_i n e
  cases mx with
  |some m=>simp at h1
  |none=>
   cases MX with
   |some _=>exact hmx.elim
   |none=>
    obtain⟨q,hq,h2⟩:=ab h1
    obtain⟨s,hs,h3⟩:=ab h2
    obtain⟨b,hb,h4⟩:=ab h3
    obtain⟨a,ha,h5⟩:=ab h4
    obtain⟨hne,h6⟩:=aq h5
    simp at h6;subst h6
    have hne:n≠a:=vW hne
    obtain rfl:=lM hq
    obtain⟨A,rfl,sp,ee,he,e1,e2⟩:=hx.ptr_inv
    have hbs:=iq (P:=C.P) (w:=w) (y:=n) hb hhi (Nat.le_refl _) .sliceAlen
    have has:=iq (P:=C.P) (w:=w) (y:=b) ha hlo (Nat.le_refl _) .sliceB
    have q1:b<=n:=by rcases hbs.2 with⟨_,e⟩|e<;>omega
    have q2:a<=b:=by rcases has.2 with⟨_,e⟩|e<;>omega
    have k1:(Instr.sliceBounds false n n LO HI none).run C.P w= .ok (a,b,n) w:=by
     have e1:=hbs.1
     have e2:=has.1
     clear hbs has hb ha hv h1 h2 h3 h4 h5 hlo hhi
     unfold Instr.sliceBounds
     cases HI<;>cases LO<;>simp_all [ou]
    refine⟨.slice (some ⟨A.block,A.off+a*s,none⟩) (b -a) (n -a),?_, .slice _ _ _ _ _ (Nat.le_refl _) (by omega) (.inr ⟨h0 _ _ he,ee,he, .inl ⟨rfl,e1,by dsimp only;omega,fun s hs=>by simp at hs⟩⟩)⟩
    simp only[Instr.sureAddr,Sem.run_bind,Sem.run_pure,Result.andThen_ok,k1,cE hC hs,if_neg hne,eG sp]
end
end Go.Am
