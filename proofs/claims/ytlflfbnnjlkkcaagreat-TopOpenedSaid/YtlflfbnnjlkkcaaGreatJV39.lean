/- Parts V39, V40, V41 of the abstract machine over this program, joined: what each part says stands at its head. -/
import Derived.Test.YtlflfbnnjlkkcaaGreatJV38
set_option linter.unusedSimpArgs false
set_option linter.unusedVariables false
set_option linter.defProp false
namespace Go.Am
open Go Go.Proofs
theorem L6 (cells:List Value) (off n:Nat):aA cells off n=if((cells.drop off).take n).length=n then some ((cells.drop off).take n)else none:=by
 unfold aA
 by_cases e:((cells.drop off).take n).length=n
 ·rw[if_pos e,e,Nat.beq_refl]
 ·rw[if_neg e]
  cases hb:Nat.beq ((cells.drop off).take n).length n with
  |true=>exact absurd (Nat.eq_of_beq_eq_true hb) e
  |false=>rfl
theorem U3 (a:Value) (l:List Value) (o n:Nat):aA (a::l) (o+1) n=aA l o n:=rfl
theorem U4 (l:List Value):aA l 0 0=some []:=rfl
theorem U2 (a:Value) (l:List Value) (n:Nat):aA (a::l) 0 (n+1)=ae (aA l 0 n) fun r=>some (a::r):=by
 simp only[L6,List.drop_zero,List.take_succ_cons,List.length_cons]
 by_cases e:(l.take n).length=n
 ·rw[if_pos (by omega),if_pos e];rfl
 ·rw[if_neg (by omega),if_neg e];rfl
theorem Th (pl:Nat ->Option (Nat×Nat)) (cs:List Value):bu pl [] cs=some cs:=rfl
theorem Ni (pl:Nat ->Option (Nat×Nat)) (p:Nat×Value) (ps:List (Nat×Value)) (cs:List Value):bu pl (p::ps) cs=ae (yP pl cs p) (bu pl ps):=rfl
theorem Ti (pl:Nat ->Option (Nat×Nat)) (cs:List Value) (i:Nat) (v:Value):yP pl cs (i,v)=ae (pl i) fun q=>if(cellsOf v).length=q.2/\ q.1+q.2<=cs.length then some (cs.take q.1++(cellsOf v++cs.drop (q.1+q.2)))else none:=by
 unfold yP
 cases pl i with
 |none=>rfl
 |some q=>
  simp only[au]
  by_cases e1:(cellsOf v).length=q.2
  ·have b1:Nat.beq (cellsOf v).length q.2=true:=by rw[e1];exact Nat.beq_refl _
   by_cases e2:q.1+q.2<=cs.length
   ·have b2:Nat.ble (q.1+q.2) cs.length=true:=Nat.ble_eq_true_of_le e2
    rw[if_pos ⟨e1,e2⟩,b1,b2];rfl
   ·have b2:Nat.ble (q.1+q.2) cs.length=false:=by cases hb:Nat.ble (q.1+q.2) cs.length with|true=>exact absurd (Nat.le_of_ble_eq_true hb) e2|false=>rfl
    rw[if_neg (fun h=>e2 h.2),b1,b2];rfl
  ·have b1:Nat.beq (cellsOf v).length q.2=false:=by cases hb:Nat.beq (cellsOf v).length q.2 with|true=>exact absurd (Nat.eq_of_beq_eq_true hb) e1|false=>rfl
   rw[if_neg (fun h=>e1 h.1),b1];rfl
theorem GL (n i:Nat):eX n i=some (i*n,n):=rfl
theorem J9:cellsOf .nilFunc=[.nilFunc]:=rfl
theorem J8:cellsOf .nilIface=[.nilIface]:=rfl
theorem Id (t:TypeId) (v:Value):cellsOf (.iface t v)=[.iface t v]:=rfl
theorem aW (l:List Value) (t:Nat):jt l t=l.getD t undef:=rfl
theorem ZZ (a b:Value):Ct a b (.bool true)=some (.val a):=rfl
theorem Xo (a b:Value):Ct a b (.bool false)=some (.val b):=rfl
theorem W3 (v:Value):NO v=some (.new (.row (cellsOf v) 0 true) yJ):=rfl
theorem NP (C:Ctx) (t:TypeId):Cu C t=ae (C.zero t) fun z=>some (.new (.row (cellsOf z) 0 true) yJ):=rfl
theorem Ny (l:List Value):cellsOf (.agg ⟨l⟩)=l:=rfl
theorem dE (k:IntKind) (n:Int):cellsOf (.int k n)=[.int k n]:=rfl
theorem Kb (b:Bool):cellsOf (.bool b)=[.bool b]:=rfl
theorem Nv (s:ByteArray):cellsOf (.string s)=[.string s]:=rfl
theorem Ic (p:Option Addr) (n m:Nat):cellsOf (.slice p n m)=[.slice p n m]:=rfl
theorem Nw (p:Option Addr):cellsOf (.pointer p)=[.pointer p]:=rfl
theorem Nx (p:Option Nat):cellsOf (.map p)=[.map p]:=rfl
theorem Ka (f:Fn) (a b:Array Value):cellsOf (.func f a b)=[.func f a b]:=rfl
theorem Qp (i:Nat):yJ i= .pointer (some ⟨i,0,none⟩):=rfl
theorem IY (s n c i:Nat):aG s n c i= .slice (some ⟨i,0,some s⟩) n c:=rfl
theorem QR (i:Nat):QS i= .map (some i):=rfl
theorem QM (l:List Value):br l= .agg ⟨l⟩:=rfl
theorem QK (l:List Value):nO l= .tuple ⟨l⟩:=rfl
theorem X_tup (l:List Value) (i:Nat):rP (.tuple ⟨l⟩) i=ae l[i]? aY:=rfl
theorem VA (C:Ctx) (a:Addr):ir C (.pointer (some a))=some (.val (.pointer (some a))):=rfl
theorem ME (C:Ctx) (t:TypeId) (v:Value):ir C (.iface t v)=some (.val (.iface t v)):=rfl
theorem mkF (ρ:Operand ->Value) (f:FuncId) (a b:List Operand):oy ρ (.func f) ⟨a⟩ ⟨b⟩=some (.val (.func (.func f) ⟨a.map ρ⟩ ⟨b.map ρ⟩)):=rfl
theorem mkM (ρ:Operand ->Value) (n:String) (a b:List Operand):oy ρ (.method n) ⟨a⟩ ⟨b⟩=some (.val (.func (.method n) ⟨a.map ρ⟩ ⟨b.map ρ⟩)):=rfl
theorem QL:lY none=some (.new (.map [] 0) QS):=rfl
theorem Qt (ρ:Operand ->Value) (l:List (Nat×Operand)):kL ρ ⟨l⟩=l.map fun p=>(p.1,ρ p.2):=rfl
theorem TQ (v:Value):aY v=some (.val v):=rfl
theorem ZB (C:Ctx) (τ:List (List Value)) (h:Heap):aR C τ h []=some []:=rfl
theorem LU (C:Ctx) (τ:List (List Value)) (h:Heap) (r:ResultVar) (l:List ResultVar):aR C τ h (r::l)=ae (iZ C τ h r) fun v=>ae (aR C τ h l) fun vs=>some (v::vs):=rfl
theorem ZA (C:Ctx) (n:Nat) (f:Nat ->Value) (h:Heap) (t:Tmp) (l:List ResultVar):aR C (T n f) h (.tmp t::l)=ae (aR C (T n f) h l) fun vs=>some ((if t<n then f t else undef)::vs):=by
 rw[LU];simp only[iZ,au,Ec]
theorem W5 (C:Ctx) (n:Nat) (f:Nat ->Value) (h:Heap) (t:Tmp) (ty:TypeId) (l:List ResultVar):aR C (T n f) h (.cell t ty::l)=ae (bx C ty (if t<n then f t else undef) h) fun v=>ae (aR C (T n f) h l) fun vs=>some (v::vs):=by
 rw[LU];simp only[iZ,Ec]
theorem QC (v:Value):cZ [v]=v:=rfl
theorem QB (v w:Value):cZ [v,w]= .tuple ⟨[v,w]⟩:=rfl
theorem Jg (v w x:Value):cZ [v,w,x]= .tuple ⟨[v,w,x]⟩:=rfl
theorem st_eq (C:Ctx) (t:TypeId) (b o:Nat) (sp:Option Nat) (v:Value) (h:Heap):rO C t (.pointer (some ⟨b,o,sp⟩)) v h=ae (ae (h.get b) fO) fun r=>ae (C.size t) fun n=>
  aX (Nat.beq (cellsOf v).length n) (aX (bF (cellsOf v)) (ae (fm r.1 o (cellsOf v)) fun l=>some (h.set b (.row l r.2 true)))):=rfl
theorem My (l:List Value) (s:Nat):fO (.row l s true)=some (l,s):=rfl
theorem BM {α:Type} (a:α) (l:List α):(a::l)[0]? =some a:=rfl
def AMS:=A2 @fT<|A2 @L_ret<|A2 @ZU<|A2 @Xl<|A2 @L_seq<|A2 @Xn<|A2 @Xk<|A2 @N1<|A2 @NZ<|A2 @ZV<|A2 @ZW<|A2 @ZY<|A2 @Zw<|A2 @Zx<|A2 @aad<|A2 @Xt<|A2 @Xr<|A2 @aab<|A2 @aaa<|A2 @Xq<|A2 @E_nil<|A2 @NY<|A2 @Gd<|A2 @IN<|A2 @ZJ<|A2 @ZG<|A2 @W8<|A2 @ZH<|A2 @W9<|A2 @Ud<|A2 @Uf<|A2 @Ue<|A2 @Fp<|A2 @D4<|A2 @ZP<|A2 @Uk<|A2 @O_bin<|A2 @O_un<|A2 @ZN<|A2 @Xj<|A2 @O_box<|A2 @Xi<|A2 @Fv<|A2 @ZQ<|A2 @Kv<|A2 @NX<|A2 @IA<|A2 @Kw<|A2 @NV<|A2 @Iz<|A2 @Xd<|A2 @IC<|A2 @Xh<|A2 @IB<|A2 @Xf<|A2 @Uh<|A2 @Ft<|A2 @NW<|A2 @O_len<|A2 @O_min<|A2 @O_max<|A2 @Xc<|A2 @Iy<|A2 @Uj<|A2 @ZO<|A2 @Xe<|A2 @Ul<|A2 @ZR<|A2 @ZS<|A2 @Ui<|A2 @ju<|A2 @ff<|A2 @Xg<|A2 @Uv<|A2 @Xp<|A2 @II<|A2 @UN<|A2 @Ih<|A2 @I_add<|A2 @I_sub<|A2 @I_mul<|A2 @XK<|A2 @I_rem<|A2 @I_eql<|A2 @I_neq<|A2 @I_lss<|A2 @I_leq<|A2 @I_gtr<|A2 @I_geq<|A2 @S_eql<|A2 @S_neq<|A2 @U_not<|A2 @U_neg<|A2 @ZZ<|A2 @Xo<|A2 @W3<|A2 @NP<|A2 @Ny<|A2 @dE<|A2 @Kb<|A2 @Nv<|A2 @Ic<|A2 @Nw<|A2 @Nx<|A2 @Ka<|A2 @Qp<|A2 @IY<|A2 @QR<|A2 @QM<|A2 @QK<|A2 @X_tup<|A2 @VA<|A2 @ME<|A2 @mkF<|A2 @mkM<|A2 @QL<|A2 @Qt<|A2 @TQ<|A2 @au<|A2 @aK<|A2 @ZB<|A2 @ZA<|A2 @W5<|A2 @QC<|A2 @QB<|A2 @Jg<|A2 @st_eq<|A2 @My<|A2 @Th<|A2 @Ni<|A2 @Ti<|A2 @GL<|A2 @J9<|A2 @J8<|A2 @Id<|A2 @U3<|A2 @U4<|A2 @U2<|A2 @aW<|A2 @aa<|A2 @Fs<|A2 @ZK<|A2 @Y0<|A2 @Tp<|A2 @Nm<|A2 @Wk<|A2 @ZF<|A2 @RP_ex<|A2 @RP_re<|A2 @Ub<|A2 @w_eff<|A2 @UR<|A2 @Y9<|A2 @XQ<|A2 @Tx<|A2 @OD<|A2 @Y7<|A2 @XP<|A2 @Wt<|A2 @UX<|A2 @e_box<|A2 @v_box<|A2 @Wq<|A2 @UV<|A2 @EW<|A2 @D8<|A2 @Za<|A2 @XR<|A2 @JZ<|A2 @IK<|A2 @Wr<|A2 @UW<|A2 @Y6<|A2 @XO<|A2 @Nq<|A2 @L4<|A2 @zd<|A2 @y6<|A2 @J0<|A2 @IL<|A2 @No<|A2 @L1<|A2 @HZ<|A2 @FZ<|A2 @Wm<|A2 @US<|A2 @H4<|A2 @F6<|A2 @Wp<|A2 @UU<|A2 @H0<|A2 @F3<|A2 @Wo<|A2 @UT<|A2 @Tu<|A2 @OC<|A2 @EU<|A2 @D7<|A2 @Np<|A2 @L3<|A2 @Wl<|A2 @HY<|A2 @Tw<|A2 @Wn<|A2 @Y8<|A2 @Zb<|A2 @Tv<|A2 @Ze<|A2 @Zc<|A2 @Zd<|A2 @Ns<|A2 @Ws<|A2 @Nr<|A2 @J1<|A2 @v_len<|A2 @v_min<|A2 @v_max<|A2 @UQ<|A2 @UP<|A2 @UO<|A2 @W6<|A2 @W7<|A2 @ZC<|A2 @Fm<|A2 @Ua<|A2 @T9<|A2 @T8<|A2 @Ks<|A2 @NQ<|A2 @CU<|A2 @Kt<|A2 @Vw<|A2 @Vx<|A2 @Ql<|A2 @Te<|A2 @Tg<|A2 @Tf<|A2 @Qb<|A2 @Zy @BM
end Go.Am

namespace Go.Am
open Go Go.Proofs
def PR (Q:Value ->Heap ->Prop) (h:Heap):Option (List Value) ->Prop
 |some vs=>Q (cZ vs) h
 |none=>False
def CY (C:Ctx) (rs:List ResultVar) (Q:Value ->Heap ->Prop) (r:FEnd) (s:FrS) (h':Heap):Prop:=(r= .ended none \/r= .ended (some .ret))/\ s.defers=[]/\ s.pan=none/\ PR Q h' (aR C s.tmps h' rs)
theorem Iw (C:Ctx) (rs:List ResultVar) (Q:Value ->Heap ->Prop) (n:Nat) (f:Nat ->Value) (h:Heap):CY C rs Q (.ended (some .ret)) ⟨T n f,[],none⟩ h↔PR Q h (aR C (T n f) h rs):=by
 simp[CY]
theorem Xa (Q:Value ->Heap ->Prop) (h:Heap) (vs:List Value):PR Q h (some vs)↔Q (cZ vs) h:=Iff.rfl
theorem aw {C:Ctx} {f:FuncId} (fn:Func) {c:Code} {args:List Value} {h:Heap} {Q:Value ->Heap ->Prop} (hA:C.A f=none) (hF:C.F.get f=some fn) (hb:fn.body=some c) (hn:Nat.ble args.length fn.ntmps=true)
  (hw:W (bH C none [.code c] ⟨T fn.ntmps (jt args),[],none⟩ h) (CY C fn.results.toList Q)):CW C f args h Q:=by
 refine CW_of hA hF hb (Nat.le_of_ble_eq_true hn) ?_
 obtain⟨r,s,h',e,h1,h2,h3,h4⟩:=hw
 refine⟨r,s,h',e,h1,h2,h3,?_⟩
 revert h4
 cases aR C s.tmps h' fn.results.toList with
 |none=>exact fun h=>h.elim
 |some vs=>exact fun h=>⟨vs,rfl,h⟩
theorem bk {C:Ctx} {rd:Option Nat} {ops:List Oper} {pl:List PE} {k:List Item} {rs:List Rec} {dst:Option Tmp} {s:FrS} {h:Heap} {Q:FEnd ->FrS ->Heap ->Prop} {f:FuncId} {args:List Value} {P:Value ->Heap ->Prop}
  (hc:CW C f args h P) (hw: ∀v h',P v h' ->W (RP C rd ops pl k rs (s.put dst v) h') Q):W (ZE C rd ops pl k rs dst s (cI C (bH C) f args h)) Q:=by
 obtain⟨v,h',e,hp⟩:=hc
 rw[e,Fm]
 exact hw v h' hp
theorem bR {C:Ctx} {rd:Option Nat} {k:List Item} {s:FrS} {h:Heap} {Q:FEnd ->FrS ->Heap ->Prop} {id:Nat} {o:Array Oper} (q:List (Bool×Nat)) (hq:i7 o.toList=fu o.toList q)
  (hw:W (RP C rd (dU o.toList) (fu (dU o.toList) q) k [] s h) Q):W (bH C rd (.code (.region id o true)::k) s h) Q:=by
 rw[Xm q hq];exact hw
noncomputable def pbc (ops:List Oper) (b:Bool) (i:Nat) (q:List (Bool×Nat)):Option Oper ->List PE
 |some o=>(match b with|true=>PE.ex i o|false=>PE.re i o)::fu ops q
 |none=>fu ops q
theorem ZL (ops:List Oper):fu ops []=[]:=rfl
theorem Xb (ops:List Oper) (b:Bool) (i:Nat) (q:List (Bool×Nat)):fu ops ((b,i)::q)=pbc ops b i q (ops[i]?):=by
 show(match ops[i]? with|some o=>(if b then PE.ex i o else .re i o)::fu ops q|none=>fu ops q)=_
 cases ops[i]? with
 |none=>rfl
 |some o=>cases b<;>rfl
theorem Yc (ops:List Oper) (i:Nat) (q:List (Bool×Nat)) (o:Oper):pbc ops true i q (some o)=PE.ex i o::fu ops q:=rfl
theorem Yb (ops:List Oper) (i:Nat) (q:List (Bool×Nat)) (o:Oper):pbc ops false i q (some o)=PE.re i o::fu ops q:=rfl
theorem VM (a:Nat):a<a+1:=Nat.lt_succ_self a
theorem VL {a b:Nat} (h:a<b):a<b+1:=Nat.lt_succ_of_lt h
theorem RR {h:Heap} {i:Nat} (hk:HOK h) (hi:h.next<=i):js (h.get i)=true:=by rw[hk i hi];rfl
theorem dr {h:Heap} {i:Nat} (x:AObj) (hi:i=h.next):(h.alloc x).get i=some x:=by subst hi;exact Heap.get_alloc_self h x
theorem nt {h:Heap} {i:Nat} (l:List Value) (s:Nat) (b:Bool) (hi:i=h.next):rowAt (h.alloc (.row l s b)) i=some l:=by subst hi;exact fW h l s b
theorem cT (h:Heap) (i:Nat) (l:List Value) (s:Nat) (b:Bool):rowAt (h.set i (.row l s b)) i=some l:=by unfold rowAt;rw[Heap.get_set_self];rfl
theorem cV {h:Heap} {i j:Nat} (x:AObj) (hj:j<i):rowAt (h.set i x) j=rowAt h j:=by unfold rowAt;rw[Heap.get_set_ne _ _ (by omega)]
theorem En {h:Heap} {i j:Nat} (x:AObj) (hj:i<j):rowAt (h.set i x) j=rowAt h j:=by unfold rowAt;rw[Heap.get_set_ne _ _ (by omega)]
theorem am (h:Heap) (i:Nat) (x:AObj):(h.set i x).get i=some x:=Heap.get_set_self h i x
theorem dD {h:Heap} {i j:Nat} (x:AObj) (hj:j<i):(h.set i x).get j=h.get j:=Heap.get_set_ne _ _ (by omega)
theorem BL {h:Heap} {i j:Nat} (x:AObj) (hj:i<j):(h.set i x).get j=h.get j:=Heap.get_set_ne _ _ (by omega)
theorem mS (l:List Value) (o:Nat) (v:Value) (ho:o<l.length):fm l o [v]=some (l.set o v):=by
 unfold fm
 have:Nat.ble (o+1) l.length=true:=Nat.ble_eq_true_of_le ho
 simp only[this,zB]
theorem sB (l vs:List Value) (hl:vs.length=l.length):fm l 0 vs=some vs:=by
 unfold fm
 split
 ·rename_i v
  cases l with
  |nil=>simp at hl
  |cons a l=>
   cases l with
   |nil=>rfl
   |cons b l=>simp at hl
 ·have:Nat.ble (0+vs.length) l.length=true:=Nat.ble_eq_true_of_le (by omega)
  rw[this]
  simp[hl]
theorem vu (k:IntKind) (n:Int):jx (.int k n)=true:=rfl
theorem da (v:Value) (l:List Value):bF (v::l)=match jx v with|true=>bF l|false=>false:=rfl
theorem ja:bF []=true:=rfl
theorem MD (b:Bool):jx (.bool b)=true:=rfl
theorem QF (s:ByteArray):jx (.string s)=true:=rfl
theorem Jj (p:Option Addr) (n m:Nat):jx (.slice p n m)=true:=rfl
theorem QH (p:Option Nat):jx (.map p)=true:=rfl
theorem QG (p:Option Addr):jx (.pointer p)=true:=rfl
theorem MC (f:Fn) (a b:Array Value):jx (.func f a b)=true:=rfl
def LS {α:Type} (h:Heap) (v:Value) (xs:List α) (f:α ->List Value) (s:Nat):Prop:=
 (xs=[]/\ ∃p c,v= .slice p 0 c) \/ ∃b o sp c row,v= .slice (some ⟨b,o,sp⟩) xs.length c/\ rowAt h b=some row/\ ∀(i:Nat) x,xs[i]? =some x ->aA row (o+i*s) s=some (f x)/\ ∀j,j<s ->row[o+i*s+j]? =(f x)[j]?
theorem LS.fr {α:Type} {h h':Heap} {v:Value} {xs:List α} {f:α ->List Value} {s:Nat} (q:LS h v xs f s) (hk:HOK h) (fr:Fr h h'):LS h' v xs f s:=by
 rcases q with q|⟨b,o,sp,c,row,h1,h2,h3⟩
 ·exact .inl q
 ·exact .inr ⟨b,o,sp,c,row,h1,fr.row' hk h2,h3⟩
theorem LS.len {α:Type} {h:Heap} {v:Value} {xs:List α} {f:α ->List Value} {s:Nat} (q:LS h v xs f s): ∃p c,v= .slice p xs.length c:=by
 rcases q with⟨rfl,p,c,rfl⟩|⟨b,o,sp,c,row,rfl,_⟩
 ·exact⟨p,c,rfl⟩
 ·exact⟨_,_,rfl⟩
theorem sX {α:Type} {f:α ->List Value} {s:Nat} (hf: ∀x,(f x).length=s): ∀(xs:List α) (i:Nat) (x:α),xs[i]? =some x ->((xs.flatMap f).drop (i*s)).take s=f x
 |[],i,x,h=>by simp at h
 |y::ys,0,x,h=>by
  simp at h;subst h
  simp only[List.flatMap_cons,Nat.zero_mul,List.drop_zero]
  rw[List.take_append_of_le_length (by rw[hf];exact Nat.le_refl _),List.take_of_length_le (by rw[hf];exact Nat.le_refl _)]
 |y::ys,i+1,x,h=>by
  have:=sX hf ys i x (by simpa using h)
  rw[List.flatMap_cons,Nat.add_mul,Nat.one_mul,Nat.add_comm,<-List.drop_drop,List.drop_append_of_le_length (by rw[hf];exact Nat.le_refl _),List.drop_of_length_le (l:=f y) (by rw[hf];exact Nat.le_refl _),List.nil_append]
  exact this
theorem gP {α:Type} {f:α ->List Value} {s:Nat} (hf: ∀x,(f x).length=s) (xs:List α):(xs.flatMap f).length=xs.length*s:=by
 induction xs with
 |nil=>simp
 |cons x xs ih=>simp[hf,ih,Nat.add_mul,Nat.add_comm]
theorem LS.of_row {α:Type} {h:Heap} {b c s:Nat} {sp:Option Nat} {xs:List α} {f:α ->List Value} (hf: ∀x,(f x).length=s) (hr:rowAt h b=some (xs.flatMap f)):LS h (.slice (some ⟨b,0,sp⟩) xs.length c) xs f s:=by
 refine .inr ⟨b,0,sp,c,_,rfl,hr,fun i x hx=> ?_⟩
 have h1:=sX hf xs i x hx
 have hi:=(List.getElem?_eq_some_iff.1 hx).1
 have h2:i*s+s<=(xs.flatMap f).length:=by
  rw[gP hf,<-Nat.succ_mul];exact Nat.mul_le_mul_right s hi
 refine⟨?_,fun j hj=> ?_⟩
 ·rw[Nat.zero_add,eP h2,h1]
 ·rw[Nat.zero_add,<-h1,List.getElem?_take,if_pos hj,List.getElem?_drop]
theorem SL.ls {α:Type} {N:Nat} {h:Heap} {v:Value} {s:Nat} {xs:List α} {f:α ->List Value} (hf: ∀x,(f x).length=s) (q:SL N h v (xs.flatMap f) s xs.length):LS h v xs f s:=by
 rcases q with⟨rfl,h1,h2⟩|⟨b,rfl,_,_,h3,_⟩
 ·exact .inl ⟨List.eq_nil_of_length_eq_zero h2,_,_,rfl⟩
 ·exact LS.of_row hf (by unfold rowAt;rw[h3];rfl)
def aQ (n:Int):List Value:=[.int .i64 n]
theorem aP (n:Int):(aQ n).length=1:=rfl
def cL (x lo hi:Int):Bool:=decide (lo<=x/\ x<=hi)
section
variable {α β:Type} (a d:α) (l m:List α) (n:Nat) (f:α ->β)
theorem Oe:(a::l).getD 0 d=a:=rfl
theorem Of:(a::l).getD (n+1) d=l.getD n d:=rfl
theorem UF:(a::l)[n+1]? =l[n]? :=rfl
theorem UC:(a::l).map f=f a::l.map f:=rfl
theorem UB:([]:List α).map f=[]:=rfl
theorem Og:l.drop 0=l:=rfl
theorem Oh:(a::l).drop (n+1)=l.drop n:=rfl
theorem Od:(a::l).take (n+1)=a::l.take n:=rfl
theorem Oc:l.take 0=[]:=rfl
theorem UE:(a::l).length=l.length+1:=rfl
theorem UD:([]:List α).length=0:=rfl
theorem UH:(a::l)++m=a::(l++m):=rfl
theorem UG:[]++m=m:=rfl
end
theorem Zn:(true==true)=true:=rfl
theorem Zp:(false==true)=false:=rfl
theorem Zo:(true==false)=false:=rfl
theorem Zq:(false==false)=true:=rfl
def AMH:=A2 @Iw<|A2 @Xa<|A2 @ZL<|A2 @Xb<|A2 @Yc<|A2 @Yb<|A2 @VM<|A2 @VL<|A2 @RR<|A2 @dr<|A2 @cP<|A2 @cT<|A2 @cV<|A2 @En<|A2 @cY<|A2 @nt<|A2 @am<|A2 @dD<|A2 @BL<|A2 @mS<|A2 @sB<|A2 @da<|A2 @ja<|A2 @vu<|A2 @MD<|A2 @QF<|A2 @Jj<|A2 @QH<|A2 @QG<|A2 @MC<|A2 @HOK.alloc<|A2 @HOK.set<|A2 @Heap.next_alloc<|A2 @Heap.next_set<|A2 @aP<|A2 @Nat.le_refl<|A2 @Nat.add_zero<|A2 @Nat.zero_add<|A2 @Nat.zero_lt_succ<|A2 @Oe<|A2 @Of<|A2 @UF<|A2 @UC<|A2 @UB<|A2 @Og<|A2 @Oh<|A2 @Od<|A2 @Oc<|A2 @UE<|A2 @UD<|A2 @UH<|A2 @UG<|A2 @Zn<|A2 @Zp<|A2 @Zo<|A2 @Zq<|A2 @Bool.not_true<|A2 @Bool.not_false @Nat.beq_refl
def AA:=A2 @AMS<|A2 @AMH @AY
end Go.Am

namespace Go.Am
open Go Go.Proofs
theorem VC {α:Type} (pre:List α) (x:α) (rest:List α):(pre++x::rest)[pre.length]? =some x:=by simp
theorem LS.open {α:Type} {h:Heap} {v:Value} {xs:List α} {f:α ->List Value} {s:Nat} (q:LS h v xs f s):
  ∃p c,v= .slice p xs.length c/\ (xs=[] \/ ∃b o sp row,p=some ⟨b,o,sp⟩/\ rowAt h b=some row/\ ∀(i:Nat) x,xs[i]? =some x ->aA row (o+i*s) s=some (f x)/\ ∀j,j<s ->row[o+i*s+j]? =(f x)[j]?):=by
 rcases q with⟨rfl,p,c,rfl⟩|⟨b,o,sp,c,row,rfl,h1,h2⟩
 ·exact⟨p,c,rfl, .inl rfl⟩
 ·exact⟨_,c,rfl, .inr ⟨b,o,sp,row,rfl,h1,h2⟩⟩
def cK (l:List Int):Int:=l.foldl (· + ·) 0
theorem Gb (l:List Int) (x:Int):cK (l++[x])=cK l+x:=by simp[cK]
theorem Mi {α:Type} (l:List α) (x:α) (r:List α):l++x::r=(l++[x])++r:=by simp
theorem M4 (l:List Int): ∀a:Int,l.foldl (· + ·) a=a+l.foldl (· + ·) 0:=by
 induction l with
 |nil=>intro a;simp
 |cons x l ih=>intro a;simp only[List.foldl_cons];rw[ih (a+x),ih (0+x)];omega
theorem L8 (x:Int) (l:List Int):cK (x::l)=x+cK l:=by
 unfold cK;rw[List.foldl_cons,M4];omega
theorem oS {B:Int}: ∀{l:List Int},(∀x∈l,0<=x/\ x<=B) ->0<=cK l/\ cK l<=B*l.length
 |[],_=>by simp[cK]
 |x::l,hb=>by
  have h1:=hb x List.mem_cons_self
  have h2:=oS (l:=l) fun y hy=>hb y (List.mem_cons_of_mem _ hy)
  rw[L8]
  have e:B*((x::l).length:Int)=B*l.length+B:=by simp[Int.mul_add]
  rw[e];omega
theorem bp {i n:Nat} (h:i<n) (hn:n<=1000):IntKind.i64.wrap ((i:Int)+1)=((i+1:Nat):Int):=by rw[bG (by omega) (by omega)];omega
theorem cX {i n:Nat} (h:i<n):decide ((i:Int)<(n:Int))=true:=by simp;omega
theorem dL (n:Nat):decide ((n:Int)<(n:Int))=false:=by simp
theorem Km {C:Ctx} {t u:TypeId} {ts:List TypeId} (ht:AppT C t u 1) {h0 h1:Heap} {out v:Value} {l:List Value} {n:Nat} (f:Fr h0 h1) (hp:0<h1.next) (q:SL h0.next h1 out l 1 n) (hv:jx v=true) (hn:n+1<=4294967296):
  ∃h',ck C (t::u::ts) out (.slice (some ⟨h1.next,0,some 1⟩) 1 1) (h1.alloc (.row [v] 1 true))=some (.slice (some ⟨h1.next+1,0,some 1⟩) (n+1) (n+1),h')/\ SL h0.next h' (.slice (some ⟨h1.next+1,0,some 1⟩) (n+1) (n+1)) (l++[v]) 1 (n+1)/\ Fr h0 h'/\ h'.next=h1.next+2/\ ∀i,i<h1.next ->ay out≠some i ->h'.get i=h1.get i:=by
 have q':SL h0.next (h1.alloc (.row [v] 1 true)) out l 1 n:=q.fr f.ok ((Fr.refl f.ok).alloc _)
 obtain⟨h',e,q2,f2,n2,g2⟩:=yn (ts:=ts) ht (f.alloc (.row [v] 1 true)) (by simp) q' (x:= .slice (some ⟨h1.next,0,some 1⟩) 1 1) (new:=[v]) (m:=0) rfl (by
  show ae (rowAt _ h1.next) (fun cells=>aA cells 0 (1*1))=_
  rw[fW];rfl) (by simp[da,hv,ja]) rfl hn
 exact⟨h',e,q2,f2,by rw[n2];simp,fun i hi hb=>by rw[g2 i (by simp;omega) hb,Heap.get_alloc_ne _ _ (by omega)]⟩
theorem bI {α:Type} {l:List α} {i:Nat} {x:α} (h:l[i]? =some x):l.take (i+1)=l.take i++[x]:=by
 rw[List.take_add_one,h];rfl
section
variable (k:IntKind) (n:Int) (b:Bool) (s:ByteArray) (p:Option Addr) (m c:Nat) (r:Option Nat) (l:List Value)
theorem Qf:dq (.int k n) (.int k n)=true:=jD rfl
theorem Mq:dq (.bool b) (.bool b)=true:=jD rfl
theorem Qc:dq (.string s) (.string s)=true:=jD rfl
theorem cR:dq (.slice p m c) (.slice p m c)=true:=jD rfl
theorem Qd:dq (.pointer p) (.pointer p)=true:=jD rfl
theorem Qe:dq (.map r) (.map r)=true:=jD rfl
theorem P9:fj (.int k n)=true:=rfl
theorem Mo:fj (.bool b)=true:=rfl
theorem P6:fj (.string s)=true:=rfl
theorem I0:fj (.slice p m c)=true:=rfl
theorem P7:fj (.pointer p)=true:=rfl
theorem P8:fj (.map r)=true:=rfl
theorem all_c (v:Value):(v::l).all fj=(fj v&&l.all fj):=rfl
theorem all_n:([]:List Value).all fj=true:=rfl
theorem Qg (h:l.all fj=true):dq (.agg ⟨l⟩) (.agg ⟨l⟩)=true:=Dg h
theorem Zs:(true&&true)=true:=rfl
end
def dk:=A2 @Qf<|A2 @Mq<|A2 @Qc<|A2 @cR<|A2 @Qd<|A2 @Qe<|A2 @P9<|A2 @Mo<|A2 @P6<|A2 @I0<|A2 @P7<|A2 @P8<|A2 @all_c<|A2 @all_n<|A2 @Qg<|A2 @Zs<|A2 @kX @Mr
structure RK (h h':Heap):Prop where
 ok:HOK h'
 next:h.next<=h'.next
 row: ∀i l s o,h.get i=some (.row l s o) ->h'.get i=some (.row l s o)
theorem RK.rowAt {h h':Heap} (f:RK h h') {i:Nat} {l:List Value} (hr:rowAt h i=some l):rowAt h' i=some l:=by
 unfold Am.rowAt at hr⊢
 obtain⟨o,ho,h1⟩:=ab hr
 cases o<;>simp[Dh]at h1
 subst h1
 rw[f.row _ _ _ _ ho];rfl
theorem LS.rk {α:Type} {h h':Heap} {v:Value} {xs:List α} {f:α ->List Value} {s:Nat} (q:LS h v xs f s) (fr:RK h h'):LS h' v xs f s:=by
 rcases q with q|⟨b,o,sp,c,row,h1,h2,h3⟩
 ·exact .inl q
 ·exact .inr ⟨b,o,sp,c,row,h1,fr.rowAt h2,h3⟩
theorem yW (k:IntKind) (a b:Int) (l r:List Value):bP (.int k a::l) (.int k b::r)=if a=b then bP l r else some false:=by
 show(match dH (.int k a) (.int k b)with|some true=>bP l r|some false=>some false|none=>none)=_
 simp only[dH,if_true]
 by_cases h:a=b
 ·subst h;simp
 ·have:(a==b)=false:=by simpa using h
  rw[this,if_neg h]
theorem yV:bP [] []=some true:=rfl
theorem nV {C:Ctx} {t k e:TypeId} {z key:Value} {h:Heap} {m:Nat} {es:List MapEntry} {c:Nat} {ok:Bool} (hu:C.und t=some (.map k e)) (hf:iP C k key=true) (hz:C.zero e=some z) (hm:h.get m=some (.map es c)):
  mF C t (.map (some m)) key ok h=ae (jA key es 0) (tP z ok):=by
 unfold mF;rw[hu];simp only[au,jo,hf,aK,hz,je,hm,Bm]
theorem C3 {C:Ctx} {t k e:TypeId} {key v:Value} {h:Heap} {m:Nat} {es:List MapEntry} {c:Nat} (hu:C.und t=some (.map k e)) (hf:iP C k key=true) (hm:h.get m=some (.map es c)) (hn:jA key es 0=some none):
  dK C t (.map (some m)) key v h=some (h.set m (.map (es++[{key:=key,val:=v,born:=c}]) (c+1))):=by
 unfold dK;rw[hu];simp only[au,jo,hf,aK,Dt,hm,Bm,hn,qT]
theorem xo (z v:Value) (j:Nat):tP z true (some (j,v))=some (.tuple ⟨[v, .bool true]⟩):=rfl
theorem uB (z:Value):tP z true none=some (.tuple ⟨[z, .bool false]⟩):=rfl
theorem SL.weak {N N':Nat} {h:Heap} {v:Value} {l:List Value} {s n:Nat} (q:SL N h v l s n) (hn:N'<=N):SL N' h v l s n:=by
 rcases q with q|⟨b,e,h1,h2,h3⟩
 ·exact .inl q
 ·exact .inr ⟨b,e,h1,by omega,h3⟩
theorem C4 {l:List Value} {o n:Nat} {r:List Value} (h:aA l o n=some r):r=(l.drop o).take n/\ r.length=n:=by
 unfold aA at h
 cases hb:Nat.beq ((l.drop o).take n).length n with
 |true=>rw[hb]at h;simp at h;subst h;exact⟨rfl,Nat.eq_of_beq_eq_true hb⟩
 |false=>rw[hb]at h;simp at h
theorem L7 {l:List Value} {o n m:Nat} {r q:List Value} (h:aA l o n=some r) (h':aA l (o+n) m=some q):aA l o (n+m)=some (r++q):=by
 obtain⟨rfl,h1⟩:=C4 h
 obtain⟨rfl,h2⟩:=C4 h'
 have e:(l.drop o).take n++(l.drop (o+n)).take m=(l.drop o).take (n+m):=by
  rw[List.take_add,List.drop_drop]
 rw[e]
 have hl:((l.drop o).take (n+m)).length=n+m:=by rw[<-e,List.length_append,h1,h2]
 unfold aA
 rw[hl]
 simp
theorem DW {α:Type} {row:List Value} {f:α ->List Value} {s:Nat}: ∀(xs:List α) (x0:α) (o:Nat),(∀(i:Nat) x,(x0::xs)[i]? =some x ->aA row (o+i*s) s=some (f x)) ->aA row o ((xs.length+1)*s)=some ((x0::xs).flatMap f)
 |[],x0,o,h=>by
  have:=h 0 x0 rfl
  simpa using this
 |x1::xs,x0,o,h=>by
  have h0:=h 0 x0 rfl
  have ih:=DW xs x1 (o+s) fun i x hx=>by
   have:=h (i+1) x (by simpa using hx)
   rw[Nat.add_mul,Nat.one_mul]at this
   rw[show o+s+i*s=o+(i*s+s)by omega]
   exact this
  have h0':aA row o s=some (f x0):=by simpa using h0
  have:=L7 h0' ih
  rw[List.length_cons,show(xs.length+1+1)*s=s+(xs.length+1)*s by rw[Nat.add_mul (xs.length+1),Nat.one_mul,Nat.add_comm]]
  exact this
theorem LS.cells {α:Type} {h:Heap} {v:Value} {x0:α} {xs:List α} {f:α ->List Value} {s:Nat} (q:LS h v (x0::xs) f s):bf h s (xs.length+1) v=some ((x0::xs).flatMap f):=by
 rcases q with⟨e,_⟩|⟨b,o,sp,c,row,rfl,h1,h2⟩
 ·cases e
 ·show ae (rowAt h b) _=_
  rw[h1]
  exact DW xs x0 o fun i x hx=>(h2 i x hx).1
theorem LS.cell {h:Heap} {p:Option Addr} {n c:Nat} {xs:List Int} (q:LS h (.slice p n c) xs aQ 1) {i:Nat} {x:Int} (hx:xs[i]? =some x): ∃b o sp row,p=some ⟨b,o,sp⟩/\ rowAt h b=some row/\ row[o+i]? =some (.int .i64 x):=by
 rcases q with⟨rfl,_⟩|⟨b,o,sp,cp,row,e,h1,h2⟩
 ·simp at hx
 ·simp at e
  obtain⟨rfl,_,_⟩:=e
  refine⟨b,o,sp,row,rfl,h1,?_⟩
  have:=(h2 i x hx).2 0 (by omega)
  simpa[aQ]using this
theorem HT {α:Type} {f:α ->List Value} {s:Nat} (hf: ∀x,(f x).length=s): ∀(xs:List α) (i:Nat) (x':α),i<xs.length ->(xs.flatMap f).take (i*s)++(f x'++(xs.flatMap f).drop (i*s+s))=(xs.set i x').flatMap f
 |[],i,x',h=>by simp at h
 |y::ys,0,x',h=>by
  simp only[List.flatMap_cons,List.set_cons_zero,Nat.zero_mul,Nat.zero_add,List.take_zero,List.nil_append]
  rw[List.drop_append_of_le_length (by rw[hf];exact Nat.le_refl _),List.drop_of_length_le (l:=f y) (by rw[hf];exact Nat.le_refl _),List.nil_append]
 |y::ys,i+1,x',h=>by
  have ih:=HT hf ys i x' (by simpa using h)
  have e1:(i+1)*s=(f y).length+i*s:=by rw[hf,Nat.add_mul];omega
  have e2:(i+1)*s+s=(f y).length+(i*s+s):=by rw[e1];omega
  simp only[List.flatMap_cons,List.set_cons_succ]
  rw[e2,e1,<-ih]
  rw[List.take_length_add_append,List.drop_length_add_append,List.append_assoc]
theorem C2 {α:Type} {f:α ->List Value} {s:Nat} (hf: ∀x,(f x).length=s) (hs:2<=s) {xs:List α} {i:Nat} (x':α) (hi:i<xs.length):fm (xs.flatMap f) (i*s) (f x')=some ((xs.set i x').flatMap f):=by
 have hl:i*s+(f x').length<=(xs.flatMap f).length:=by
  rw[gP hf,hf,<-Nat.succ_mul];exact Nat.mul_le_mul_right s hi
 have:Nat.ble (i*s+(f x').length) (xs.flatMap f).length=true:=Nat.ble_eq_true_of_le hl
 have e:=HT hf xs i x' hi
 have h2:=hf x'
 rw[<-e]
 unfold fm
 split
 ·rename_i v he;rw[he]at h2;simp at h2;omega
 ·rw[this];rw[hf]
section
variable {C:Ctx} {rd:Option Nat} {ops l:List Oper} {k:List Item} {s:FrS} {h:Heap} {dst:Option Tmp} {ty:TypeId} {pos:String} {aft:Array Edge}
theorem tv (x:Operand):RO C rd ops (⟨dst, .panic x,ty,pos,aft,none⟩::l) k s h=Ku C rd ops l k (sO s h (ev s.tmps x)):=jL _ rfl
theorem la (t:TypeId) (v:Value):Ku C rd ops l k (sO s h (.iface t v))=some (.panic (.iface t v),s,h):=rfl
theorem Fu (f:Operand) (xs:List Operand) (ts:Array TypeId):RO C none ops (⟨dst, .defer ⟨.value f,⟨xs⟩,ts⟩,ty,pos,aft,none⟩::l) k s h=Ku C none ops l k (om dst (xs.map (ev s.tmps)) s h (ev s.tmps f)):=jL _ rfl
theorem yq (fn:Fn) (first cap:List Value) (args:List Value):Ku C rd ops l k (om none args s h (.func fn ⟨first⟩ ⟨cap⟩))=RO C rd ops l k ⟨s.tmps,{target:= .fn fn ⟨cap⟩,args:=⟨first++args⟩}::s.defers,s.pan⟩ h:=rfl
theorem yu {d n:Nat} {f:Nat ->Value} {D:List Deferred} (v:Value) (ts:Array TypeId):RO C none ops (⟨some d, .call ⟨.builtin .recover,⟨[]⟩,ts⟩,ty,pos,aft,none⟩::l) k ⟨T n f,D,some v⟩ h=RO C none ops l k ⟨T n (upd f d v),D,none⟩ h:=by
 rw[jL _ rfl]
 show Ku C none ops l k (some (.ok ⟨(FrS.put ⟨T n f,D,some v⟩ (some d) v).tmps,D,none⟩ h))=_
 rw[Fs];rfl
theorem uJ {d n:Nat} {f:Nat ->Value} {D:List Deferred} (ts:Array TypeId):RO C none ops (⟨some d, .call ⟨.builtin .recover,⟨[]⟩,ts⟩,ty,pos,aft,none⟩::l) k ⟨T n f,D,none⟩ h=RO C none ops l k ⟨T n (upd f d .nilIface),D,none⟩ h:=by
 rw[jL _ rfl]
 show Ku C none ops l k (some (.ok (FrS.put ⟨T n f,D,none⟩ (some d) .nilIface) h))=_
 rw[Fs];rfl
end
theorem kc (C:Ctx) (rs:List ResultVar) (Q:Value ->Heap ->Prop) (n:Nat) (f:Nat ->Value) (h:Heap):CY C rs Q (.ended none) ⟨T n f,[],none⟩ h↔PR Q h (aR C (T n f) h rs):=by
 simp[CY]
def CX (C:Ctx) (f:FuncId) (args:List Value) (h:Heap) (Q R:Value ->Heap ->Prop):Prop:=
 (∃v h',cI C (bH C) f args h=some (.ret v h' none)/\ Q v h') \/ ∃v h',cI C (bH C) f args h=some (.panic v h')/\ R v h'
def Cw (C:Ctx) (rs:List ResultVar) (Q R:Value ->Heap ->Prop) (r:FEnd) (s:FrS) (h':Heap):Prop:=CY C rs Q r s h' \/ ∃v,r= .panic v/\ s.defers=[]/\ R v h'
theorem NU (C:Ctx) (rs:List ResultVar) (Q R:Value ->Heap ->Prop) (n:Nat) (f:Nat ->Value) (h:Heap):Cw C rs Q R (.ended (some .ret)) ⟨T n f,[],none⟩ h↔PR Q h (aR C (T n f) h rs):=by
 simp[Cw,Iw]
theorem jg (C:Ctx) (rs:List ResultVar) (Q R:Value ->Heap ->Prop) (n:Nat) (f:Nat ->Value) (h:Heap):Cw C rs Q R (.ended none) ⟨T n f,[],none⟩ h↔PR Q h (aR C (T n f) h rs):=by
 simp[Cw,kc]
theorem eJ (C:Ctx) (rs:List ResultVar) (Q R:Value ->Heap ->Prop) (v:Value) (n:Nat) (f:Nat ->Value) (p:Option Value) (h:Heap):Cw C rs Q R (.panic v) ⟨T n f,[],p⟩ h↔R v h:=by
 simp[Cw,CY]
theorem CG {C:Ctx} {f:FuncId} (fn:Func) {c:Code} {args:List Value} {h:Heap} {Q R:Value ->Heap ->Prop} (hA:C.A f=none) (hF:C.F.get f=some fn) (hb:fn.body=some c) (hn:Nat.ble args.length fn.ntmps=true)
  (hw:W (bH C none [.code c] ⟨T fn.ntmps (jt args),[],none⟩ h) (Cw C fn.results.toList Q R)):CX C f args h Q R:=by
 obtain⟨r,s,h',e,hp|⟨v,rfl,hd,hR⟩⟩:=hw
 ·obtain⟨v,h1,e1,q⟩:=aw (Q:=Q) fn hA hF hb hn ⟨r,s,h',e,hp⟩
  exact .inl ⟨v,h1,e1,q⟩
 ·refine .inr ⟨v,h',?_,hR⟩
  rw[vU args h hA hF hb (Nat.le_of_ble_eq_true hn),e]
  simp only[finish,au,gB,hd]
  rfl
theorem tu {C:Ctx} {rd:Option Nat} {ops l:List Oper} {k:List Item} {dst:Option Tmp} {s:FrS} {h:Heap} {Q:FEnd ->FrS ->Heap ->Prop} {f:FuncId} {args:List Value} {P R:Value ->Heap ->Prop}
  (hc:CX C f args h P R) (hw: ∀v h',P v h' ->W (RO C rd ops l k (s.put dst v) h') Q) (hr: ∀v h',R v h' ->Q (.panic v) s h'):W (ZI C rd ops l k dst s (cI C (bH C) f args h)) Q:=by
 rcases hc with⟨v,h',e,hp⟩|⟨v,h',e,hp⟩
 ·rw[e,Fp];exact hw v h' hp
 ·rw[e,D4];exact⟨_,_,_,rfl,hr v h' hp⟩
theorem nI {C:Ctx} {g:FuncId} (fn:Func) {c:Code} {args:List Value} {pan:Option Value} {h:Heap} {Q:Value ->Heap ->Prop} (hF:C.F.get g=some fn) (hb:fn.body=some c) (hn:Nat.ble args.length fn.ntmps=true)
  (hw:W (bH C none [.code c] ⟨T fn.ntmps (jt args),[],pan⟩ h) (CY C fn.results.toList Q)): ∃v h',eo C (bH C) g args h pan=some (.ret v h' none)/\ Q v h':=by
 obtain⟨r,s,h',e,hr,hd,hp,hq⟩:=hw
 have hm:gB r=some none:=by rcases hr with rfl|rfl<;>rfl
 revert hq
 cases hrr:aR C s.tmps h' fn.results.toList with
 |none=>exact fun h=>h.elim
 |some vs=>
  intro hq
  refine⟨cZ vs,h',?_,hq⟩
  unfold eo
  rw[hF]
  simp only[au,yl,hb,G8 args fn.ntmps (Nat.le_of_ble_eq_true hn),e,hd,qY,aK,hm,te,hrr,hp]
theorem jf {C:Ctx} {f g:FuncId} {fn:Func} {c:Code} {args:List Value} {h h1 h2:Heap} {r:FEnd} {s:FrS} {m:Option Value} {cap ar:List Value} {v:Value} {vs:List Value} (hA:C.A f=none) (hF:C.F.get f=some fn) (hb:fn.body=some c) (hn:Nat.ble args.length fn.ntmps=true)
  (e:bH C none [.code c] ⟨T fn.ntmps (jt args),[],none⟩ h=some (r,s,h1)) (hm:gB r=some m) (hd:s.defers=[{target:= .fn (.func g) ⟨cap⟩,args:=⟨ar⟩}]) (hp:s.pan=none) (hg:C.A g=none)
  (e2:eo C (bH C) g (ar++cap) h1 m=some (.ret v h2 none)) (hr:aR C s.tmps h2 fn.results.toList=some vs):cI C (bH C) f args h=some (.ret (cZ vs) h2 none):=by
 rw[vU args h hA hF hb (Nat.le_of_ble_eq_true hn),e]
 simp only[finish,au,hm,hd]
 have:ie C (bH C) [{target:= .fn (.func g) ⟨cap⟩,args:=⟨ar⟩}] m h1=some (none,h2):=by
  show ae (dJ C (bH C) _ m h1) _=_
  have e3:dJ C (bH C) {target:= .fn (.func g) ⟨cap⟩,args:=⟨ar⟩} m h1=some (none,h2):=by
   unfold dJ
   simp only[hg,e2,au,GN]
  rw[e3]
  rfl
 simp only[this,au,hr,hp]
theorem dI {C:Ctx} {t u:TypeId} {ts:List TypeId} {w:Nat} (ht:AppT C t u w) {N:Nat} {h1:Heap} {out x:Value} {l new:List Value} {n m:Nat} (hk:HOK h1) (hN:N<=h1.next) (hp:0<h1.next) (q:SL N h1 out l w n)
  (hx:i8 x=some (m+1)) (hc:bf h1 w (m+1) x=some new) (h1':bF new=true) (hl:new.length=(m+1)*w) (hn:n+(m+1)<=4294967296):
  ∃h',ck C (t::u::ts) out x h1=some (aG w (n+(m+1)) (n+(m+1)) h1.next,h')/\ SL N h' (aG w (n+(m+1)) (n+(m+1)) h1.next) (l++new) w (n+(m+1))/\ HOK h'/\ h'.next=h1.next+1/\ ∀i,i<h1.next ->ay out≠some i ->h'.get i=h1.get i:=by
 have f:Fr ⟨0, .nil⟩ h1:=⟨hk,Nat.zero_le _,fun i hi=>absurd hi (Nat.not_lt_zero _)⟩
 obtain⟨h',e,q',f',n',g'⟩:=yn (ts:=ts) ht f hp (q.weak (Nat.zero_le _)) hx hc h1' hl hn
 refine⟨h',e,?_,f'.ok,n',g'⟩
 rcases q' with⟨e',_⟩|⟨b,e',a1,a2,a3⟩
 ·simp[aG]at e'
 ·refine .inr ⟨b,e',a1,?_,a3⟩
  simp[aG]at e'
  omega
def Rows (h:Heap) (us:List Value) (Y:List (List Int)):Prop:=us.length=Y.length/\ ∀(k:Nat) x,Y[k]? =some x -> ∃u,us[k]? =some u/\ LS h u x aQ 1
def jB (v:Value):List Value:=[v]
theorem jU (v:Value):(jB v).length=1:=rfl
theorem yd (us:List Value):us.flatMap jB=us:=by
 induction us with
 |nil=>rfl
 |cons u us ih=>rw[List.flatMap_cons,ih];rfl
section
variable {C:Ctx} {rd:Option Nat} {k:List Item} {s:FrS} {h:Heap} {Q:FEnd ->FrS ->Heap ->Prop}
theorem pW (f:Operand) (params:Array Tmp) (assign body:Code):bH C rd (.code (.rangeFunc f params assign body)::k) s h=kF C (bH C) rd params.toList assign body k s h (ev s.tmps f):=by rw[gX];rfl
theorem zS {l:Nat} {r:ALoop} (hg:h.get l=some (.loop r)) (hr:pt r.state=true):bH C (some l) (.beginRound::k) s h=bH C (some l) k s (h.set l (.loop (r.turn .busy r.pending))):=by
 rw[gX]
 show Ek (bH C) (some l) k s h=_
 unfold Ek
 simp only[au,hg,km,hr,aK]
theorem W4 {g:FuncId} {first cap:List Value} {params:List Tmp} {assign body:Code} {P:Value ->Heap ->Prop}
  (hc:CW C g (first++[.func (.yield (h.next+1)) ⟨[]⟩ ⟨[]⟩]++cap) ((h.alloc (.deferred true)).alloc (.loop (iN s.tmps params assign body h.next))) P)
  (hw: ∀v h',P v h' -> ∃r,h'.get (h.next+1)=some (.loop r)/\ BA r.state=false/\
   W (bH C none (kQ r.pending k) (s.mark [{target:= .collected h.next,args:=⟨[]⟩}]) (h'.set (h.next+1) (.loop (r.turn .exhausted r.pending)))) Q):
  W (kF C (bH C) none params assign body k s h (.func (.func g) ⟨first⟩ ⟨cap⟩)) Q:=by
 obtain⟨v,h',e,hp⟩:=hc
 obtain⟨r,hg,hb,hw⟩:=hw v h' hp
 have:kF C (bH C) none params assign body k s h (.func (.func g) ⟨first⟩ ⟨cap⟩)=bH C none (kQ r.pending k) (s.mark [{target:= .collected h.next,args:=⟨[]⟩}]) (h'.set (h.next+1) (.loop (r.turn .exhausted r.pending))):=by
  unfold kF
  simp only[pJ,au,dY,e,uI,vP,hg,km,hb,Bool.not_false,aK]
 rw[this]
 exact hw
theorem rR {g:FuncId} {first cap:List Value} {params:List Tmp} {assign body:Code} {P:ALoop ->Value ->Heap ->Prop}
  (hc: ∀R,R=iN s.tmps params assign body h.next ->CW C g (first++[.func (.yield (h.next+1)) ⟨[]⟩ ⟨[]⟩]++cap) ((h.alloc (.deferred true)).alloc (.loop R)) (P R))
  (hw: ∀R,R=iN s.tmps params assign body h.next -> ∀v h',P R v h' -> ∃r,h'.get (h.next+1)=some (.loop r)/\ BA r.state=false/\
   W (bH C none (kQ r.pending k) (s.mark [{target:= .collected h.next,args:=⟨[]⟩}]) (h'.set (h.next+1) (.loop (r.turn .exhausted r.pending)))) Q):
  W (kF C (bH C) none params assign body k s h (.func (.func g) ⟨first⟩ ⟨cap⟩)) Q:=W4 (hc _ rfl) (hw _ rfl)
theorem zQ (l:Nat) (args:List Value):iy C (.func (.yield l) #[] #[]) args h=jO (bH C) l args h:=by
 simp[iy,dY]
theorem uQ {l:Nat} {args:List Value} {r:ALoop} {P:Bool ->Heap ->Prop} (hg:h.get l=some (.loop r)) (hn:args.length=r.params.length)
  (hw:W (bH C (some l) [.code r.assign, .beginRound, .code r.body] ⟨ua r.params args r.tmps,[],none⟩ h) fun e s h'=> ∃j x,e= .ended j/\ s.defers=[]/\ h'.get l=some (.loop x)/\ P j.isNone (h'.set l (.loop (x.turn (gK j) j)))):
  ∃b h',jO (bH C) l args h=some (.ret (.bool b) h' none)/\ P b h':=by
 obtain⟨e,s,h',ew,j,x,rfl,hd,hx,hp⟩:=hw
 refine⟨_,_,?_,hp⟩
 have hn':Nat.beq args.length r.params.length=true:=by rw[hn];exact Nat.beq_refl _
 unfold jO
 simp only[hg,au,km,hn',aK,ew,FV,Bz,hd,qY,hx]
end
theorem nR (τ:List (List Value)) (p:Option Value) (d:Deferred):FrS.mark ⟨τ,[],p⟩ [d]=⟨τ,[d],p⟩:=rfl
theorem lQ (k:List Item):kQ none k=k:=rfl
theorem JD (c:Code) (k:List Item):kQ (some c) k= .code c::k:=rfl
theorem oW (n:Nat) (f:Nat ->Value) (t:Tmp) (v:Value):ua [t] [v] (T n f)=T n (upd f t v):=by
 have:=Fs n f [] none t v
 exact congrArg FrS.tmps this
theorem v7 (C:Ctx) (rs:List ResultVar) (Q:Value ->Heap ->Prop) (n:Nat) (f:Nat ->Value) (h:Heap):CY C rs Q (.ended none) ⟨T n f,[],none⟩ h↔PR Q h (aR C (T n f) h rs):=by
 simp[CY]
def y5 (C:Ctx) (rs:List ResultVar) (Q:Value ->Heap ->Prop) (r:FEnd) (s:FrS) (h':Heap):Prop:=(r= .ended none \/r= .ended (some .ret))/\ s.pan=none/\
 ((s.defers=[]/\ PR Q h' (aR C s.tmps h' rs)) \/ ∃b,s.defers=[{target:= .collected b,args:=⟨[]⟩}]/\ h'.get b=some (.deferred true)/\ PR Q (h'.set b (.deferred false)) (aR C s.tmps (h'.set b (.deferred false)) rs))
theorem pV (C:Ctx) (rs:List ResultVar) (Q:Value ->Heap ->Prop) (n:Nat) (f:Nat ->Value) (h:Heap) (b:Nat):y5 C rs Q (.ended (some .ret)) ⟨T n f,[{target:= .collected b,args:=⟨[]⟩}],none⟩ h↔h.get b=some (.deferred true)/\ PR Q (h.set b (.deferred false)) (aR C (T n f) (h.set b (.deferred false)) rs):=by
 simp[y5]
theorem CH {C:Ctx} {f:FuncId} (fn:Func) {c:Code} {args:List Value} {h:Heap} {Q:Value ->Heap ->Prop} (hA:C.A f=none) (hF:C.F.get f=some fn) (hb:fn.body=some c) (hn:Nat.ble args.length fn.ntmps=true)
  (hw:W (bH C none [.code c] ⟨T fn.ntmps (jt args),[],none⟩ h) (y5 C fn.results.toList Q)):CW C f args h Q:=by
 obtain⟨r,s,h',e,h1,h2,h3⟩:=hw
 rcases h3 with⟨h3,h4⟩|⟨b,hd,hg,hq⟩
 ·exact aw fn hA hF hb hn ⟨r,s,h',e,h1,h3,h2,h4⟩
 ·have hm:gB r=some none:=by rcases h1 with rfl|rfl<;>rfl
  revert hq
  cases hr:aR C s.tmps (h'.set b (.deferred false)) fn.results.toList with
  |none=>exact fun h=>h.elim
  |some vs=>
   intro hq
   refine⟨cZ vs,_,?_,hq⟩
   rw[vU args h hA hF hb (Nat.le_of_ble_eq_true hn),e]
   simp only[finish,au,hm,hd]
   have:ie C (bH C) [{target:= .collected b,args:=⟨[]⟩}] none h'=some (none,h'.set b (.deferred false)):=by
    show ae (dJ C (bH C) _ none h') _=_
    have e3:dJ C (bH C) {target:= .collected b,args:=⟨[]⟩} none h'=some (none,h'.set b (.deferred false)):=by
     unfold dJ
     simp only[hg,au,uy,aK]
    rw[e3];rfl
   simp only[this,au,hr,h2]
structure Gr (X:Nat ->Prop) (h h':Heap):Prop where
 ok:HOK h'
 next:h.next<=h'.next
 get: ∀i,i<h.next -> ¬X i ->h'.get i=h.get i
theorem Gr.refl {X:Nat ->Prop} {h:Heap} (hk:HOK h):Gr X h h:=⟨hk,Nat.le_refl _,fun _ _ _=>rfl⟩
theorem Gr.trans {X:Nat ->Prop} {a b c:Heap} (h:Gr X a b) (h':Gr X b c):Gr X a c:=⟨h'.ok,Nat.le_trans h.next h'.next,fun i hi hx=>(h'.get i (Nat.lt_of_lt_of_le hi h.next) hx).trans (h.get i hi hx)⟩
theorem Fr.gr {X:Nat ->Prop} {h h':Heap} (f:Fr h h'):Gr X h h':=⟨f.ok,f.next,fun i hi _=>f.get i hi⟩
theorem Gr.fr {X:Nat ->Prop} {h0 h h':Heap} (g:Gr X h h') (f:Fr h0 h) (hx: ∀i,X i ->h0.next<=i):Fr h0 h':=
 ⟨g.ok,Nat.le_trans f.next g.next,fun i hi=>(g.get i (Nat.lt_of_lt_of_le hi f.next) fun x=>by have:=hx i x;omega).trans (f.get i hi)⟩
theorem Gr.get' {X:Nat ->Prop} {h h':Heap} (g:Gr X h h') (hk:HOK h) {i:Nat} (hi: ¬X i) {x:AObj} (hr:h.get i=some x):h'.get i=some x:=by rw[g.get i (aF hk hr) hi];exact hr
theorem Gr.row' {X:Nat ->Prop} {h h':Heap} (g:Gr X h h') (hk:HOK h) {i:Nat} (hi: ¬X i) {l:List Value} (hr:rowAt h i=some l):rowAt h' i=some l:=by
 unfold rowAt at hr⊢
 cases e:h.get i with
 |none=>rw[e]at hr;simp at hr
 |some x=>rw[g.get' hk hi e];rw[e]at hr;exact hr
theorem SL.low {N M:Nat} {h:Heap} {v:Value} {l:List Value} {s n:Nat} (q:SL N h v l s n) (hm:M<=N):SL M h v l s n:=by
 rcases q with q|⟨b,e,h0,h1,h2,h3⟩
 ·exact .inl q
 ·exact .inr ⟨b,e,h0,by omega,h2,h3⟩
theorem T3 {C:Ctx} {rd:Option Nat} {ops:List Oper} {pl:List PE} {k:List Go.Item} {rs:List Rec} {dst:Option Tmp} {n:Nat} {f':Nat ->Value} {p:Option Value} {h:Heap} {Q:FEnd ->FrS ->Heap ->Prop} {f:FuncId} {args:List Value} {P R:Value ->Heap ->Prop}
  (hc:CX C f args h P R) (hw: ∀v h',P v h' ->W (RP C rd ops pl k rs (FrS.put ⟨T n f',[],p⟩ dst v) h') Q) (hr: ∀v h',R v h' ->Q (.panic v) ⟨T n f',[],p⟩ h'):W (ZE C rd ops pl k rs dst ⟨T n f',[],p⟩ (cI C (bH C) f args h)) Q:=by
 rcases hc with⟨v,h',e,hp⟩|⟨v,h',e,hp⟩
 ·rw[e,Fm];exact hw v h' hp
 ·rw[e,NR _ rfl];exact⟨_,_,_,rfl,hr v h' hp⟩
theorem SL.tag {N:Nat} {h:Heap} {v:Value} {l L:List Value} {s n p z:Nat} (q:SL N h v l s n) (hg:h.get p=some (.row L z true)) (hz:z≠s):ay v≠some p:=by
 rcases q with⟨rfl,_,_⟩|⟨b,rfl,_,_,h3,_⟩
 ·simp[ay]
 ·intro e
  simp[ay]at e
  subst e
  rw[h3]at hg
  simp at hg
  exact hz hg.2.symm
end Go.Am
