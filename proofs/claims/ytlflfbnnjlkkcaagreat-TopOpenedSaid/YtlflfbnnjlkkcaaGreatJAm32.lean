/- Parts Am32, Am33, Am34, Am35 of the abstract machine over this program, joined: what each part says stands at its head. -/
import Derived.Test.YtlflfbnnjlkkcaaGreatJAm28
set_option linter.unusedSimpArgs false
set_option linter.unusedVariables false
set_option linter.defProp false
namespace Go.Am
open Go
def Self.le (S S':Self):Prop:= ∀rd k s h r,S rd k s h=some r ->S' rd k s h=some r
structure Cont {β:Type} (C:Ctx) (R:Self) (Φ:Self ->Option β):Prop where
 mono: ∀S S',Self.le S S' -> ∀b,Φ S=some b ->Φ S'=some b
 near: ∀b,Φ R=some b -> ∃n,∀m,n<=m ->Φ (run C m)=some b
section
variable {C:Ctx} {R:Self}
theorem Cont.const {β:Type} (o:Option β):Cont C R (fun _=>o):=⟨fun _ _ _ _ h=>h,fun _ h=>⟨0,fun _ _=>h⟩⟩
theorem Cont.bind {α β:Type} {Φ:Self ->Option α} {Ψ:Self ->α ->Option β} (h:Cont C R Φ) (h': ∀a,Cont C R (fun S=>Ψ S a)):Cont C R (fun S=>ae (Φ S) (Ψ S)):=by
 constructor
 ·intro S S' hl b hb
  obtain⟨a,ha,h1⟩:=ab hb
  rw[h.mono S S' hl a ha]
  exact(h' a).mono S S' hl b h1
 ·intro b hb
  obtain⟨a,ha,h1⟩:=ab hb
  obtain⟨n,hn⟩:=h.near a ha
  obtain⟨m,hm⟩:=(h' a).near b h1
  refine⟨max n m,fun q hq=> ?_⟩
  show ae (Φ (run C q)) _=_
  rw[hn q (by omega)]
  exact hm q (by omega)
theorem Cont.guard {β:Type} {Φ:Self ->Option β} (b:Bool) (h:Cont C R Φ):Cont C R (fun S=>aX b (Φ S)):=by
 cases b
 ·exact .const none
 ·exact h
end
section
variable {C:Ctx} {R:Self} (hR: ∀rd k s h,Cont C R (fun S=>S rd k s h))
include hR
theorem yS (fn:Func) (args:List Value) (pan:Option Value) (h:Heap):Cont C R (fun S=>yl S fn args pan h):=
 .bind (.const _) fun _=>hR _ _ _ _
theorem Ci (f:FuncId) (args:List Value) (h:Heap) (pan:Option Value):Cont C R (fun S=>eo C S f args h pan):=
 .bind (.const _) fun _=> .bind (yS hR _ _ _ _) fun _=> .guard _ (.const _)
theorem Cg (d:Deferred) (m:Option Value) (h:Heap):Cont C R (fun S=>dJ C S d m h):=by
 obtain⟨t,a⟩:=d
 cases t with
 |collected b=>exact .const _
 |fn f cap=>
  cases f<;>try exact .const _
  rename_i g
  show Cont C R (fun S=>match C.A g with|some _=>none|none=>ae (eo C S g (a.toList++cap.toList) h m) GN)
  cases C.A g
  ·exact .bind (Ci hR _ _ _ _) fun _=> .const _
  ·exact .const _
 |_=>exact .const _
theorem Cf (ds:List Deferred): ∀(m:Option Value) (h:Heap),Cont C R (fun S=>ie C S ds m h):=by
 induction ds with
 |nil=>intro m h;exact .const _
 |cons d ds ih=>intro m h;exact .bind (Cg hR d m h) fun q=>ih q.1 q.2
theorem CT (fn:Func) (args:List Value) (h:Heap):Cont C R (fun S=>Cm C S fn args h):=
 .bind (yS hR _ _ _ _) fun _=> .bind (.const _) fun _=> .bind (Cf hR _ _ _) fun _=> .const _
theorem uF (f:FuncId) (args:List Value) (h:Heap):Cont C R (fun S=>cI C S f args h):=by
 unfold cI
 cases C.A f
 ·exact .bind (.const _) fun _=>CT hR _ _ _
 ·exact .const _
theorem Cj (recv:Value) (name:String) (args:List Value) (h:Heap):Cont C R (fun S=>tT C S recv name args h):=by
 cases recv<;>first|exact .const _|exact .bind (.const _) fun _=>uF hR _ _ _
theorem E2 (l:Nat) (args:List Value) (h:Heap):Cont C R (fun S=>jO S l args h):=
 .bind (.const _) fun _=> .guard _ (.bind (hR _ _ _ _) fun _=> .const _)
theorem vQ (fn:Fn) (cap args:List Value) (h:Heap):Cont C R (fun S=>dY C S fn cap args h):=by
 cases fn with
 |func f=>exact uF hR _ _ _
 |method n=>
  cases args with
  |nil=>exact .const _
  |cons a l=>exact Cj hR _ _ _ _
 |yield l=>exact E2 hR _ _ _
 |_=>exact .const _
theorem E5 (dst:Option Tmp) (args:List Value) (s:FrS) (h:Heap) (v:Value):Cont C R (fun S=>pL C S dst args s h v):=by
 cases v<;>first|exact .const _|exact .bind (vQ hR _ _ _ _) fun _=> .const _
theorem Ia (rd:Option Nat) (dst:Option Tmp) (c:Call) (s:FrS) (h:Heap):Cont C R (fun S=>Cl C S rd dst c s h):=by
 obtain⟨cal,args,ats⟩:=c
 cases cal with
 |value f=>exact E5 hR _ _ _ _ _
 |invoke r name=>exact .bind (Cj hR _ _ _ _) fun _=> .const _
 |builtin b=>exact .const _
theorem Ch (rd:Option Nat) (dst:Option Tmp) (s:FrS) (h:Heap) (op:Op):Cont C R (fun S=>c9 C S rd dst s h op):=by
 cases op<;>first|exact .const _|exact Ia hR _ _ _ _ _
theorem Nu (rd:Option Nat) (o:Oper) (s:FrS) (h:Heap):Cont C R (fun S=>H6 C S rd o s h):=by
 unfold H6
 cases bt o.op
 ·exact .const _
 ·exact Ch hR _ _ _ _ _
theorem H9 (rd:Option Nat) (ops:List Oper) (l:List Oper): ∀s h,Cont C R (fun S=>iV C S rd ops l s h):=by
 induction l with
 |nil=>intro s h;exact .const _
 |cons o l ih=>
  intro s h
  show Cont C R (fun S=>tF C S rd ops o (iV C S rd ops l) s h)
  unfold tF
  cases bO ops o s.tmps
  ·exact ih _ _
  ·refine .bind (Nu hR _ _ _ _) fun r=> ?_
   cases r with
   |ok s h=>exact ih s h
   |panic v s h=>exact .const _
theorem E3 (rd:Option Nat) (ops:List Oper) (l:List PE): ∀rs s h,Cont C R (fun S=>eV C S rd ops l rs s h):=by
 induction l with
 |nil=>intro rs s h;exact .const _
 |cons e l ih=>
  intro rs s h
  show Cont C R (fun S=>To C S rd ops (eV C S rd ops l) rs s h e)
  cases e with
  |re i o=>exact .guard _ (ih _ _ _)
  |ex i o=>
   simp only[To]
   cases bO ops o s.tmps
   ·exact ih _ _ _
   ·unfold JU
    have key: ∀rs r,Cont C R (fun S=>Aw (eV C S rd ops l) rs r):=fun rs r=>by
     cases r with
     |ok s h=>exact ih rs s h
     |panic v s h=>exact .const _
    cases bt o.op
    ·exact .bind (.const _) fun e=> .bind (.const _) fun r=>key _ r
    ·exact .bind (Ch hR _ _ _ _ _) fun r=>key _ r
theorem Ck (rd:Option Nat) (k:List Item) (r:ORes):Cont C R (fun S=>gV S rd k r):=by
 cases r with
 |ok s h=>exact hR _ _ _ _
 |panic v s h=>exact .const _
theorem E4 (rd:Option Nat) (k:List Item) (s:FrS) (l:Nat) (m:List Deferred) (h:Heap):Cont C R (fun S=>vP S rd k s l m h):=
 .bind (.const _) fun _=> .guard _ (hR _ _ _ _)
theorem J6 (rd:Option Nat) (params:List Tmp) (assign body:Code) (k:List Item) (s:FrS) (h:Heap) (v:Value):Cont C R (fun S=>kF C S rd params assign body k s h v):=by
 cases v<;>try exact .const _
 refine .bind (.const _) fun q=> .bind (vQ hR _ _ _ _) fun r=> ?_
 cases r with
 |ret v h p=>exact E4 hR _ _ _ _ _ _
 |panic v h=>exact .const _
theorem DV (rd:Option Nat) (k:List Item) (s:FrS) (h:Heap):Cont C R (fun S=>step C S rd k s h):=by
 cases k with
 |nil=>exact .const _
 |cons it k=>
  show Cont C R (fun S=>Ei C S rd k s h it)
  cases it with
  |code c=>
   show Cont C R (fun S=>Ej C S rd k s h c)
   cases c<;>try first|exact .const _|exact hR _ _ _ _
   case cond c t e=>
    show Cont C R (fun S=>tZ S rd t e k s h (ev s.tmps c))
    generalize ev s.tmps c=v
    unfold tZ
    split<;>first|exact hR _ _ _ _|exact .const _
   case exit id=>
    show Cont C R (fun S=>wS S rd id s h (exitTo id k))
    cases exitTo id k
    ·exact .const _
    ·exact hR _ _ _ _
   case region id ops draw=>
    cases draw
    ·exact .bind (H9 hR _ _ _ _ _) fun r=>Ck hR _ _ r
    ·exact .bind (E3 hR _ _ _ _ _ _) fun r=>Ck hR _ _ r
   case rangeFunc f params assign body=>exact J6 hR _ _ _ _ _ _ _ _
  |beginRound=>exact .bind (.const _) fun _=> .bind (.const _) fun _=> .guard _ (hR _ _ _ _)
  |inBlock _=>exact hR _ _ _ _
  |inScope _=>exact hR _ _ _ _
  |inLoop _=>exact hR _ _ _ _
  |_=>exact .const _
end
theorem GJ (C:Ctx) (n:Nat):run C (n+1)=step C (run C n):=rfl
theorem yG (C:Ctx): ∀n,Self.le (run C n) (run C (n+1))
 |0=>fun rd k s h r hr=>by simp[run,xa]at hr
 |n+1=>fun rd k s h r hr=>by
  rw[GJ]at hr⊢
  have hc:Cont C (fun _ _ _ _=>none) (fun S=>step C S rd k s h):=DV (fun rd k s h=>⟨fun S S' hl b hb=>hl _ _ _ _ _ hb,fun b hb=>by simp at hb⟩) rd k s h
  exact hc.mono _ _ (yG C n) r hr
theorem I5 (C:Ctx) {n m:Nat} (h:n<=m):Self.le (run C n) (run C m):=by
 induction h with
 |refl=>exact fun _ _ _ _ _ a=>a
 |step _ ih=>exact fun rd k s h r hr=>yG C _ rd k s h r (ih rd k s h r hr)
open Classical in
noncomputable def bH (C:Ctx):Self:=fun rd k s h=>if hx: ∃r n,run C n rd k s h=some r then some hx.choose else none
theorem Uo {C:Ctx} {n:Nat} {rd:Option Nat} {k:List Item} {s:FrS} {h:Heap} {r:FEnd×FrS×Heap} (hr:run C n rd k s h=some r):bH C rd k s h=some r:=by
 have hx: ∃r n,run C n rd k s h=some r:=⟨r,n,hr⟩
 unfold bH
 rw[dif_pos hx]
 obtain⟨m,hm⟩:=hx.choose_spec
 have h1:=I5 C (Nat.le_max_left n m) _ _ _ _ _ hr
 have h2:=I5 C (Nat.le_max_right n m) _ _ _ _ _ hm
 rw[h1]at h2
 simpa using h2.symm
theorem Un {C:Ctx} {rd:Option Nat} {k:List Item} {s:FrS} {h:Heap} {r:FEnd×FrS×Heap} (hr:bH C rd k s h=some r): ∃n,run C n rd k s h=some r:=by
 unfold bH at hr
 split at hr
 ·rename_i hx
  obtain⟨m,hm⟩:=hx.choose_spec
  simp at hr
  rw[hr]at hm
  exact⟨m,hm⟩
 ·simp at hr
theorem ZT {C:Ctx} (n:Nat):Self.le (run C n) (bH C):=fun _ _ _ _ _ h=>Uo h
theorem ID (C:Ctx) (rd:Option Nat) (k:List Item) (s:FrS) (h:Heap):Cont C (bH C) (fun S=>S rd k s h):=
 ⟨fun _ _ hl _ hb=>hl _ _ _ _ _ hb,fun b hb=>by
  obtain⟨n,hn⟩:=Un hb
  exact⟨n,fun m hm=>I5 C hm _ _ _ _ _ hn⟩⟩
theorem gX (C:Ctx) (rd:Option Nat) (k:List Item) (s:FrS) (h:Heap):bH C rd k s h=step C (bH C) rd k s h:=by
 have hc:=DV (ID C) rd k s h
 cases hs:step C (bH C) rd k s h with
 |some r=>
  obtain⟨n,hn⟩:=hc.near r hs
  exact Uo (n:=n+1) (hn n (Nat.le_refl _))
 |none=>
  cases hl:bH C rd k s h with
  |none=>rfl
  |some r=>
   obtain⟨n,hn⟩:=Un hl
   cases n with
   |zero=>simp[run,xa]at hn
   |succ n=>
    rw[GJ]at hn
    have:=hc.mono _ _ (ZT n) r hn
    rw[hs]at this;simp at this
theorem Kc {C:Ctx} {f:FuncId} {args:List Value} {h:Heap} {r:FRes} (hr:cI C (bH C) f args h=some r): ∃n,cI C (run C n) f args h=some r:=
 let⟨n,hn⟩:=(uF (ID C) f args h).near r hr
 ⟨n,hn n (Nat.le_refl _)⟩
end Go.Am

namespace Go.Am
open Go
def W (x:tC) (Q:FEnd ->FrS ->Heap ->Prop):Prop:= ∃r s h,x=some (r,s,h)/\ Q r s h
theorem Zy (r:FEnd) (s:FrS) (h:Heap) (Q:FEnd ->FrS ->Heap ->Prop):W (some (r,s,h)) Q↔Q r s h:=by
 constructor
 ·rintro⟨r',s',h',e,q⟩;simp at e;obtain⟨rfl,rfl,rfl⟩:=e;exact q
 ·exact fun q=>⟨r,s,h,rfl,q⟩
section
variable {C:Ctx} {rd:Option Nat} {ops l:List Oper} {k:List Item} {τ:List (List Value)} {s:FrS} {h:Heap} {Q:FEnd ->FrS ->Heap ->Prop}
theorem fT:bH C rd [] s h=some (.ended none,s,h):=by rw[gX];rfl
theorem L_ret:bH C rd (.code .ret::k) s h=some (.ended (some .ret),s,h):=by rw[gX];rfl
theorem ZU:bH C rd (.code .skip::k) s h=bH C rd k s h:=by rw[gX];rfl
theorem Xl (n:Nat):bH C rd (.code (.label n)::k) s h=bH C rd k s h:=by rw[gX];rfl
theorem L_seq (a b:Code):bH C rd (.code (.seq a b)::k) s h=bH C rd (.code a:: .code b::k) s h:=by rw[gX];rfl
theorem Xn (n:Nat) (c:Code):bH C rd (.code (.block n c)::k) s h=bH C rd (.code c:: .inBlock n::k) s h:=by rw[gX];rfl
theorem Xk (c:Code):bH C rd (.code (.scope c)::k) s h=bH C rd (.code c:: .inScope c::k) s h:=by rw[gX];rfl
theorem N1 (n:Nat):bH C rd (.inBlock n::k) s h=bH C rd k s h:=by rw[gX];rfl
theorem NZ (c:Code):bH C rd (.inScope c::k) s h=bH C rd k s h:=by rw[gX];rfl
theorem v9 (c:Code):bH C rd (.inLoop c::k) s h=bH C rd (.code c:: .inLoop c::k) s h:=by rw[gX];rfl
theorem ZV (c:Code):bH C rd (.code (.loop c)::k) s h=bH C rd (.inLoop c::k) s h:=by rw[v9,gX];rfl
theorem ZW (n:Nat):bH C rd (.code (.exit n)::k) s h=wS (bH C) rd n s h (exitTo n k):=by rw[gX];rfl
theorem ZY (c:Operand) (t e:Code):bH C rd (.code (.cond c t e)::k) s h=tZ (bH C) rd t e k s h (ev s.tmps c):=by rw[gX];rfl
theorem Zw (n:Nat) (k':List Item):wS (bH C) rd n s h (some k')=bH C rd k' s h:=rfl
theorem Zx (n:Nat):wS (bH C) rd n s h none=some (.ended (some (.exit n)),s,h):=rfl
theorem aad (t e:Code):tZ (bH C) rd t e k s h (.bool true)=bH C rd (.code t::k) s h:=rfl
theorem Xt (t e:Code):tZ (bH C) rd t e k s h (.bool false)=bH C rd (.code e::k) s h:=rfl
theorem Xr (n m:Nat):exitTo n (.inBlock m::k)=if m=n then some k else exitTo n k:=by
 by_cases e:m=n
 ·subst e;rw[if_pos rfl,exitTo,if_pos (by simp)]
 ·rw[if_neg e,exitTo,if_neg (by simpa using e)]
theorem aab (n:Nat) (c:Code):exitTo n (.code c::k)=exitTo n k:=rfl
theorem aaa (n:Nat) (c:Code):exitTo n (.inLoop c::k)=exitTo n k:=rfl
theorem Xq (n:Nat) (c:Code):exitTo n (.inScope c::k)=exitTo n k:=rfl
theorem E_nil (n:Nat):exitTo n []=none:=rfl
noncomputable def RO (C:Ctx) (rd:Option Nat) (ops l:List Oper) (k:List Item) (s:FrS) (h:Heap):tC:=ae (iV C (bH C) rd ops l s h) (gV (bH C) rd k)
noncomputable def Ku (C:Ctx) (rd:Option Nat) (ops l:List Oper) (k:List Item):Option ORes ->tC
 |some (.ok s h)=>RO C rd ops l k s h
 |some (.panic v s h)=>some (.panic v,s,h)
 |none=>none
theorem Up (id:Nat) (o:Array Oper):bH C rd (.code (.region id o false)::k) s h=RO C rd o.toList o.toList k s h:=by rw[gX];rfl
theorem ZJ:RO C rd ops [] k s h=bH C rd k s h:=rfl
theorem RO_or (o:Option ORes):ae (ae o (KI (iV C (bH C) rd ops l))) (gV (bH C) rd k)=Ku C rd ops l k o:=by
 cases o with
 |none=>rfl
 |some r=>cases r<;>rfl
theorem zR (o:Oper):RO C rd ops (o::l) k s h=match bO ops o s.tmps with|true=>Ku C rd ops l k (H6 C (bH C) rd o s h)|false=>RO C rd ops l k (s.put o.dst undef) h:=by
 show ae (tF C (bH C) rd ops o (iV C (bH C) rd ops l) s h) _=_
 unfold tF
 cases bO ops o s.tmps
 ·rfl
 ·exact RO_or _
theorem ZG:Ku C rd ops l k (some (.ok s h))=RO C rd ops l k s h:=rfl
noncomputable def D1 (C:Ctx) (rd:Option Nat) (ops l:List Oper) (k:List Item) (dst:Option Tmp) (s:FrS) (h:Heap):Option EV ->tC
 |some (.val v)=>RO C rd ops l k (s.put dst v) h
 |some (.new x mk)=>match js (h.get h.next)with
  |true=>RO C rd ops l k (s.put dst (mk h.next)) (h.alloc x)
  |false=>none
 |none=>none
noncomputable def LV (C:Ctx) (rd:Option Nat) (ops l:List Oper) (k:List Item) (dst:Option Tmp) (s:FrS) (h:Heap):Option Value ->tC
 |some v=>RO C rd ops l k (s.put dst v) h
 |none=>none
noncomputable def ROh (C:Ctx) (rd:Option Nat) (ops l:List Oper) (k:List Item) (dst:Option Tmp) (s:FrS):Option Heap ->tC
 |some h=>RO C rd ops l k (s.put dst undef) h
 |none=>none
noncomputable def ROq (C:Ctx) (rd:Option Nat) (ops l:List Oper) (k:List Item) (dst:Option Tmp) (s:FrS):Option (Value×Heap) ->tC
 |some q=>RO C rd ops l k (s.put dst q.1) q.2
 |none=>none
noncomputable def ZI (C:Ctx) (rd:Option Nat) (ops l:List Oper) (k:List Item) (dst:Option Tmp) (s:FrS):Option FRes ->tC
 |some (.ret v h _)=>RO C rd ops l k (s.put dst v) h
 |some (.panic v h)=>some (.panic v,s,h)
 |none=>none
theorem W8 (dst:Option Tmp) (v:Value):D1 C rd ops l k dst s h (some (.val v))=RO C rd ops l k (s.put dst v) h:=rfl
theorem ZH (dst:Option Tmp) (v:Value):D1 C rd ops l k dst s h (aY v)=RO C rd ops l k (s.put dst v) h:=rfl
theorem W9 (dst:Option Tmp) (x:AObj) (mk:Nat ->Value) (hf:js (h.get h.next)=true):D1 C rd ops l k dst s h (some (.new x mk))=RO C rd ops l k (s.put dst (mk h.next)) (h.alloc x):=by
 simp only[D1,hf]
theorem fS (dst:Option Tmp) (o:Option Value):D1 C rd ops l k dst s h (ae o aY)=LV C rd ops l k dst s h o:=by cases o<;>rfl
theorem Ud (dst:Option Tmp) (v:Value):LV C rd ops l k dst s h (some v)=RO C rd ops l k (s.put dst v) h:=rfl
theorem Uf (dst:Option Tmp):ROh C rd ops l k dst s (some h)=RO C rd ops l k (s.put dst undef) h:=rfl
theorem Ue (dst:Option Tmp) (v:Value):ROq C rd ops l k dst s (some (v,h))=RO C rd ops l k (s.put dst v) h:=rfl
theorem Fp (dst:Option Tmp) (v:Value) (p:Option Value):ZI C rd ops l k dst s (some (.ret v h p))=RO C rd ops l k (s.put dst v) h:=rfl
theorem D4 (dst:Option Tmp) (v:Value):ZI C rd ops l k dst s (some (.panic v h))=some (.panic v,s,h):=rfl
variable {dst:Option Tmp} {ty:TypeId} {pos:String} {aft:Array Edge}
theorem bU (op:Op) (he:bt op=false):RO C rd ops (⟨dst,op,ty,pos,aft,none⟩::l) k s h=D1 C rd ops l k dst s h (aJ C (ev s.tmps) h op):=by
 rw[zR]
 simp only[bO,H6,he]
 cases aJ C (ev s.tmps) h op with
 |none=>rfl
 |some e=>
  cases e with
  |val v=>rfl
  |new x mk=>
   simp only[au,mn,D1]
   cases js (h.get h.next)<;>rfl
theorem jL (op:Op) (he:bt op=true):RO C rd ops (⟨dst,op,ty,pos,aft,none⟩::l) k s h=Ku C rd ops l k (c9 C (bH C) rd dst s h op):=by
 rw[zR]
 simp only[bO,H6,he]
theorem ZP (x:Operand):RO C rd ops (⟨dst, .move x,ty,pos,aft,none⟩::l) k s h=RO C rd ops l k (s.put dst (ev s.tmps x)) h:=bU _ rfl
theorem Uk (x:Operand):RO C rd ops (⟨dst, .assign x,ty,pos,aft,none⟩::l) k s h=RO C rd ops l k (s.put dst (ev s.tmps x)) h:=bU _ rfl
theorem O_bin (op:BinOp) (t u:TypeId) (x y:Operand):RO C rd ops (⟨dst, .binOp op t x y u,ty,pos,aft,none⟩::l) k s h=LV C rd ops l k dst s h (eI C op t (dF x||dF y) (ev s.tmps x) (ev s.tmps y)):=by
 rw[bU _ rfl,<-fS];rfl
theorem O_un (op:UnOp) (t:TypeId) (x:Operand):RO C rd ops (⟨dst, .unOp op t x,ty,pos,aft,none⟩::l) k s h=LV C rd ops l k dst s h (Zt C.P op (ev s.tmps x)):=by
 rw[bU _ rfl,<-fS];rfl
theorem ZN (c a b:Operand):RO C rd ops (⟨dst, .pick c a b,ty,pos,aft,none⟩::l) k s h=D1 C rd ops l k dst s h (Ct (ev s.tmps a) (ev s.tmps b) (ev s.tmps c)):=bU _ rfl
theorem Xj (t:TypeId):RO C rd ops (⟨dst, .alloc t,ty,pos,aft,none⟩::l) k s h=D1 C rd ops l k dst s h (Cu C t):=bU _ rfl
theorem O_box (t:TypeId) (x:Operand):RO C rd ops (⟨dst, .box t x,ty,pos,aft,none⟩::l) k s h=D1 C rd ops l k dst s h (NO (ev s.tmps x)):=bU _ rfl
theorem Xi (t:TypeId) (p:Array (Nat×Operand)):RO C rd ops (⟨dst, .build t p,ty,pos,aft,none⟩::l) k s h=LV C rd ops l k dst s h (cJ C t (kL (ev s.tmps) p)):=by
 rw[bU _ rfl,<-fS];rfl
theorem Fv (t:TypeId) (n:Nat) (p:Array (Nat×Operand)):RO C rd ops (⟨dst, .buildSlice t n p,ty,pos,aft,none⟩::l) k s h=D1 C rd ops l k dst s h (bn C t n (kL (ev s.tmps) p)):=bU _ rfl
theorem ZQ (t:TypeId) (a:Operand):RO C rd ops (⟨dst, .load t a,ty,pos,aft,none⟩::l) k s h=LV C rd ops l k dst s h (bx C t (ev s.tmps a) h):=by
 rw[bU _ rfl,<-fS];rfl
theorem Kv (x:Operand):RO C rd ops (⟨dst, .nilCheck x,ty,pos,aft,none⟩::l) k s h=D1 C rd ops l k dst s h (ir C (ev s.tmps x)):=bU _ rfl
theorem NX (a b:TypeId) (x:Operand):RO C rd ops (⟨dst, .convert a b x,ty,pos,aft,none⟩::l) k s h=D1 C rd ops l k dst s h (ka C a b (ev s.tmps x) h):=bU _ rfl
theorem IA (t:TypeId) (x:Operand):RO C rd ops (⟨dst, .makeInterface t x,ty,pos,aft,none⟩::l) k s h=D1 C rd ops l k dst s h (fM C t (ev s.tmps x)):=bU _ rfl
theorem Kw (fn:Fn) (a b:Array Operand):RO C rd ops (⟨dst, .makeFunc fn a b,ty,pos,aft,none⟩::l) k s h=D1 C rd ops l k dst s h (oy (ev s.tmps) fn a b):=bU _ rfl
theorem NV (t:TypeId) (r:Option Operand):RO C rd ops (⟨dst, .makeMap t r,ty,pos,aft,none⟩::l) k s h=D1 C rd ops l k dst s h (lY r):=bU _ rfl
theorem Iz (t:TypeId) (a b:Operand):RO C rd ops (⟨dst, .makeSlice t a b,ty,pos,aft,none⟩::l) k s h=D1 C rd ops l k dst s h (lX C t (ev s.tmps a) (ev s.tmps b)):=bU _ rfl
theorem Xd (t:TypeId) (x:Operand) (a b m:Option Operand):RO C rd ops (⟨dst, .slice t x a b m,ty,pos,aft,none⟩::l) k s h=LV C rd ops l k dst s h (jb C t (ev s.tmps x) (a.map (ev s.tmps)) (b.map (ev s.tmps)) (m.map (ev s.tmps))):=by
 rw[bU _ rfl,<-fS];rfl
theorem IC (t:TypeId) (x:Operand) (i:Nat):RO C rd ops (⟨dst, .fieldAddr t x i,ty,pos,aft,none⟩::l) k s h=D1 C rd ops l k dst s h (ai C t (ev s.tmps x) i):=bU _ rfl
theorem Xh (t:TypeId) (x:Operand) (i:Nat):RO C rd ops (⟨dst, .field t x i,ty,pos,aft,none⟩::l) k s h=D1 C rd ops l k dst s h (Fj C t (ev s.tmps x) i):=bU _ rfl
theorem IB (t:TypeId) (x i:Operand):RO C rd ops (⟨dst, .indexAddr t x i,ty,pos,aft,none⟩::l) k s h=LV C rd ops l k dst s h (aD C t (ev s.tmps x) (ev s.tmps i)):=by
 rw[bU _ rfl,<-fS];rfl
theorem Xf (t:TypeId) (x i:Operand):RO C rd ops (⟨dst, .index t x i,ty,pos,aft,none⟩::l) k s h=LV C rd ops l k dst s h (cD C t (ev s.tmps x) (ev s.tmps i)):=by
 rw[bU _ rfl,<-fS];rfl
theorem Uh (t:TypeId) (m x:Operand) (ok:Bool):RO C rd ops (⟨dst, .lookup t m x ok,ty,pos,aft,none⟩::l) k s h=LV C rd ops l k dst s h (mF C t (ev s.tmps m) (ev s.tmps x) ok h):=by
 rw[bU _ rfl,<-fS];rfl
theorem Ft (x:Operand) (u t:TypeId) (ok:Bool):RO C rd ops (⟨dst, .typeAssert x u t ok,ty,pos,aft,none⟩::l) k s h=LV C rd ops l k dst s h (gW C (ev s.tmps x) t ok):=by
 rw[bU _ rfl,<-fS];rfl
theorem NW (x:Operand) (i:Nat):RO C rd ops (⟨dst, .extract x i,ty,pos,aft,none⟩::l) k s h=D1 C rd ops l k dst s h (rP (ev s.tmps x) i):=bU _ rfl
theorem O_len (t:TypeId) (ts:List TypeId) (x:Operand) (xs:List Operand):RO C rd ops (⟨dst, .call ⟨.builtin .len,⟨x::xs⟩,⟨t::ts⟩⟩,ty,pos,aft,none⟩::l) k s h=LV C rd ops l k dst s h (mg C t (ev s.tmps x) h):=by
 rw[bU _ rfl,<-fS];rfl
theorem O_min (ts:Array TypeId) (x:Operand) (xs:List Operand):RO C rd ops (⟨dst, .call ⟨.builtin .min,⟨x::xs⟩,ts⟩,ty,pos,aft,none⟩::l) k s h=LV C rd ops l k dst s h (tQ min2 (xs.map (ev s.tmps)) (ev s.tmps x)):=by
 rw[bU _ rfl,<-fS];rfl
theorem O_max (ts:Array TypeId) (x:Operand) (xs:List Operand):RO C rd ops (⟨dst, .call ⟨.builtin .max,⟨x::xs⟩,ts⟩,ty,pos,aft,none⟩::l) k s h=LV C rd ops l k dst s h (tQ max2 (xs.map (ev s.tmps)) (ev s.tmps x)):=by
 rw[bU _ rfl,<-fS];rfl
theorem Cv (o:Option Heap):Ku C rd ops l k (ae o (jn s dst))=ROh C rd ops l k dst s o:=by cases o<;>rfl
theorem Fo (o:Option (Value×Heap)):Ku C rd ops l k (ae o (ofVal s dst))=ROq C rd ops l k dst s o:=by cases o<;>rfl
theorem LW (o:Option FRes):Ku C rd ops l k (ae o (ku s dst))=ZI C rd ops l k dst s o:=by
 cases o with
 |none=>rfl
 |some r=>cases r<;>rfl
theorem Xc (t:TypeId) (a v:Operand):RO C rd ops (⟨dst, .store t a v,ty,pos,aft,none⟩::l) k s h=ROh C rd ops l k dst s (rO C t (ev s.tmps a) (ev s.tmps v) h):=by
 rw[jL _ rfl,<-Cv];rfl
theorem Iy (t:TypeId) (m x v:Operand):RO C rd ops (⟨dst, .mapUpdate t m x v,ty,pos,aft,none⟩::l) k s h=ROh C rd ops l k dst s (dK C t (ev s.tmps m) (ev s.tmps x) (ev s.tmps v) h):=by
 rw[jL _ rfl,<-Cv];rfl
theorem Uj (t:TypeId) (m x v:Operand):RO C rd ops (⟨dst, .insert t m x v,ty,pos,aft,none⟩::l) k s h=ROh C rd ops l k dst s (dK C t (ev s.tmps m) (ev s.tmps x) (ev s.tmps v) h):=by
 rw[jL _ rfl,<-Cv];rfl
theorem ZO (i:Operand):RO C rd ops (⟨dst, .next i true,ty,pos,aft,none⟩::l) k s h=ROq C rd ops l k dst s (T2 (ev s.tmps i) h):=by
 rw[jL _ rfl,<-Fo];rfl
theorem Xe (t:TypeId) (x:Operand):RO C rd ops (⟨dst, .range t x,ty,pos,aft,none⟩::l) k s h=Ku C rd ops l k (vi C t dst s h (ev s.tmps x)):=by
 rw[jL _ rfl];rfl
theorem Ul (ts:Array TypeId) (x y:Operand) (xs:List Operand):RO C rd ops (⟨dst, .call ⟨.builtin .append,⟨x::y::xs⟩,ts⟩,ty,pos,aft,none⟩::l) k s h=ROq C rd ops l k dst s (ck C ts.toList (ev s.tmps x) (ev s.tmps y) h):=by
 rw[jL _ rfl,<-Fo];rfl
theorem ZR (ts:Array TypeId) (x y:Operand) (xs:List Operand):RO C rd ops (⟨dst, .call ⟨.builtin .copy,⟨x::y::xs⟩,ts⟩,ty,pos,aft,none⟩::l) k s h=ROq C rd ops l k dst s (rQ C ts.toList (ev s.tmps x) (ev s.tmps y) h):=by
 rw[jL _ rfl,<-Fo];rfl
noncomputable def iy (C:Ctx) (v:Value) (args:List Value) (h:Heap):Option FRes:=
 match v with
 | .func fn first cap=>dY C (bH C) fn cap.toList (first.toList++args) h
 |_=>none
theorem ZS (f:Operand) (xs:List Operand) (ts:Array TypeId):RO C rd ops (⟨dst, .call ⟨.value f,⟨xs⟩,ts⟩,ty,pos,aft,none⟩::l) k s h=ZI C rd ops l k dst s (iy C (ev s.tmps f) (xs.map (ev s.tmps)) h):=by
 rw[jL _ rfl,<-LW]
 show Ku C rd ops l k (pL C (bH C) dst (xs.map (ev s.tmps)) s h (ev s.tmps f))=_
 cases ev s.tmps f<;>rfl
theorem Ui (f:Operand) (n:String) (xs:List Operand) (ts:Array TypeId):RO C rd ops (⟨dst, .call ⟨.invoke f n,⟨xs⟩,ts⟩,ty,pos,aft,none⟩::l) k s h=ZI C rd ops l k dst s (tT C (bH C) (ev s.tmps f) n (xs.map (ev s.tmps)) h):=by
 rw[jL _ rfl,<-LW];rfl
end
theorem ju (C:Ctx) (f:FuncId) (args:List Value) (h:Heap):iy C (.func (.func f) #[] #[]) args h=cI C (bH C) f args h:=by
 simp[iy,dY]
theorem ff (C:Ctx) (f:FuncId) (a b:List Value) (args:List Value) (h:Heap):iy C (.func (.func f) ⟨a⟩ ⟨b⟩) args h=cI C (bH C) f (a++args++b) h:=by
 simp[iy,dY]
def upd (f:Nat ->Value) (d:Nat) (v:Value):Nat ->Value:=fun t=>if t=d then v else f t
theorem aa (f:Nat ->Value) (d:Nat) (v:Value) (t:Nat):upd f d v t=if t=d then v else f t:=rfl
noncomputable def T (n:Nat) (f:Nat ->Value):List (List Value):=pg ((List.range n).map f)
theorem Ec (n:Nat) (f:Nat ->Value) (t:Nat):iU (T n f) t=if t<n then f t else undef:=by
 unfold T
 rw[KJ,List.getD_eq_getElem?_getD]
 by_cases h:t<n
 ·simp[h]
 ·rw[if_neg h,List.getElem?_eq_none (by simp;omega)];rfl
theorem yU (f:Nat) (a:Value) (l:List Value):mO (f+1) (a::l)=(a::l).take 8::mO f ((a::l).drop 8):=rfl
theorem J7 (f:Nat):mO (f+1) []=[]:=rfl
theorem yB: ∀(f:Nat) (l:List Value) (d:Nat) (v:Value),l.length<f ->uX (mO f l) d v=mO f (l.set d v)
 |0,l,d,v,h=>by omega
 |f+1,[],d,v,h=>by
  rw[List.set_nil,J7,oO];simp
 |f+1,a::l,d,v,h=>by
  have hl:(a::l).set d v≠[]:=by cases d<;>simp
  obtain⟨b,m,hm⟩: ∃b m,(a::l).set d v=b::m:=by
   cases hx:(a::l).set d v with
   |nil=>exact absurd hx hl
   |cons b m=>exact⟨b,m,rfl⟩
  rw[hm,yU f b m,<-hm,yU,oO]
  by_cases hd:d<8
  ·have h1:d/8=0:=by omega
   have h2:d % 8=d:=by omega
   rw[h1,h2]
   simp only[List.set_cons_zero,List.getD_cons_zero]
   rw[List.take_set,List.drop_set_of_lt hd]
  ·have ih:=yB f ((a::l).drop 8) (d -8) v (by simp at h⊢;omega)
   rw[oO]at ih
   have h1:d/8=(d -8)/8+1:=by omega
   have h2:d % 8=(d -8) % 8:=by omega
   rw[h1,h2]
   simp only[List.set_cons_succ,List.getD_cons_succ]
   rw[ih]
   congr 1
   ·rw[List.take_set_of_le (by omega)]
   ·rw[List.drop_set,if_neg (by omega)]
theorem XU (n:Nat) (f:Nat ->Value) (d:Nat) (v:Value):uX (T n f) d v=T n (upd f d v):=by
 unfold T pg
 rw[yB _ _ _ _ (by simp)]
 have:((List.range n).map f).set d v=(List.range n).map (upd f d v):=by
  apply List.ext_getElem?
  intro i
  rw[List.getElem?_set]
  by_cases hi:i<n
  ·by_cases hd:d=i
   ·subst hd;simp[hi,upd]
   ·rw[if_neg hd];simp[hi,upd,show¬i=d from fun e=>hd e.symm]
  ·simp[hi]
   omega
 rw[this]
 simp
def jt (args:List Value):Nat ->Value:=fun t=>args.getD t undef
theorem G8 (args:List Value) (n:Nat) (h:args.length<=n):pg (args++List.replicate (n -args.length) undef)=T n (jt args):=by
 unfold T
 congr 1
 apply List.ext_getElem?
 intro i
 by_cases hi:i<n
 ·simp only[List.getElem?_map,List.getElem?_range hi,Option.map_some,jt,List.getD_eq_getElem?_getD]
  by_cases ha:i<args.length
  ·rw[List.getElem?_append_left ha,List.getElem?_eq_getElem ha];rfl
  ·rw[List.getElem?_append_right (by omega),List.getElem?_replicate,if_pos (by omega),List.getElem?_eq_none (by omega)];rfl
 ·rw[List.getElem?_eq_none (by simp;omega),List.getElem?_eq_none (by simp;omega)]
theorem Fs (n:Nat) (f:Nat ->Value) (D:List Deferred) (p:Option Value) (d:Tmp) (v:Value):FrS.put ⟨T n f,D,p⟩ (some d) v=⟨T n (upd f d v),D,p⟩:=by
 show FrS.mk (uX (T n f) d v) D p=_
 rw[XU]
theorem ZK (s:FrS) (v:Value):FrS.put s none v=s:=rfl
theorem Y0 (n:Nat) (f:Nat ->Value) (t:Tmp):ev (T n f) (.tmp t)=if t<n then f t else undef:=Ec n f t
theorem Tp (τ:List (List Value)) (v:Value):ev τ (.const v)=v:=rfl
theorem Nm (τ:List (List Value)) (g:Nat):ev τ (.global g)= .pointer (some ⟨g+1,0,none⟩):=rfl
theorem Wk (τ:List (List Value)) (f:FuncId):ev τ (.func f)= .func (.func f) #[] #[]:=rfl
noncomputable def finish (C:Ctx) (rs:List ResultVar) (x:tC):Option FRes:=
 ae x fun r=>ae (gB r.1) fun m=>ae (ie C (bH C) r.2.1.defers m r.2.2) fun q=>match q.1 with
  |some v=>some (.panic v q.2)
  |none=>ae (aR C r.2.1.tmps q.2 rs) fun vs=>some (.ret (cZ vs) q.2 r.2.1.pan)
theorem vU {C:Ctx} {f:FuncId} {fn:Func} {c:Code} (args:List Value) (h:Heap) (hA:C.A f=none) (hF:C.F.get f=some fn) (hb:fn.body=some c) (hn:args.length<=fn.ntmps):
  cI C (bH C) f args h=finish C fn.results.toList (bH C none [.code c] ⟨T fn.ntmps (jt args),[],none⟩ h):=by
 unfold cI
 rw[hA,hF]
 simp only[au,Cm,yl,hb,G8 args fn.ntmps hn,finish,te]
 rfl
def CW (C:Ctx) (f:FuncId) (args:List Value) (h:Heap) (Q:Value ->Heap ->Prop):Prop:= ∃v h',cI C (bH C) f args h=some (.ret v h' none)/\ Q v h'
theorem CW_of {C:Ctx} {f:FuncId} {fn:Func} {c:Code} {args:List Value} {h:Heap} {Q:Value ->Heap ->Prop} (hA:C.A f=none) (hF:C.F.get f=some fn) (hb:fn.body=some c) (hn:args.length<=fn.ntmps)
  (hw:W (bH C none [.code c] ⟨T fn.ntmps (jt args),[],none⟩ h) fun r s h'=>(r= .ended none \/r= .ended (some .ret))/\ s.defers=[]/\ s.pan=none/\ ∃vs,aR C s.tmps h' fn.results.toList=some vs/\ Q (cZ vs) h'):CW C f args h Q:=by
 obtain⟨r,s,h',e,hr,hd,hp,vs,hvs,hQ⟩:=hw
 refine⟨cZ vs,h',?_,hQ⟩
 rw[vU args h hA hF hb hn,e]
 have hm:gB r=some none:=by rcases hr with rfl|rfl<;>rfl
 simp only[finish,au,hm,hd]
 show ae (some ((none:Option Value),h')) _=_
 simp only[au,hvs,hp]
theorem CW.eq {C:Ctx} {f:FuncId} {args:List Value} {h h1:Heap} {v:Value} (hc:CW C f args h fun v' h'=>v'=v/\ h'=h1):cI C (bH C) f args h=some (.ret v h1 none):=by
 obtain⟨v',h',e,rfl,rfl⟩:=hc;exact e
theorem aC {C:Ctx} {rd:Option Nat} {ops l:List Oper} {k:List Item} {dst:Option Tmp} {s:FrS} {h:Heap} {Q:FEnd ->FrS ->Heap ->Prop} {f:FuncId} {args:List Value} {P:Value ->Heap ->Prop}
  (hc:CW C f args h P) (hw: ∀v h',P v h' ->W (RO C rd ops l k (s.put dst v) h') Q):W (ZI C rd ops l k dst s (cI C (bH C) f args h)) Q:=by
 obtain⟨v,h',e,hp⟩:=hc
 rw[e,Fp]
 exact hw v h' hp
theorem eT {C:Ctx} {rd:Option Nat} {body:Code} {k:List Item} {n:Nat} {f:Nat ->Value} {D:List Deferred} {p:Option Value} {h:Heap} {Q:FEnd ->FrS ->Heap ->Prop} (m:Nat) (I:Nat ->(Nat ->Value) ->Heap ->Prop)
  (h0:I m f h) (hs: ∀m f h,I m f h ->(∀m' f' h',m'<m ->I m' f' h' ->W (bH C rd (.inLoop body::k) ⟨T n f',D,p⟩ h') Q) ->W (bH C rd (.code body:: .inLoop body::k) ⟨T n f,D,p⟩ h) Q):
  W (bH C rd (.inLoop body::k) ⟨T n f,D,p⟩ h) Q:=by
 induction m using Nat.strongRecOn generalizing f h with
 |_ m ih=>
  rw[v9]
  exact hs m f h h0 fun m' f' h' hlt hI=>ih m' hlt hI
end Go.Am

namespace Go.Am
open Go
section
variable (C:Ctx) (t:TypeId) (c:Bool) (k:IntKind) (a b:Int)
theorem I_add:eI C .add t c (.int k a) (.int k b)=some (.int k (k.wrap (a+b))):=by simp[eI,eH,gG,nP]
theorem I_sub:eI C .sub t c (.int k a) (.int k b)=some (.int k (k.wrap (a -b))):=by simp[eI,eH,gG,nP]
theorem I_mul:eI C .mul t c (.int k a) (.int k b)=some (.int k (k.wrap (a*b))):=by simp[eI,eH,gG,nP]
theorem XK (hb:b≠0):eI C .quo t c (.int k a) (.int k b)=some (.int k (k.wrap (a.tdiv b))):=by simp[eI,eH,gG,nP,Zv,hb]
theorem I_rem (hb:b≠0):eI C .rem t c (.int k a) (.int k b)=some (.int k (a.tmod b)):=by simp[eI,eH,gG,Zu,hb]
theorem I_eql:eI C .eql t c (.int k a) (.int k b)=some (.bool (a==b)):=by simp[eI,eH,gG]
theorem I_neq:eI C .neq t c (.int k a) (.int k b)=some (.bool (a !=b)):=by simp[eI,eH,gG]
theorem I_lss:eI C .lss t c (.int k a) (.int k b)=some (.bool (decide (a<b))):=by simp[eI,eH,gG]
theorem I_leq:eI C .leq t c (.int k a) (.int k b)=some (.bool (decide (a<=b))):=by simp[eI,eH,gG]
theorem I_gtr:eI C .gtr t c (.int k a) (.int k b)=some (.bool (decide (a>b))):=by simp[eI,eH,gG]
theorem I_geq:eI C .geq t c (.int k a) (.int k b)=some (.bool (decide (a>=b))):=by simp[eI,eH,gG]
theorem S_eql (x y:ByteArray):eI C .eql t c (.string x) (.string y)=some (.bool (p9 x y)):=by simp[eI,vZ]
theorem S_neq (x y:ByteArray):eI C .neq t c (.string x) (.string y)=some (.bool (!(p9 x y))):=by simp[eI,vZ]
end
theorem U_not (P:Program) (b:Bool):Zt P .not (.bool b)=some (.bool (!b)):=rfl
theorem U_neg (P:Program) (k:IntKind) (n:Int):Zt P .neg (.int k n)=some (.int k (k.wrap (0 -n))):=rfl
theorem bG {n:Int} (h1: -9223372036854775808<=n) (h2:n<9223372036854775808):IntKind.i64.wrap n=n:=by
 show(if(true&&decide (n % 18446744073709551616>=9223372036854775808))=true then n % 18446744073709551616 -18446744073709551616 else n % 18446744073709551616)=n
 simp only[Bool.true_and,decide_eq_true_eq]
 split<;>omega
def HOK (h:Heap):Prop:= ∀i,h.next<=i ->h.get i=none
theorem HOK.alloc {h:Heap} (hk:HOK h) (x:AObj):HOK (h.alloc x):=by
 intro i hi
 simp at hi
 rw[Heap.get_alloc_ne _ _ (by omega)]
 exact hk i (by omega)
theorem cP {h:Heap} {i:Nat} (x:AObj) (hi:i<h.next):(h.alloc x).get i=h.get i:=Heap.get_alloc_ne _ _ (by omega)
theorem cY {h:Heap} {i:Nat} (x:AObj) (hi:i<h.next):rowAt (h.alloc x) i=rowAt h i:=by unfold rowAt;rw[cP x hi]
theorem fW (h:Heap) (l:List Value) (s:Nat) (b:Bool):rowAt (h.alloc (.row l s b)) h.next=some l:=by unfold rowAt;rw[Heap.get_alloc_self];rfl
theorem af {h:Heap} (hk:HOK h) {i:Nat} {l:List Value} (hr:rowAt h i=some l):i<h.next:=by
 rcases Nat.lt_or_ge i h.next with q|q
 ·exact q
 ·unfold rowAt at hr;rw[hk i q]at hr;simp at hr
section
variable (C:Ctx) (t:TypeId) (b o:Nat) (sp:Option Nat) (h:Heap)
theorem Um:bx C t (.pointer (some ⟨b,o,sp⟩)) h=ae (rowAt h b) fun cells=>cO C t cells o:=rfl
theorem cj (p:Option Addr) (n m:Nat) (e:TypeId) (hu:C.und t=some (.slice e)):mg C t (.slice p n m) h=some (.int .i64 n):=by simp[mg,hu,Lc]
end
theorem Qu {C:Ctx} {t:TypeId} {d:TypeDesc} (hu:C.und t=some d) (ha:jT d=false) (cells:List Value) (o:Nat):cO C t cells o=cells[o]? :=by
 unfold cO;rw[hu];simp only[au,ha];exact kO _ _
theorem Qv {C:Ctx} {t:TypeId} {d:TypeDesc} {n:Nat} (hu:C.und t=some d) (ha:jT d=true) (hs:C.size t=some n) (cells:List Value) (o:Nat):cO C t cells o=ae (aA cells o n) fun l=>some (br l):=by
 unfold cO;rw[hu];simp only[au,ha,hs]
theorem eP {cells:List Value} {o n:Nat} (h:o+n<=cells.length):aA cells o n=some ((cells.drop o).take n):=by
 unfold aA
 have:((cells.drop o).take n).length=n:=by simp;omega
 rw[this,Nat.beq_refl]
theorem ah {C:Ctx} {t u:TypeId} {i o z:Nat} (hf:C.fieldAt t i=some (o,u,z)) (hz:Nat.beq z 0=false) (b p:Nat) (sp:Option Nat):ai C t (.pointer (some ⟨b,p,sp⟩)) i=some (.val (.pointer (some ⟨b,p+o,none⟩))):=by
 unfold ai;rw[hf];simp only[au,tG,hz,Bool.not_false,aK];rfl
theorem ED {C:Ctx} {t e:TypeId} {n:Nat} (hu:C.und t=some (.slice e)) (hs:C.size e=some n) (a:Addr) (len cap:Nat) (k:IntKind) (i:Nat) (hi:i<len):aD C t (.slice (some a) len cap) (.int k i)=some (.pointer (some ⟨a.block,a.off+i*n,none⟩)):=by
 unfold aD;rw[hu]
 simp only[rh,au,rq,j6]
 have:Nat.ble (i+1) len=true:=Nat.ble_eq_true_of_le hi
 show ae (aX (Nat.ble (i+1) len) (some i)) _=_
 rw[this];simp only[aK,au,hs,yo]
end Go.Am

namespace Go.Am
open Go
structure Fr (h h':Heap):Prop where
 ok:HOK h'
 next:h.next<=h'.next
 get: ∀i,i<h.next ->h'.get i=h.get i
theorem Fr.refl {h:Heap} (hk:HOK h):Fr h h:=⟨hk,Nat.le_refl _,fun _ _=>rfl⟩
theorem Fr.trans {a b c:Heap} (h:Fr a b) (h':Fr b c):Fr a c:=⟨h'.ok,Nat.le_trans h.next h'.next,fun i hi=>(h'.get i (Nat.lt_of_lt_of_le hi h.next)).trans (h.get i hi)⟩
theorem Fr.alloc {h0 h:Heap} (f:Fr h0 h) (x:AObj):Fr h0 (h.alloc x):=
 ⟨f.ok.alloc x,by have:=f.next;simp;omega,fun i hi=>by rw[Heap.get_alloc_ne _ _ (by have:=f.next;omega)];exact f.get i hi⟩
theorem HOK.set {h:Heap} (hk:HOK h) {i:Nat} (hi:i<h.next) (x:AObj):HOK (h.set i x):=by
 intro j hj
 simp at hj
 rw[Heap.get_set_ne _ _ (by omega)]
 exact hk j hj
theorem Fr.set {h0 h:Heap} (f:Fr h0 h) {i:Nat} (h1:h0.next<=i) (h2:i<h.next) (x:AObj):Fr h0 (h.set i x):=
 ⟨f.ok.set h2 x,by simpa using f.next,fun j hj=>by rw[Heap.get_set_ne _ _ (by omega)];exact f.get j hj⟩
theorem Fr.row {h h':Heap} (f:Fr h h') {i:Nat} (hi:i<h.next):rowAt h' i=rowAt h i:=by unfold rowAt;rw[f.get i hi]
theorem Fr.row' {h h':Heap} (f:Fr h h') (hk:HOK h) {i:Nat} {l:List Value} (hr:rowAt h i=some l):rowAt h' i=some l:=by rw[f.row (af hk hr)];exact hr
theorem aF {h:Heap} (hk:HOK h) {i:Nat} {x:AObj} (hr:h.get i=some x):i<h.next:=by
 rcases Nat.lt_or_ge i h.next with q|q
 ·exact q
 ·rw[hk i q]at hr;simp at hr
theorem Fr.get' {h h':Heap} (f:Fr h h') (hk:HOK h) {i:Nat} {x:AObj} (hr:h.get i=some x):h'.get i=some x:=by rw[f.get i (aF hk hr)];exact hr
def SL (N:Nat) (h:Heap) (v:Value) (l:List Value) (s n:Nat):Prop:=
 (v= .slice none 0 0/\ l=[]/\ n=0) \/ ∃b,v= .slice (some ⟨b,0,some s⟩) n n/\ b≠0/\ N<=b/\ h.get b=some (.row l s true)/\ l.length=n*s
theorem SL.nil (N:Nat) (h:Heap) (s:Nat):SL N h (.slice none 0 0) [] s 0:= .inl ⟨rfl,rfl,rfl⟩
theorem SL.len {N:Nat} {h:Heap} {v:Value} {l:List Value} {s n:Nat} (q:SL N h v l s n):l.length=n*s:=by
 rcases q with⟨_,rfl,rfl⟩|⟨_,_,_,_,_,h1⟩
 ·simp
 ·exact h1
theorem SL.new {N:Nat} {h:Heap} (hN:N<=h.next) (hp:0<h.next) (l:List Value) (s n:Nat) (hl:l.length=n*s):SL N (h.alloc (.row l s true)) (aG s n n h.next) l s n:=
 .inr ⟨h.next,rfl,by omega,hN,by simp,hl⟩
def ay:Value ->Option Nat
 | .slice (some a) _ _=>some a.block
 |_=>none
theorem SL.blk_lt {N:Nat} {h:Heap} {v:Value} {l:List Value} {s n b:Nat} (q:SL N h v l s n) (hk:HOK h) (hb:ay v=some b):N<=b/\ b<h.next:=by
 rcases q with⟨rfl,_,_⟩|⟨b',rfl,_,h1,h2,_⟩
 ·simp[ay]at hb
 ·simp[ay]at hb;subst hb;exact⟨h1,aF hk h2⟩
theorem SL.keep {N:Nat} {h h':Heap} {v:Value} {l:List Value} {s n:Nat} (q:SL N h v l s n) (hg: ∀b,ay v=some b ->h'.get b=h.get b):SL N h' v l s n:=by
 rcases q with q|⟨b,rfl,h1,h2,h3,h4⟩
 ·exact .inl q
 ·exact .inr ⟨b,rfl,h1,h2,by rw[hg b rfl];exact h3,h4⟩
theorem SL.fr {N:Nat} {h h':Heap} {v:Value} {l:List Value} {s n:Nat} (q:SL N h v l s n) (hk:HOK h) (f:Fr h h'):SL N h' v l s n:=
 q.keep fun b hb=>f.get b (q.blk_lt hk hb).2
theorem SL.value {N:Nat} {h:Heap} {v:Value} {l:List Value} {s n:Nat} (q:SL N h v l s n): ∃p c,v= .slice p n c:=by
 rcases q with⟨rfl,_,rfl⟩|⟨b,rfl,_⟩<;>exact⟨_,_,rfl⟩
structure AppT (C:Ctx) (t u:TypeId) (s:Nat):Prop where
 ex: ∃e i du,C.und t=some (.slice e)/\ C.T.get e=some i/\ i.size=s/\ i.bytes<=1024/\ C.und u=some du/\ QW du=true/\ lk i.size (C.zero e)=true
theorem yn {C:Ctx} {t u:TypeId} {ts:List TypeId} {s:Nat} (ht:AppT C t u s) {h0 h:Heap} {v x:Value} {l new:List Value} {n m:Nat} (f:Fr h0 h) (hp:0<h.next) (q:SL h0.next h v l s n)
  (hx:i8 x=some (m+1)) (hc:bf h s (m+1) x=some new) (h1:bF new=true) (hl:new.length=(m+1)*s) (hn:n+(m+1)<=4294967296):
  ∃h',ck C (t::u::ts) v x h=some (aG s (n+(m+1)) (n+(m+1)) h.next,h')/\ SL h0.next h' (aG s (n+(m+1)) (n+(m+1)) h.next) (l++new) s (n+(m+1))/\ Fr h0 h'/\ h'.next=h.next+1/\ ∀i,i<h.next ->ay v≠some i ->h'.get i=h.get i:=by
 obtain⟨e,i,du,e1,e2,e3,e4,e5,e6,e7⟩:=ht.ex
 have hN:h0.next<=h.next:=f.next
 have hlen:l.length=n*s:=q.len
 have b1:(Nat.ble ((n+(m+1))*i.bytes) 35184372088832&&Nat.ble (n+(m+1)) 35184372088832)=true:=by
  have:(n+(m+1))*i.bytes<=4294967296*1024:=Nat.mul_le_mul hn e4
  rw[Bool.and_eq_true]
  exact⟨Nat.ble_eq_true_of_le (by omega),Nat.ble_eq_true_of_le (by omega)⟩
 have fin: ∀{p:Option Addr} {c:Nat} {h':Heap},v= .slice p n c ->Bh p n c=true ->lR h i.size n new p=some h' ->ck C (t::u::ts) v x h=some (aG s (n+(m+1)) (n+(m+1)) h.next,h'):=by
  intro p c h' ev hnil hg
  have ez:lk s (C.zero e)=true:=by rw[<-e3];exact e7
  rw[e3]at hg
  have b2:Nat.beq new.length ((m+1)*s)=true:=by rw[hl];exact Nat.beq_refl _
  simp only[ck,e1,e2,e5,au,dy,e6,e3,ez,Bool.and_self,aK,ev,jQ,hx,rL,hnil,b1,hc,h1,b2,hg]
 have put: ∀h1:Heap,Fr h0 h1 ->h1.next=h.next ->(∀i,i<h.next ->ay v≠some i ->h1.get i=h.get i) ->
   SL h0.next (h1.alloc (.row (l++new) s true)) (aG s (n+(m+1)) (n+(m+1)) h.next) (l++new) s (n+(m+1))/\ Fr h0 (h1.alloc (.row (l++new) s true))/\ (h1.alloc (.row (l++new) s true)).next=h.next+1/\ ∀i,i<h.next ->ay v≠some i ->(h1.alloc (.row (l++new) s true)).get i=h.get i:=by
  intro h1 f1 hn1 hg1
  refine⟨?_,f1.alloc _,by simp[hn1],fun i hi hb=> ?_⟩
  ·rw[<-hn1]
   refine SL.new (by omega) (by omega) _ _ _ ?_
   rw[List.length_append,hlen,hl,<-Nat.add_mul]
  ·rw[Heap.get_alloc_ne _ _ (by omega)];exact hg1 i hi hb
 rcases q with⟨rfl,rfl,rfl⟩|⟨b,rfl,hb0,hbN,hb,_⟩
 ·have:=put h f rfl (fun _ _ _=>rfl)
  exact⟨h.alloc (.row ([]++new) s true),fin rfl rfl (by rw[e3];rfl),this⟩
 ·have hbl:b<h.next:=aF f.ok hb
  have:=put (h.set b .dead) (f.set hbN hbl _) (by simp) (fun i hi hne=>Heap.get_set_ne _ _ (fun e=>hne (by simp[ay,e])))
  refine⟨_,fin rfl rfl ?_,this⟩
  cases b with
  |zero=>exact absurd rfl hb0
  |succ b=>
   simp only[lR,Az,e3,Nat.beq_refl,aK,zE,hb,au,fO]
   have:aA l 0 (n*s)=some l:=by
    rw[eP (by omega),List.drop_zero,List.take_of_length_le (by omega)]
   rw[this]
   rfl
end Go.Am
