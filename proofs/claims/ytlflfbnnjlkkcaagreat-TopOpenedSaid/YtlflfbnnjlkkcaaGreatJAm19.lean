/- Parts Am19, Am20, Am21 of the abstract machine over this program, joined: what each part says stands at its head. -/
import Derived.Test.YtlflfbnnjlkkcaaGreatJAm15
set_option linter.unusedSimpArgs false
set_option linter.unusedVariables false
set_option linter.defProp false
namespace Go.Am
open Go
theorem Fk {C:Ctx} {ts:List TypeId} {s x v:Value} {h h':Heap} (ha:ck C ts s x h=some (v,h')):h.next<=h'.next:=by
 unfold ck at ha
 split at ha
 case h_2=>simp at ha
 obtain⟨d,hd,h1⟩:=ab ha
 obtain⟨e,he,h2⟩:=ab h1
 obtain⟨i,hi,h3⟩:=ab h2
 obtain⟨du,hdu,h4⟩:=ab h3
 obtain⟨_,h5⟩:=aq h4
 obtain⟨q,hq,h6⟩:=ab h5
 obtain⟨n,hn,h7⟩:=ab h6
 obtain⟨_,h8⟩:=aq h7
 cases n with
 |zero=>simp at h8;rw[h8.2];exact Nat.le_refl _
 |succ m=>
  simp only at h8
  obtain⟨_,h9⟩:=aq h8
  obtain⟨new,_,h10⟩:=ab h9
  obtain⟨_,h11⟩:=aq h10
  obtain⟨_,h12⟩:=aq h11
  obtain⟨g,hg,h13⟩:=ab h12
  simp at h13
  obtain⟨_,rfl⟩:=h13
  unfold lR at hg
  split at hg
  ·simp at hg;subst hg;simp
  ·split at hg
   ·simp at hg;subst hg;simp
   ·obtain⟨_,hg⟩:=aq hg
    obtain⟨r,_,hg⟩:=ab hg
    obtain⟨_,hg⟩:=aq hg
    obtain⟨old,_,hg⟩:=ab hg
    simp at hg;subst hg;simp
theorem Is {C:Ctx} {t:TypeId} {p v:Value} {h h':Heap} (hs:rO C t p v h=some h'):h'.next=h.next:=by
 obtain⟨a,ha,h1⟩:=ab hs
 obtain⟨⟨cells,esz⟩,hr,h2⟩:=ab h1
 obtain⟨n,hn,h3⟩:=ab h2
 obtain⟨h4,h5⟩:=aq h3
 obtain⟨h6,h7⟩:=aq h5
 obtain⟨l,hl,h8⟩:=ab h7
 simp at h8;subst h8;rfl
def OAt (C:Ctx) (gd:List Oper ->Bool) (w0:World) (μ:Mu) (n:Nat) (s:FrS) (cs:List Frame) (rd:Option Nat) (b:Frame) (M0:Machine) (todo:List Item):ORes ->Prop
 | .ok s' h'=> ∃μ' w' t' d' cs',Aft C gd w0 μ n s cs rd b s' h' μ' t' d' cs' w'/\ Steps C.P M0 (lone (bW b t' d' todo) cs' w')
 | .panic v s' h'=> ∃s2 μ' w' t' d' cs',Near (.panic v) s' s2/\ Aft C gd w0 μ n s cs rd b s2 h' μ' t' d' cs' w'/\ EndsAt C.P M0 b t' d' cs' w' μ' (.panic v)
theorem TRel.putT {μ:Mu} {s:FrS} {t:Array Value} (h:TRel μ s.tmps t) (dst:Option Tmp) {v V:Value} (hv:VRel μ v V):TRel μ (s.put dst v).tmps (putT t dst V):=by
 cases dst with
 |none=>exact h
 |some d=>exact h.set d hv
theorem sD (μ:Mu):VRel μ undef undef:= .tup' .nil
section
variable {C:Ctx} {gd:List Oper ->Bool} {w0:World} {μ:Mu} {s:FrS} {h:Heap} {rd:Option Nat} {b:Frame} {t:Array Value} {d:List Deferred} {cs:List Frame} {w:World}
theorem oZ (s:FrS) (dst:Option Tmp) (v:Value):(s.put dst v).defers=s.defers:=by cases dst<;>rfl
theorem sL (s:FrS) (dst:Option Tmp) (v:Value):(s.put dst v).pan=s.pan:=by cases dst<;>rfl
theorem St.put (S:St C gd w0 μ s h rd b t d cs w) {μ':Mu} {h':Heap} {w':World} (hle:μ.le μ') (H':HRel (goodP C gd) w0 μ' h' w') (dst:Option Tmp) {v V:Value} (hv:VRel μ' v V):
  St C gd w0 μ' (s.put dst v) h' rd b (putT t dst V) d cs w':=
 ⟨H',(S.T.mono hle).putT dst hv,by rw[oZ];exact S.D.mono hle,S.R.mono hle,by rw[sL];exact S.N.mono hle,S.G.mono hle⟩
theorem St.aft (S:St C gd w0 μ s h rd b t d cs w) {μ':Mu} {h':Heap} {w':World} (hle:μ.le μ') (hfr:Fresh h.next μ μ') (hn:h.next<=h'.next) (H':HRel (goodP C gd) w0 μ' h' w') (dst:Option Tmp) {v V:Value} (hv:VRel μ' v V):
  Aft C gd w0 μ h.next s cs rd b (s.put dst v) h' μ' (putT t dst V) d cs w':=
 ⟨hle,hfr,hn,S.put hle H' dst hv,by rw[sL];exact Cs.refl _ _⟩
theorem St.same (S:St C gd w0 μ s h rd b t d cs w) {μ':Mu} {h':Heap} {w':World} (hle:μ.le μ') (hfr:Fresh h.next μ μ') (hn:h.next<=h'.next) (H':HRel (goodP C gd) w0 μ' h' w'):
  Aft C gd w0 μ h.next s cs rd b s h' μ' t d cs w':=
 ⟨hle,hfr,hn,⟨H',S.T.mono hle,S.D.mono hle,S.R.mono hle,S.N.mono hle,S.G.mono hle⟩,Cs.refl _ _⟩
variable {ops:Array Oper} {i:Nat} {rest:List Nat} {o:Oper} {k:List Item}
theorem lW (S:St C gd w0 μ s h rd b t d cs w) (ho:ops[i]? =some o) (hw:Region.wanted o (yielded ops t)=true) (hd: ∀c,o.op≠ .defer c) {μ':Mu} {h':Heap} {w':World} {v V:Value}
  (hr:(execOp (bW b t d (.inRegion ops (i::rest)::k)).eval o).run C.P w= .ok (.value V) w') (hle:μ.le μ') (hfr:Fresh h.next μ μ') (hn:h.next<=h'.next) (H':HRel (goodP C gd) w0 μ' h' w') (hv:VRel μ' v V):
  OAt C gd w0 μ h.next s cs rd b (lone (bW b t d (.inRegion ops (i::rest)::k)) cs w) (.inRegion ops rest::k) (.ok (s.put o.dst v) h'):=
 ⟨μ',w',_,d,cs,S.aft hle hfr hn H' o.dst hv, .one (Ay ho hw (.inr hd) hr)⟩
theorem Fh (S:St C gd w0 μ s h rd b t d cs w) (ho:ops[i]? =some o) (hw:Region.wanted o (yielded ops t)=true) (hd: ∀c,o.op≠ .defer c) {μ':Mu} {h':Heap} {w':World}
  (hr:(execOp (bW b t d (.inRegion ops (i::rest)::k)).eval o).run C.P w= .ok .skip w') (hle:μ.le μ') (hfr:Fresh h.next μ μ') (hn:h.next<=h'.next) (H':HRel (goodP C gd) w0 μ' h' w'):
  OAt C gd w0 μ h.next s cs rd b (lone (bW b t d (.inRegion ops (i::rest)::k)) cs w) (.inRegion ops rest::k) (.ok (s.put o.dst undef) h'):=
 ⟨μ',w',_,d,cs,S.aft hle hfr hn H' o.dst (sD _), .one (U8 ho hw (.inr hd) hr)⟩
theorem TN (S:St C gd w0 μ s h rd b t d cs w) (ho:ops[i]? =some o) {res:FRes} {r:ORes} (hr:ku s o.dst res=some r)
  (hg: ∃μ' w',μ.le μ'/\ Fresh h.next μ μ'/\ Got C gd w0 h.next (lone (bW b t d (.inRegion ops (i::rest)::k)) cs w) (bW b t d (.inRegion ops (i::rest)::k)) cs μ' w' res):
  OAt C gd w0 μ h.next s cs rd b (lone (bW b t d (.inRegion ops (i::rest)::k)) cs w) (.inRegion ops rest::k) r:=by
 obtain⟨μ',w',hle,hfr,hg⟩:=hg
 cases res with
 |ret v h' p=>
  simp[ku]at hr;subst hr
  obtain⟨hn,H',V,hv,hs⟩:=hg
  rw[i9,ho]at hs
  exact⟨μ',w',_,d,cs,S.aft hle hfr hn H' o.dst hv,hs⟩
 |panic v h'=>
  simp[ku]at hr;subst hr
  obtain⟨hn,H',V,hv,hs⟩:=hg
  exact⟨_,μ',w',t,d,cs, .inl rfl,S.same hle hfr hn H',_,V,hv,hs⟩
variable (hOk:C.Ok gd w0) {self:Self} (hS:SelfOK C gd w0 self)
include hOk hS
theorem ER (S:St C gd w0 μ s h rd b t d cs w) (ho:ops[i]? =some o) (hw:Region.wanted o (yielded ops t)=true) (hgo:jI C o=true) {r:ORes} (he:c9 C self rd o.dst s h o.op=some r):
  OAt C gd w0 μ h.next s cs rd b (lone (bW b t d (.inRegion ops (i::rest)::k)) cs w) (.inRegion ops rest::k) r:=by
 have hρ: ∀x∈o.op.operands.toList,VRel μ (ev s.tmps x) ((bW b t d (.inRegion ops (i::rest)::k)).eval x):=fun x hx=>B8 S.G S.T (List.all_eq_true.1 hgo x hx)
 have H:=S.H
 have G:=S.G
 have hap: ∀hd: ∀c,o.op≠ .defer c,(stepG C.P true {frame:=bW b t d (.inRegion ops (i::rest)::k),callers:=cs,status:= .running,dying:=none} w).bare=
   (stepG.apply C.P true (bW b t d (.inRegion ops (i::rest)::k)) cs none (execOp (bW b t d (.inRegion ops (i::rest)::k)).eval o) w).bare:=fun hd=>by rw[lD ho hw (.inr hd)]
 generalize hev:(bW b t d (.inRegion ops (i::rest)::k)).eval=R at hρ hap
 cases hop:o.op<;>rw[hop]at he hρ<;>try (simp[c9]at he;done)
 case store ty a v=>
  obtain⟨h',hs,h1⟩:=ab he
  simp[jn]at h1;subst h1
  obtain⟨w',hrun,H'⟩:=Mb hOk.ok0 H (hρ a (by simp[Op.operands])) (hρ v (by simp[Op.operands])) hs
  exact Fh S ho hw (by rw[hop];simp) (by rw[hev];simp[execOp,hop,hrun]) (fun _ _ a=>a) (Fresh.refl _ _) (Nat.le_of_eq (Is hs).symm) H'
 case mapUpdate ty m k' v=>
  obtain⟨h',hs,h1⟩:=ab he
  simp[jn]at h1;subst h1
  obtain⟨w',hrun,H',hn⟩:=tH hOk.ok0 H (hρ m (by simp[Op.operands])) (hρ k' (by simp[Op.operands])) (hρ v (by simp[Op.operands])) hs
  exact Fh S ho hw (by rw[hop];simp) (by rw[hev];simp[execOp,hop,hrun]) (fun _ _ a=>a) (Fresh.refl _ _) (Nat.le_of_eq hn.symm) H'
 case insert ty m k' v=>
  obtain⟨h',hs,h1⟩:=ab he
  simp[jn]at h1;subst h1
  obtain⟨w',hrun,H',hn⟩:=tH hOk.ok0 H (hρ m (by simp[Op.operands])) (hρ k' (by simp[Op.operands])) (hρ v (by simp[Op.operands])) hs
  exact Fh S ho hw (by rw[hop];simp) (by rw[hev];simp[execOp,hop,hrun]) (fun _ _ a=>a) (Fresh.refl _ _) (Nat.le_of_eq hn.symm) H'
 case range ty x=>
  have hx:=hρ x (by simp[Op.operands])
  simp only[c9]at he
  unfold vi at he
  split at he
  ·rename_i bs hbs
   rw[hbs]at hx
   obtain⟨dd,hdd,h1⟩:=ab he
   obtain⟨hst,h2⟩:=aq h1
   simp at h2;subst h2
   obtain⟨V,w',μ',hrun,hle,hfr,H',hv⟩:=Mv hOk.ok0 H (b:=bs) hdd hst
   exact lW S ho hw (by rw[hop];simp) (by rw[hev];simp[execOp,hop,hx.string_inv,hrun]) hle hfr (by simp) H' hv
  ·simp at he
 case next it bb=>
  obtain⟨hb,h1⟩:=aq he
  subst hb
  obtain⟨⟨v,h'⟩,hs,h2⟩:=ab h1
  simp[ofVal]at h2;subst h2
  obtain⟨V,w',hrun,H',hn,hv⟩:=QJ (P:=C.P) (ty:=o.type) H (hρ it (by simp[Op.operands])) hs
  exact lW S ho hw (by rw[hop];simp) (by rw[hev];simp[execOp,hop,hrun]) (fun _ _ a=>a) (Fresh.refl _ _) (Nat.le_of_eq hn.symm) H' hv
 case panic x=>
  have hx:=hρ x (by simp[Op.operands])
  simp only[c9]at he
  unfold sO at he
  split at he
  ·rename_i ty v hvv
   rw[hvv]at hx
   simp at he;subst he
   obtain⟨U,hU,hu⟩:=hx.iface_inv
   refine⟨_,μ,w,t,d,cs, .inl rfl,S.same (fun _ _ a=>a) (Fresh.refl _ _) (Nat.le_refl _) H,_, .iface ty U, .iface _ _ _ hu, .one (OR ho hw (.inr (by rw[hop];simp)) (v:= .iface ty U) (by rw[hev];simp[execOp,hop,hU,Instr.panic,goPanic]))⟩
  ·simp at he
 case defer c=>
  simp only[c9]at he
  unfold zK at he
  split at he
  ·rename_i f hcal
   unfold om at he
   split at he
   ·rename_i fn first cap hval
    simp at he;subst he
    have hf:=hρ f (by simp[Op.operands,Call.operands,hcal])
    rw[hval]at hf
    obtain⟨FN,FIRST,CAP,hRf,hfn,hfi,hca⟩:=hf.func_inv
    have hargs:VRels μ (c.args.toList.map (ev s.tmps)) (c.args.toList.map R):= .map fun x hx=>hρ x (by simp[Op.operands,Call.operands];right;simpa using hx)
    have hro:b.roundOf=none:=by
     have:=S.R
     cases hb:b.roundOf with
     |none=>rfl
     |some l=>rw[hb]at this;exact this.elim
    have hrun:(execOp R o).run C.P w= .ok (.defer {target:= .fn FN CAP,args:=FIRST++c.args.map R}) w:=by
     simp[execOp,hop,resolve,hcal,hRf,Deferred.ofValue]
    have hst:Go.step C.P (lone (bW b t d (.inRegion ops (i::rest)::k)) cs w)=
      .next (lone (bW b (putT t o.dst undef) ({target:= .fn FN CAP,args:=FIRST++c.args.map R}::d) (.inRegion ops rest::k)) cs w):=by
     have e:=i9 (b:=b) (t:=t) (d:={target:= .fn FN CAP,args:=FIRST++c.args.map R}::d) (k:=k) (ops:=ops) (i:=i) (rest:=rest) undef
     rw[ho]at e
     simp only[Option.bind_some]at e
     rw[<-e]
     refine step_lone_go ?_
     rw[lD ho hw (.inl hro),hev]
     simp only[stepG.apply,Sem.runT_eq,if_true,hrun,GStep.bare_after,GStep.bare_go]
     rfl
    refine⟨μ,w,_,_,cs,⟨fun _ _ a=>a,Fresh.refl _ _,Nat.le_refl _,?_,by rw[sL];exact Cs.refl _ _⟩, .one hst⟩
    have S1:=S.put (fun _ _ a=>a) H o.dst (sD μ)
    refine⟨H,?_,?_,S.R,by rw[sL];exact S.N,S.G⟩
    ·have:=S1.T
     cases hd:o.dst<;>rw[hd]at this<;>exact this
    ·rw[oZ]
     refine⟨⟨FN,CAP,rfl,hfn,hca,?_⟩,S.D⟩
     simpa using hfi.append hargs
   ·simp at he
  ·simp at he
 case call c=>
  have hargs:VRels μ (c.args.toList.map (ev s.tmps)) (c.args.map R).toList:=by
   have:(c.args.map R).toList=c.args.toList.map R:=by simp
   rw[this]
   exact .map fun x hx=>hρ x (by simp[Op.operands,Call.operands];right;simpa using hx)
  simp only[c9]at he
  unfold Cl at he
  have hnd: ∀c,o.op≠ .defer c:=by rw[hop];simp
  cases hcal:c.callee with
  |value f=>
   rw[hcal]at he
   simp only at he
   unfold pL at he
   split at he
   ·rename_i fn first cap hval
    obtain⟨res,hres,h1⟩:=ab he
    have hf:=hρ f (by simp[Op.operands,Call.operands,hcal])
    rw[hval]at hf
    obtain⟨FN,FIRST,CAP,hRf,hfn,hfi,hca⟩:=hf.func_inv
    have hA:VRels μ (first.toList++c.args.toList.map (ev s.tmps)) (FIRST++c.args.map R).toList:=by simpa using hfi.append hargs
    refine TN S ho h1 (yZ hOk hS hres hfn hca hA H G rfl ?_ (hap hnd))
    simp[execOp,hop,resolve,hcal,hRf,Deferred.ofValue]
   ·simp at he
  |invoke rv name=>
   rw[hcal]at he
   simp only at he
   obtain⟨res,hres,h1⟩:=ab he
   have hf:=hρ rv (by simp[Op.operands,Call.operands,hcal])
   refine TN S ho h1 (DX hOk hS hres (CAP:= #[]) (ARGS:=c.args.map R) hf hargs H G rfl ?_ (hap hnd))
   have e:(#[R rv]++c.args.map R).extract 1 (#[R rv]++c.args.map R).size=c.args.map R:=by
    apply Array.ext'
    simp only[Array.toList_extract,Array.toList_append,List.extract_eq_take_drop]
    simp only[Array.size_append,List.size_toArray,List.length_cons,List.length_nil,Array.size_map,List.cons_append,List.nil_append,List.drop_succ_cons,List.drop_zero]
    exact List.take_of_length_le (by simp)
   have h0:(#[R rv]++c.args.map R)[0]? =some (R rv):=by rw[<-Array.getElem?_toList];simp
   have e2:(execOp R o).run C.P w=(invoke (.fn (.method name) #[]) (#[R rv]++c.args.map R)).run C.P w:=by
    simp only[execOp,hop,resolve,hcal,Sem.run_bind,Sem.run_pure,Result.andThen_ok]
   rw[e2]
   simp only[invoke,h0,e]
  |builtin bb=>
   rw[hcal]at he
   simp only at he
   cases bb<;>simp only[mD]at he<;>try (simp at he;done)
   case append=>
    split at he
    ·rename_i x y l hl
     obtain⟨⟨v,h'⟩,hv,h1⟩:=ab he
     simp[ofVal]at h1;subst h1
     rw[hl]at hargs
     obtain⟨X,L,hL,hx,h2⟩:=hargs.cons_inv
     obtain⟨Y,L',rfl,hy,_⟩:=h2.cons_inv
     obtain⟨V,w',μ',hrun,hle,hfr,H',hvr⟩:=Kk (ty:=o.type) hOk.ok0 H (ARGS:=c.args.map R) (by rw[<-Array.getElem?_toList,hL];rfl) (by rw[<-Array.getElem?_toList,hL];rfl) hx hy hv
     exact lW S ho hw hnd (by rw[hev];simp[execOp,hop,resolve,hcal,invoke,builtin,hrun]) hle hfr (Fk hv) H' hvr
    ·simp at he
   case copy=>
    split at he
    ·rename_i x y l hl
     obtain⟨⟨v,h'⟩,hv,h1⟩:=ab he
     simp[ofVal]at h1;subst h1
     rw[hl]at hargs
     obtain⟨X,L,hL,hx,h2⟩:=hargs.cons_inv
     obtain⟨Y,L',rfl,hy,_⟩:=h2.cons_inv
     obtain⟨w',hrun,H',hn,hp⟩:=Tz (ty:=o.type) hOk.ok0 H (ARGS:=c.args.map R) (by rw[<-Array.getElem?_toList,hL];rfl) (by rw[<-Array.getElem?_toList,hL];rfl) hx hy hv
     exact lW S ho hw hnd (by rw[hev];simp[execOp,hop,resolve,hcal,invoke,builtin,hrun]) (fun _ _ a=>a) (Fresh.refl _ _) (Nat.le_of_eq hn.symm) H' (.plain _ hp)
    ·simp at he
   case delete=>
    split at he
    ·rename_i ty ts x y l hts hl
     obtain⟨h',hv,h1⟩:=ab he
     simp at h1;subst h1
     rw[hl]at hargs
     obtain⟨X,L,hL,hx,h2⟩:=hargs.cons_inv
     obtain⟨Y,L',rfl,hy,_⟩:=h2.cons_inv
     obtain⟨w',hrun,H',hn⟩:=J4 (ty:=o.type) hOk.ok0 H (ts:=c.argTypes) (t:=ty) (ARGS:=c.args.map R) (by rw[<-Array.getElem?_toList,hts];rfl) (by rw[<-Array.getElem?_toList,hL];rfl) (by rw[<-Array.getElem?_toList,hL];rfl) hx hy hv
     exact lW S ho hw hnd (by rw[hev];simp[execOp,hop,resolve,hcal,invoke,builtin,hrun]) (fun _ _ a=>a) (Fresh.refl _ _) (Nat.le_of_eq hn.symm) H' (.tup' .nil)
    ·simp at he
   case recover=>
    unfold sK at he
    cases rd with
    |some l=>simp at he
    |none=>
     simp only at he
     have hro:b.roundOf=none:=by
      have:=S.R
      cases hb:b.roundOf with
      |none=>rfl
      |some l=>rw[hb]at this;exact this.elim
     have hrun:(execOp R o).run C.P w= .ok .recover w:=by
      simp[execOp,hop,resolve,hcal,invoke,builtin]
     cases hp:s.pan with
     |none=>
      rw[hp]at he
      simp at he;subst he
      have N:=S.N
      rw[hp]at N
      have hst:Go.step C.P (lone (bW b t d (.inRegion ops (i::rest)::k)) cs w)= .next (lone (bW b (putT t o.dst .nilIface) d (.inRegion ops rest::k)) cs w):=by
       have e:=i9 (b:=b) (t:=t) (d:=d) (k:=k) (ops:=ops) (i:=i) (rest:=rest) .nilIface
       rw[ho]at e
       simp only[Option.bind_some]at e
       rw[<-e]
       refine step_lone_go ?_
       rw[hap hnd]
       have ht:=N (bW b t d (.inRegion ops (i::rest)::k)) rfl
       have hro':(bW b t d (.inRegion ops (i::rest)::k)).roundOf=none:=hro
       simp only[stepG.apply,Sem.runT_eq,if_true,hrun,GStep.bare_after,hro',ht,GStep.bare_go]
      exact⟨μ,w,_,d,cs,S.aft (fun _ _ a=>a) (Fresh.refl _ _) (Nat.le_refl _) H o.dst (.plain _ rfl), .one hst⟩
     |some v=>
      rw[hp]at he
      simp at he;subst he
      have N:=S.N
      rw[hp]at N
      obtain⟨hkind,c',rest',V,rfl,hv,hmode⟩:=N
      have hst:Go.step C.P (lone (bW b t d (.inRegion ops (i::rest)::k)) (c'::rest') w)=
        .next (lone (bW b (putT t o.dst V) d (.inRegion ops rest::k)) ({c' with mode:= .panicking [{v:=V,recovered:=true}]}::rest') w):=by
       have e:=i9 (b:=b) (t:=t) (d:=d) (k:=k) (ops:=ops) (i:=i) (rest:=rest) V
       rw[ho]at e
       simp only[Option.bind_some]at e
       rw[<-e]
       refine step_lone_go ?_
       rw[hap hnd]
       have ht:tryRecover (bW b t d (.inRegion ops (i::rest)::k)) (c'::rest')=some (V,{c' with mode:= .panicking [{v:=V,recovered:=true}]}::rest'):=by
        unfold tryRecover
        have:(bW b t d (.inRegion ops (i::rest)::k)).kind= .deferred:=hkind
        rw[this]
        simp only[hmode]
       have hro':(bW b t d (.inRegion ops (i::rest)::k)).roundOf=none:=hro
       simp only[stepG.apply,Sem.runT_eq,if_true,hrun,GStep.bare_after,hro',ht,GStep.bare_go]
      refine⟨μ,w,_,d,_,⟨fun _ _ a=>a,Fresh.refl _ _,Nat.le_refl _,⟨H,S.T.putT o.dst hv,S.D,S.R,?_,S.G⟩, .inr ⟨v,c',rest',V,hp,rfl,rfl,hmode,rfl⟩⟩, .one hst⟩
      intro fr hk
      unfold tryRecover
      rw[hk,hkind]
end
end Go.Am

namespace Go.Am
open Go
section
variable {C:Ctx} {gd:List Oper ->Bool} {w0:World} {μ:Mu} {s:FrS} {h:Heap} {rd:Option Nat} {b:Frame} {t:Array Value} {d:List Deferred} {cs:List Frame} {w:World}
theorem SelfOK.cont {self:Self} (hS:SelfOK C gd w0 self) {n:Nat} {s1:FrS} {h1:Heap} {μ1:Mu} {t1:Array Value} {d1:List Deferred} {cs1:List Frame} {w1:World} {M0:Machine} {k1:List Item} {r:FEnd} {s':FrS} {h':Heap}
  (A:Aft C gd w0 μ n s cs rd b s1 h1 μ1 t1 d1 cs1 w1) (hs:Steps C.P M0 (lone (bW b t1 d1 k1) cs1 w1)) (he:self rd k1 s1 h1=some (r,s',h')) (gk:goodItems C gd k1):
  ∃s2 μ' w' tmps' ds' cs',Near r s' s2/\ Aft C gd w0 μ n s cs rd b s2 h' μ' tmps' ds' cs' w'/\ EndsAt C.P M0 b tmps' ds' cs' w' μ' r:=by
 obtain⟨s2,μ',w',t',d',cs',nr,A',E'⟩:=hS rd k1 s1 h1 r s' h' he gk μ1 w1 b cs1 t1 d1 A.st
 exact⟨s2,μ',w',t',d',cs',nr,A.trans A',E'.of_steps hs⟩
theorem VRel.bool_iff {v V:Value} (hv:VRel μ v V) (c:Bool):v= .bool c↔V= .bool c:=by
 constructor
 ·rintro rfl;exact hv.bool_inv
 ·rintro rfl;cases hv;rfl
theorem Kg (want:Bool) (v:Value):uH want v=true↔v= .bool want:=by
 cases v<;>simp[uH]
theorem sC {τ:List (List Value)} (hT:TRel μ τ t) (ops:Array Oper) (o:Oper):bO ops.toList o τ=Region.wanted o (yielded ops t):=by
 unfold bO Region.wanted
 cases hg:o.guard with
 |none=>rfl
 |some q=>
  obtain⟨j,want⟩:=q
  simp only
  unfold gJ yielded
  rw[kO,Array.getElem?_toList]
  cases hj:ops[j]? with
  |none=>simp
  |some g=>
   simp only[au,Option.bind_some]
   cases hd:g.dst with
   |none=>simp
   |some x=>
    simp only[Option.bind_some]
    have hx:=(hT x).1
    rw[Bool.eq_iff_iff,Kg,hx.bool_iff]
    rw[Array.getD_eq_getD_getElem?]
    cases hv:t[x]? with
    |none=>simp[undef]
    |some V=>
     simp only[Option.getD_some]
     cases V<;>simp
variable {ops:Array Oper} {i:Nat} {rest:List Nat} {o:Oper} {k:List Item}
theorem Tt (hOk:C.Ok gd w0) (S:St C gd w0 μ s h rd b t d cs w) (ho:ops[i]? =some o) (hw:Region.wanted o (yielded ops t)=true) (hgo:jI C o=true) {e:EV} (he:aJ C (ev s.tmps) h o.op=some e) {r:ORes} (hr:mn o.dst s h e=some r):
  OAt C gd w0 μ h.next s cs rd b (lone (bW b t d (.inRegion ops (i::rest)::k)) cs w) (.inRegion ops rest::k) r:=by
 have hρ: ∀x∈o.op.operands.toList,VRel μ (ev s.tmps x) ((bW b t d (.inRegion ops (i::rest)::k)).eval x):=fun x hx=>B8 S.G S.T (List.all_eq_true.1 hgo x hx)
 have hd: ∀c,o.op≠ .defer c:=by intro c e';rw[e']at he;simp[aJ]at he
 have hE:=yf hOk.ok0 S.H hρ he
 cases e with
 |val v=>
  simp[mn]at hr;subst hr
  obtain⟨V,w',hrun,hq,hv⟩:=hE
  exact lW S ho hw hd hrun (fun _ _ a=>a) (Fresh.refl _ _) (Nat.le_refl _) (S.H.quiet hq) hv
 |new x mk=>
  obtain⟨_,hr⟩:=aq hr
  simp at hr;subst hr
  obtain⟨V,w',O,lim,esz,hrun,hg,hx⟩:=hE
  have hf:=S.H.fresh
  have hpos:=S.H.pos
  obtain⟨h1,h2⟩:=hx h.next hf (by omega)
  exact lW S ho hw hd hrun (Mu.le_upd _ hf) (Fresh.upd _ _ (Nat.le_refl _)) (by simp) ((S.H.allocA x).grew lim esz hf (by omega) (by simp) (Heap.get_alloc_self _ _) hg h1) h2
theorem do_at (hOk:C.Ok gd w0) {self:Self} (hS:SelfOK C gd w0 self) (S:St C gd w0 μ s h rd b t d cs w) (ho:ops[i]? =some o) (hw:Region.wanted o (yielded ops t)=true) (hgo:jI C o=true) {r:ORes} (hr:H6 C self rd o s h=some r):
  OAt C gd w0 μ h.next s cs rd b (lone (bW b t d (.inRegion ops (i::rest)::k)) cs w) (.inRegion ops rest::k) r:=by
 unfold H6 at hr
 split at hr
 ·exact ER hOk hS S ho hw hgo hr
 ·obtain⟨e,he,h1⟩:=ab hr
  exact Tt hOk S ho hw hgo he h1
theorem OAt.trans {n:Nat} {s1:FrS} {h1:Heap} {μ1:Mu} {t1:Array Value} {d1:List Deferred} {cs1:List Frame} {w1:World} {M0:Machine} {k1 todo:List Item} {r:ORes}
  (A:Aft C gd w0 μ n s cs rd b s1 h1 μ1 t1 d1 cs1 w1) (hs:Steps C.P M0 (lone (bW b t1 d1 k1) cs1 w1)) (h:OAt C gd w0 μ1 h1.next s1 cs1 rd b (lone (bW b t1 d1 k1) cs1 w1) todo r):
  OAt C gd w0 μ n s cs rd b M0 todo r:=by
 cases r with
 |ok s' h'=>obtain⟨μ',w',t',d',cs',A',hs'⟩:=h;exact⟨μ',w',t',d',cs',A.trans A',hs.trans hs'⟩
 |panic v s' h'=>obtain⟨s2,μ',w',t',d',cs',nr,A',E⟩:=h;exact⟨s2,μ',w',t',d',cs',nr,A.trans A',E.of_steps hs⟩
theorem GK (C:Ctx) (self:Self) (rd:Option Nat) (ops:List Oper) (o:Oper) (l:List Oper) (s:FrS) (h:Heap):iV C self rd ops (o::l) s h=tF C self rd ops o (iV C self rd ops l) s h:=rfl
theorem Jh (hOk:C.Ok gd w0) {self:Self} (hS:SelfOK C gd w0 self) (hgo: ∀o∈ops.toList,jI C o=true): ∀(l:List Oper) (pre:List Oper),ops.toList=pre++l -> ∀{μ:Mu} {s:FrS} {h:Heap} {t:Array Value} {d:List Deferred} {cs:List Frame} {w:World} {r:ORes},
  iV C self rd ops.toList l s h=some r ->St C gd w0 μ s h rd b t d cs w ->OAt C gd w0 μ h.next s cs rd b (lone (bW b t d (.inRegion ops (List.range' pre.length l.length)::k)) cs w) k r
 |[],pre,hp,μ,s,h,t,d,cs,w,r,hr,S=>by
  have:r= .ok s h:=by simpa[iV,cU]using hr.symm
  subst this
  exact⟨μ,w,t,d,cs,Aft.refl S, .one u2⟩
 |o::l,pre,hp,μ,s,h,t,d,cs,w,r,hr,S=>by
  rw[GK]at hr
  have ho:ops[pre.length]? =some o:=by rw[<-Array.getElem?_toList,hp];simp
  have hp':ops.toList=(pre++[o])++l:=by rw[hp];simp
  have hl:(pre++[o]).length=pre.length+1:=by simp
  rw[List.length_cons,List.range'_succ]
  unfold tF at hr
  split at hr
  ·rename_i hwa
   have hw:Region.wanted o (yielded ops t)=true:=by rw[<-sC S.T];exact hwa
   obtain⟨r1,hr1,h2⟩:=ab hr
   have A1:=do_at (k:=k) (rest:=List.range' (pre.length+1) l.length) hOk hS S ho hw (hgo o (by rw[hp];simp)) hr1
   cases r1 with
   |ok s1 h1=>
    obtain⟨μ1,w1,t1,d1,cs1,A,hs⟩:=A1
    have h2:iV C self rd ops.toList l s1 h1=some r:=h2
    have:=Jh hOk hS hgo l (pre++[o]) hp' h2 A.st
    rw[hl]at this
    exact OAt.trans A hs this
   |panic v s1 h1=>
    have h2:some (ORes.panic v s1 h1)=some r:=h2
    simp at h2;subst h2
    exact A1
  ·rename_i hwa
   have hw:Region.wanted o (yielded ops t)=false:=by rw[<-sC S.T];exact hwa
   have A:=S.aft (fun _ _ a=>a) (Fresh.refl _ _) (Nat.le_refl _) S.H o.dst (sD μ)
   have:=Jh hOk hS hgo l (pre++[o]) hp' hr A.st
   rw[hl]at this
   exact OAt.trans A (.one (Da ho hw)) this
end
def Kz (C:Ctx) (gd:List Oper ->Bool) (w0:World) (self:Self):Prop:=
 ∀(ops:Array Oper) (rd:Option Nat) (s:FrS) (h:Heap) (r:ORes),eV C self rd ops.toList (i7 ops.toList) [] s h=some r ->gd ops.toList=true ->(∀o∈ops.toList,jI C o=true) ->
  ∀μ w b cs t d k x,St C gd w0 μ s h rd b t d cs w ->OAt C gd w0 μ h.next s cs rd b (lone (bW b t d (.inRegion ops (Region.schedule (C.P.follows .mixedOrders) ops x)::k)) cs w) k r
section
variable {C:Ctx} {gd:List Oper ->Bool} {w0:World}
theorem xg {o:AObj} {r:ALoop} (h:km o=some r):o= .loop r:=by
 unfold km at h;split at h
 ·simp at h;subst h;rfl
 ·simp at h
theorem CP {μ:Mu} {s:FrS} {h:Heap} {rd:Option Nat} {b:Frame} {t:Array Value} {d:List Deferred} {cs:List Frame} {w:World} (S:St C gd w0 μ s h rd b t d cs w) {params:Array Tmp} {assign body:Code} {q:Nat×List Deferred×Heap}
  (ga:cH C gd assign=true) (gb:cH C gd body=true) (hq:pJ rd s.tmps params.toList assign body h=some q):
  ∃L mark w' μ' e,(Instr.enterLoop b.fn t params assign body b.roundOf).run C.P w= .ok (L,mark) w'/\ μ' q.1=some e/\ L=e.blk/\ DRels μ' q.2.1 mark/\ μ.le μ'/\ Fresh h.next μ μ'/\ h.next<=q.2.2.next/\ HRel (goodP C gd) w0 μ' q.2.2 w':=by
 have hf:=S.H.fresh
 have hpos:=S.H.pos
 cases rd with
 |none=>
  have hro:b.roundOf=none:=by
   have:=S.R
   cases hb:b.roundOf with
   |none=>rfl
   |some l=>rw[hb]at this;exact this.elim
  simp[pJ]at hq;subst hq
  have H1:HRel (goodP C gd) w0 (μ.upd h.next ⟨w.heap.size,0,0,0⟩) (h.alloc (.deferred true)) (w.alloc (.deferred (some []))):=
   (S.H.allocA (.deferred true)).grew 0 0 hf (by omega) (by simp) (Heap.get_alloc_self _ _) (Grew.alloc w _) ⟨S.H.size,rfl⟩
  have hf1:=H1.fresh
  simp only[Heap.next_alloc]at hf1
  have hle1:μ.le (μ.upd h.next ⟨w.heap.size,0,0,0⟩):=Mu.le_upd _ hf
  have hle2:(μ.upd h.next ⟨w.heap.size,0,0,0⟩).le ((μ.upd h.next ⟨w.heap.size,0,0,0⟩).upd (h.next+1) ⟨(w.alloc (.deferred (some []))).heap.size,0,0,0⟩):=Mu.le_upd _ hf1
  have H2:HRel (goodP C gd) w0 ((μ.upd h.next ⟨w.heap.size,0,0,0⟩).upd (h.next+1) ⟨(w.alloc (.deferred (some []))).heap.size,0,0,0⟩) ((h.alloc (.deferred true)).alloc (.loop (iN s.tmps params.toList assign body h.next)))
    ((w.alloc (.deferred (some []))).alloc (.loop {state:= .ready,pending:=none,fn:=b.fn,tmps:=t,params,assign,body,defers:=w.heap.size})):=by
   refine(H1.allocA (.loop (iN s.tmps params.toList assign body h.next))).grew 0 0 hf1 (by omega) (by simp) (Heap.get_alloc_self _ _) (Grew.alloc _ _) ⟨H1.size,_,rfl,?_⟩
   exact{state:=rfl,pending:=rfl,tmps:=S.T.mono (hle1.trans hle2),params:=rfl,assign:=rfl,body:=rfl,goodA:=ga,goodB:=gb,goodP:=(by intro c hc;cases hc),defers:=⟨_,hle2 _ _ (Mu.upd_self _ _ _),rfl⟩}
  refine⟨_,[{target:= .collected w.heap.size,args:= #[]}],_,_,_,?_,Mu.upd_self _ _ _,rfl,?_,hle1.trans hle2,?_,by simp only[Heap.next_alloc];omega,H2⟩
  ·simp[Instr.enterLoop,hro]
  ·exact⟨⟨_,hle2 _ _ (Mu.upd_self _ _ _),rfl⟩,trivial⟩
  ·exact Fresh.trans (m:=h.next+1) (by omega) (Fresh.upd _ _ (Nat.le_refl _)) (Fresh.upd _ _ (Nat.le_refl _))
 |some l=>
  obtain⟨r,hr,h1⟩:=ab hq
  obtain⟨o,ho,hlo⟩:=ab hr
  obtain rfl:=xg hlo
  simp at h1;subst h1
  obtain⟨L0,hro,e,he,rfl⟩: ∃L0,b.roundOf=some L0/\ ∃e,μ l=some e/\ L0=e.blk:=by
   have:=S.R
   cases hb:b.roundOf with
   |none=>rw[hb]at this;exact this.elim
   |some l0=>rw[hb]at this;exact⟨l0,rfl,this⟩
  obtain⟨hge,L,hob,LR⟩:=S.H.obj l e _ he ho
  obtain⟨de,hde,hdl⟩:=LR.defers
  have hle:μ.le (μ.upd h.next ⟨w.heap.size,0,0,0⟩):=Mu.le_upd _ hf
  refine⟨w.heap.size,[],w.alloc (.loop {state:= .ready,pending:=none,fn:=b.fn,tmps:=t,params,assign,body,defers:=L.defers}),μ.upd h.next ⟨w.heap.size,0,0,0⟩,⟨w.heap.size,0,0,0⟩,?_,Mu.upd_self _ _ _,rfl,trivial,hle,Fresh.upd _ _ (Nat.le_refl _),by simp,?_⟩
  ·simp[Instr.enterLoop,hro,Instr.getLoop,im rfl hob]
  ·refine(S.H.allocA (.loop (iN s.tmps params.toList assign body r.defers))).grew 0 0 hf (by omega) (by simp) (Heap.get_alloc_self _ _) (Grew.alloc _ _) ⟨S.H.size,_,rfl,?_⟩
   exact{state:=rfl,pending:=rfl,tmps:=S.T.mono hle,params:=rfl,assign:=rfl,body:=rfl,goodA:=ga,goodB:=gb,goodP:=(by intro c hc;cases hc),defers:=⟨de,hle _ _ hde,hdl⟩}
end
end Go.Am

namespace Go.Am
open Go
section
variable {C:Ctx} {gd:List Oper ->Bool} {w0:World} (hOk:C.Ok gd w0) {self:Self} (hS:SelfOK C gd w0 self) (hD:Kz C gd w0 self)
include hOk hS hD
def Uu (C:Ctx) (gd:List Oper ->Bool) (w0:World) (μ:Mu) (n:Nat) (s:FrS) (cs:List Frame) (rd:Option Nat) (b:Frame) (M0:Machine) (r:FEnd) (s':FrS) (h':Heap):Prop:=
 ∃s2 μ' w' tmps' ds' cs',Near r s' s2/\ Aft C gd w0 μ n s cs rd b s2 h' μ' tmps' ds' cs' w'/\ EndsAt C.P M0 b tmps' ds' cs' w' μ' r
theorem I9 {μ:Mu} {s:FrS} {h:Heap} {rd:Option Nat} {b:Frame} {t:Array Value} {d:List Deferred} {cs:List Frame} {w:World} (S:St C gd w0 μ s h rd b t d cs w) {id:Nat} {ops:Array Oper} {draw:Bool} {k:List Item}
  (hg:uz C gd ops.toList draw=true) (gk:goodItems C gd k) {r:FEnd} {s':FrS} {h':Heap} (hr:Ge C self rd ops.toList k s h draw=some (r,s',h')):
  Uu C gd w0 μ h.next s cs rd b (lone (bW b t d (.code (.region id ops draw)::k)) cs w) r s' h':=by
 obtain⟨hg1,hg2⟩:=(Bool.and_eq_true _ _).mp hg
 have hgo: ∀o∈ops.toList,jI C o=true:=List.all_eq_true.1 hg1
 have fin: ∀{μ1:Mu} {w1:World} {ro:ORes} {M1:Machine},Steps C.P (lone (bW b t d (.code (.region id ops draw)::k)) cs w) M1 ->gV self rd k ro=some (r,s',h') ->OAt C gd w0 μ h.next s cs rd b M1 k ro ->
   Uu C gd w0 μ h.next s cs rd b (lone (bW b t d (.code (.region id ops draw)::k)) cs w) r s' h':=by
  intro μ1 w1 ro M1 hs hro hO
  cases ro with
  |ok s1 h1=>
   obtain⟨μ',w',t',d',cs',A,hs2⟩:=hO
   exact hS.cont A (hs.trans hs2) hro gk
  |panic v s1 h1=>
   simp[gV]at hro
   obtain⟨rfl,rfl,rfl⟩:=hro
   obtain⟨s2,μ',w',t',d',cs',nr,A,E⟩:=hO
   exact⟨s2,μ',w',t',d',cs',nr,A,E.of_steps hs⟩
 cases draw with
 |false=>
  obtain⟨ro,h1,h2⟩:=ab hr
  have:=Jh (k:=k) (rd:=rd) (b:=b) hOk hS hgo ops.toList [] rfl h1 S
  refine fin (μ1:=μ) (w1:=w) (.one Mf) h2 ?_
  have e:List.range ops.size=List.range' 0 ops.toList.length:=by simp[List.range_eq_range']
  rw[e]
  exact this
 |true=>
  obtain⟨ro,h1,h2⟩:=ab hr
  have S1:St C gd w0 μ s h rd b t d cs w.drew:=⟨S.H.quiet (Quiet.drew w),S.T,S.D,S.R,S.N,S.G⟩
  exact fin (μ1:=μ) (w1:=w) (.one Vc) h2 (hD ops rd s h ro h1 hg2 hgo μ w.drew b cs t d k _ S1)
theorem AV {μ:Mu} {s:FrS} {h:Heap} {rd:Option Nat} {b:Frame} {t:Array Value} {d:List Deferred} {cs:List Frame} {w:World} (S:St C gd w0 μ s h rd b t d cs w) {f:Operand} {params:Array Tmp} {assign body:Code} {k:List Item}
  (gf:BK C f=true) (ga:cH C gd assign=true) (gb:cH C gd body=true) (gk:goodItems C gd k) {r:FEnd} {s':FrS} {h':Heap} (hr:kF C self rd params.toList assign body k s h (ev s.tmps f)=some (r,s',h')):
  Uu C gd w0 μ h.next s cs rd b (lone (bW b t d (.code (.rangeFunc f params assign body)::k)) cs w) r s' h':=by
 have _:=hD
 unfold kF at hr
 split at hr
 case h_2=>simp at hr
 rename_i fn first cap hval
 obtain⟨q,hq,h1⟩:=ab hr
 obtain⟨res,hres,h2⟩:=ab h1
 obtain⟨L,mark,w1,μ1,e,hrun,he,rfl,hmark,hle,hfr,hn,H1⟩:=CP (params:=params) S ga gb hq
 have hf:=B8 (b:=b) (ds:=mark++d) (todo:= .inRangeFunc e.blk::k) S.G S.T gf
 rw[hval]at hf
 obtain⟨FN,FIRST,CAP,hRf,hfn,hfi,hca⟩:=hf.func_inv
 have hyl:VRel μ1 (.func (.yield q.1) ⟨[]⟩ ⟨[]⟩) (.func (.yield e.blk) #[] #[]):= .func _ _ _ _ _ _ (.yield _ e he) rfl rfl (fun i x X a _=>by simp at a) (fun i x X a _=>by simp at a)
 have hA:VRels μ1 (first.toList++[Value.func (.yield q.1) ⟨[]⟩ ⟨[]⟩]) (FIRST++ #[Value.func (.yield e.blk) #[] #[]]).toList:=by
  simpa using(hfi.mono hle).append (VRels.cons hyl .nil)
 have hrun2:(do let dd<-resolve (bW b t (mark++d) (.inRangeFunc e.blk::k)).eval {callee:= .value f,args:= #[.const (.func (.yield e.blk) #[] #[])],argTypes:= #[]} 0;invoke dd.target dd.args:Sem Next).run C.P w1=
   (invoke (.fn FN CAP) (FIRST++ #[Value.func (.yield e.blk) #[] #[]])).run C.P w1:=by
  have hmap:(#[Operand.const (.func (.yield e.blk) #[] #[])]:Array Operand).map (bW b t (mark++d) (.inRangeFunc e.blk::k)).eval= #[Value.func (.yield e.blk) #[] #[]]:=by simp[Frame.eval]
  simp only[resolve,hmap,hRf,Deferred.ofValue,Sem.run_bind,Sem.run_pure,Result.andThen_ok]
 have hst:(stepG C.P true {frame:=bW b t d (.code (.rangeFunc f params assign body)::k),callers:=cs,status:= .running,dying:=none} w).bare=
   (stepG.apply C.P true (bW b t (mark++d) (.inRangeFunc e.blk::k)) cs none (do let dd<-resolve (bW b t (mark++d) (.inRangeFunc e.blk::k)).eval {callee:= .value f,args:= #[.const (.func (.yield e.blk) #[] #[])],argTypes:= #[]} 0;invoke dd.target dd.args) w1).bare:=by
  simp only[stepG,stepG.exec,bW,Sem.runT_eq,hrun,GStep.bare_after]
 obtain⟨μ2,w2,hle2,hfr2,hg⟩:=yZ hOk hS hres (hfn.mono' hle) (hca.mono hle) hA H1 (S.G.mono hle) rfl hrun2 hst
 cases res with
 |panic v h2'=>
  simp[uI]at h2
  obtain⟨rfl,rfl,rfl⟩:=h2
  obtain⟨hn2,H2,V,hv,hs⟩:=hg
  refine⟨_,μ2,w2,t,mark++d,cs, .inl rfl,⟨hle.trans hle2,Fresh.trans hn hfr hfr2,Nat.le_trans hn hn2,⟨H2,S.T.mono (hle.trans hle2),(hmark.mono hle2).append (S.D.mono (hle.trans hle2)),S.R.mono (hle.trans hle2),S.N.mono (hle.trans hle2),S.G.mono (hle.trans hle2)⟩,Cs.refl _ _⟩,_,V,hv,hs⟩
 |ret v h2' p=>
  obtain⟨hn2,H2,V,hv,hs⟩:=hg
  have h2:vP self rd k s q.1 q.2.1 h2'=some (r,s',h'):=h2
  obtain⟨x,hx,h3⟩:=ab h2
  obtain⟨o,ho,hlo⟩:=ab hx
  obtain rfl:=xg hlo
  obtain⟨hb,h4⟩:=aq h3
  have he2:=hle2 _ _ he
  obtain⟨hge,L,hob,LR⟩:=H2.obj _ e _ he2 ho
  have hst: ¬L.state= .busy:=by
   rw[LR.state]
   cases hx:x.state<;>rw[hx]at hb<;>first|(simp;done)|(simp[BA]at hb)
  have hend:(Instr.endLoop e.blk).run C.P w2= .ok x.pending {w2 with heap:=w2.heap.setIfInBounds e.blk (.loop {L with state:= .exhausted})}:=by
   simp[Instr.endLoop,Instr.getLoop,im rfl hob,ic rfl hob,hst,LR.pending]
  have H3:HRel (goodP C gd) w0 μ2 (h2'.set q.1 (.loop (x.turn .exhausted x.pending))) {w2 with heap:=w2.heap.setIfInBounds e.blk (.loop {L with state:= .exhausted})}:=
   H2.turned he2 ho rfl rfl (Turned.setObj hob) ⟨hge,_,rfl,{LR with state:=rfl}⟩
  have hk2:goodItems C gd (kQ x.pending k):=by
   cases hp:x.pending with
   |none=>exact gk
   |some c=>exact goodItems.cons (LR.goodP c hp) gk
  have hitems:(x.pending.map Item.code).toList++k=kQ x.pending k:=by cases x.pending<;>rfl
  have s3:Go.step C.P (lone ((bW b t (mark++d) (.inRangeFunc e.blk::k)).finish V) cs w2)=
    .next (lone (bW b t (mark++d) (kQ x.pending k)) cs {w2 with heap:=w2.heap.setIfInBounds e.blk (.loop {L with state:= .exhausted})}):=by
   rw[<-hitems]
   exact step_lone_go (by simp[stepG,stepG.exec,bW,Frame.finish,hend])
  have A:Aft C gd w0 μ h.next s cs rd b (s.mark q.2.1) (h2'.set q.1 (.loop (x.turn .exhausted x.pending))) μ2 t (mark++d) cs {w2 with heap:=w2.heap.setIfInBounds e.blk (.loop {L with state:= .exhausted})}:=
   ⟨hle.trans hle2,Fresh.trans hn hfr hfr2,Nat.le_trans hn hn2,⟨H3,S.T.mono (hle.trans hle2),(hmark.mono hle2).append (S.D.mono (hle.trans hle2)),S.R.mono (hle.trans hle2),S.N.mono (hle.trans hle2),S.G.mono (hle.trans hle2)⟩,Cs.refl _ _⟩
  exact hS.cont A (hs.trans (.one s3)) h4 hk2
theorem TA {μ:Mu} {s:FrS} {h:Heap} {rd:Option Nat} {b:Frame} {t:Array Value} {d:List Deferred} {cs:List Frame} {w:World} (S:St C gd w0 μ s h rd b t d cs w) {c:Code} {k:List Item}
  (gc:cH C gd c=true) (gk:goodItems C gd k) {r:FEnd} {s':FrS} {h':Heap} (hr:Ej C self rd k s h c=some (r,s',h')):
  Uu C gd w0 μ h.next s cs rd b (lone (bW b t d (.code c::k)) cs w) r s' h':=by
 have A:=Aft.refl S
 cases c<;>simp only[Ej]at hr<;>try (simp at hr;done)
 case skip=>exact hS.cont A (.one U9) hr gk
 case label l=>exact hS.cont A (.one OU) hr gk
 case ret=>
  simp at hr
  obtain⟨rfl,rfl,rfl⟩:=hr
  exact⟨_,μ,w,t,d,cs, .inl rfl,A,_,⟨k,rfl⟩, .refl _ _⟩
 case seq x y=>
  obtain⟨g1,g2⟩:=(Bool.and_eq_true _ _).mp gc
  exact hS.cont A (.one XZ) hr (goodItems.cons g1 (goodItems.cons g2 gk))
 case block id x=>exact hS.cont A (.one OV) hr (goodItems.cons gc (goodItems.cons trivial gk))
 case loop x=>exact hS.cont A (.one Va) hr (goodItems.cons gc (goodItems.cons gc gk))
 case scope x=>exact hS.cont A (.one OQ) hr (goodItems.cons gc (goodItems.cons trivial gk))
 case exit id=>
  unfold wS at hr
  cases hx:exitTo id k with
  |some k'=>
   rw[hx]at hr
   exact hS.cont A (.one (Vb hx)) hr (rE hx gk)
  |none=>
   rw[hx]at hr
   simp at hr
   obtain⟨rfl,rfl,rfl⟩:=hr
   exact⟨_,μ,w,t,d,cs, .inl rfl,A,_,⟨k,rfl,hx⟩, .refl _ _⟩
 case cond c x y=>
  obtain⟨g1,g2⟩:=(Bool.and_eq_true _ _).mp gc
  obtain⟨g3,g4⟩:=(Bool.and_eq_true _ _).mp g2
  have hv:=B8 (b:=b) (ds:=d) (todo:= .code (.cond c x y)::k) S.G S.T g1
  unfold tZ at hr
  split at hr
  ·rename_i hb
   rw[hb]at hv
   exact hS.cont A (.one (KN hv.bool_inv)) hr (goodItems.cons g3 gk)
  ·rename_i hb
   rw[hb]at hv
   exact hS.cont A (.one (KN hv.bool_inv)) hr (goodItems.cons g4 gk)
  ·simp at hr
 case region id ops draw=>exact I9 hOk hS hD S gc gk hr
 case rangeFunc f params assign body=>
  obtain⟨g1,g2⟩:=(Bool.and_eq_true _ _).mp gc
  obtain⟨g3,g4⟩:=(Bool.and_eq_true _ _).mp g2
  exact AV hOk hS hD S g1 g3 g4 gk hr
theorem Rk {μ:Mu} {s:FrS} {h:Heap} {rd:Option Nat} {b:Frame} {t:Array Value} {d:List Deferred} {cs:List Frame} {w:World} (S:St C gd w0 μ s h rd b t d cs w) {it:Item} {k:List Item}
  (gi:vD C gd it) (gk:goodItems C gd k) {r:FEnd} {s':FrS} {h':Heap} (hr:Ei C self rd k s h it=some (r,s',h')):
  Uu C gd w0 μ h.next s cs rd b (lone (bW b t d (it::k)) cs w) r s' h':=by
 have A:=Aft.refl S
 cases it<;>simp only[Ei]at hr<;>try (simp at hr;done)
 case code c=>exact TA hOk hS hD S gi gk hr
 case inBlock id=>exact hS.cont A (.one IS) hr gk
 case inScope c=>exact hS.cont A (.one IR) hr gk
 case inLoop c=>exact hS.cont A (.one Mg) hr (goodItems.cons gi (goodItems.cons gi gk))
 case beginRound=>
  obtain⟨l,hl,h1⟩:=ab hr
  obtain⟨x,hx,h2⟩:=ab h1
  obtain⟨o,ho,hlo⟩:=ab hx
  obtain rfl:=xg hlo
  obtain⟨hrd,h3⟩:=aq h2
  subst hl
  obtain⟨e,he,hro⟩: ∃e,μ l=some e/\ b.roundOf=some e.blk:=by
   have:=S.R
   cases hb:b.roundOf with
   |none=>rw[hb]at this;exact this.elim
   |some l0=>rw[hb]at this;obtain⟨e,he,rfl⟩:=this;exact⟨e,he,rfl⟩
  obtain⟨hge,L,hob,LR⟩:=S.H.obj _ e _ he ho
  have hstate:L.state= .ready:=by
   rw[LR.state]
   cases hx:x.state<;>rw[hx]at hrd<;>first|rfl|(simp[pt]at hrd)
  have hrun:(Instr.beginRound e.blk).run C.P w= .ok () {w with heap:=w.heap.setIfInBounds e.blk (.loop {L with state:= .busy})}:=by
   simp[Instr.beginRound,Instr.getLoop,im rfl hob,ic rfl hob,hstate]
  have H3:HRel (goodP C gd) w0 μ (h.set l (.loop (x.turn .busy x.pending))) {w with heap:=w.heap.setIfInBounds e.blk (.loop {L with state:= .busy})}:=
   S.H.turned he ho rfl rfl (Turned.setObj hob) ⟨hge,_,rfl,{LR with state:=rfl}⟩
  have hrun2:(do(bW b t d (.beginRound::k)).roundOf.elim (stuck "beginRound: no round") Instr.beginRound;pure .skip:Sem Next).run C.P w= .ok .skip {w with heap:=w.heap.setIfInBounds e.blk (.loop {L with state:= .busy})}:=by
   have:(bW b t d (.beginRound::k)).roundOf=some e.blk:=hro
   rw[this]
   simp[hrun]
  have s1:Go.step C.P (lone (bW b t d (.beginRound::k)) cs w)= .next (lone (bW b t d k) cs {w with heap:=w.heap.setIfInBounds e.blk (.loop {L with state:= .busy})}):=by
   refine step_lone_go ?_
   have e1:stepG C.P true {frame:=bW b t d (.beginRound::k),callers:=cs,status:= .running,dying:=none} w=
     stepG.apply C.P true (bW b t d (.beginRound::k)) cs none (do(bW b t d (.beginRound::k)).roundOf.elim (stuck "beginRound: no round") Instr.beginRound;pure .skip) w:=by
    simp only[stepG,stepG.exec,bW]
   rw[e1]
   simp only[stepG.apply,Sem.runT_eq,if_true,hrun2,GStep.bare_after,GStep.bare_go]
   rfl
  exact hS.cont (S.same (h':=h.set l (.loop (x.turn .busy x.pending))) (fun _ _ a=>a) (Fresh.refl _ _) (Nat.le_refl _) H3) (.one s1) h3 gk
theorem OO:SelfOK C gd w0 (step C self):=by
 intro rd k s h r s' h' hr gk μ w b cs t d S
 cases k with
 |nil=>
  simp[step]at hr
  obtain⟨rfl,rfl,rfl⟩:=hr
  exact⟨_,μ,w,t,d,cs, .inl rfl,Aft.refl S,[],rfl, .refl _ _⟩
 |cons it k=>exact Rk hOk hS hD S gk.head gk.tail hr
end
theorem wW {C:Ctx} {gd:List Oper ->Bool} {w0:World} (hOk:C.Ok gd w0) (hD: ∀self,SelfOK C gd w0 self ->Kz C gd w0 self): ∀n,SelfOK C gd w0 (run C n)
 |0=>by
  intro rd k s h r s' h' hr
  have hr:(none:tC)=some (r,s',h'):=hr
  simp at hr
 |n+1=>OO hOk (wW hOk hD n) (hD _ (wW hOk hD n))
end Go.Am
