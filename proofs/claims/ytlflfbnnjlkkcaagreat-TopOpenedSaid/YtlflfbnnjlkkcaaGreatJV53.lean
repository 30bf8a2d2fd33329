/- Parts V53, V54 of the abstract machine over this program, joined: what each part says stands at its head. -/
import Derived.Test.YtlflfbnnjlkkcaaGreatJV49
set_option linter.unusedSimpArgs false
set_option linter.unusedVariables false
set_option linter.defProp false
open Nat renaming reduceLT→Q1,reduceEqDiff→Q2,reduceAdd→Q3,reduceMul→Q4,reduceLeDiff→Q5
open Int renaming reduceNe→Q6,reduceEq→Q7
namespace Go.Am
open Go Go.Proofs
def PV (N:Nat) (h:Heap) (v:Value) (l:List Int):Prop:=(l=[]/\ v= .slice none 0 0) \/ ∃b c rest,v= .slice (some ⟨b,0,some 1⟩) l.length c/\ b≠0/\ N<=b/\ h.get b=some (.row (l.flatMap aQ++rest) 1 true)/\ l.length<=c
theorem PV.nil (N:Nat) (h:Heap):PV N h (.slice none 0 0) []:= .inl ⟨rfl,rfl⟩
theorem PV.keep {N:Nat} {h h':Heap} {v:Value} {l:List Int} (q:PV N h v l) (hg: ∀b,ay v=some b ->h'.get b=h.get b):PV N h' v l:=by
 rcases q with q|⟨b,c,rest,rfl,h1,h2,h3⟩
 ·exact .inl q
 ·exact .inr ⟨b,c,rest,rfl,h1,h2,by rw[hg b rfl];exact h3.1,h3.2⟩
theorem PV.blk {N:Nat} {h:Heap} {v:Value} {l:List Int} {b:Nat} (q:PV N h v l) (hk:HOK h) (hb:ay v=some b):N<=b/\ b<h.next/\ ∃r,h.get b=some (.row r 1 true):=by
 rcases q with⟨_,rfl⟩|⟨b',c,rest,rfl,h1,h2,h3⟩
 ·simp[ay]at hb
 ·simp[ay]at hb;subst hb;exact⟨h2,aF hk h3.1,_,h3.1⟩
theorem PV.ls {N:Nat} {h:Heap} {v:Value} {l:List Int} (q:PV N h v l): ∃p c,v= .slice p l.length c/\ LS h v l aQ 1:=by
 rcases q with⟨rfl,rfl⟩|⟨b,c,rest,rfl,h1,h2,h3⟩
 ·exact⟨none,0,rfl, .inl ⟨rfl,_,_,rfl⟩⟩
 ·refine⟨_,c,rfl, .inr ⟨b,0,some 1,c,_,rfl,by unfold rowAt;rw[h3.1];rfl,fun i x hx=> ?_⟩⟩
  have hi:i<l.length:=(List.getElem?_eq_some_iff.1 hx).1
  have e:(l.flatMap aQ++rest)[0+i*1]? =some (.int .i64 x):=by
   rw[Nat.zero_add,Nat.mul_one,List.getElem?_append_left (by rw[DP,List.length_map];exact hi)];exact BB hx
  refine⟨?_,fun j hj=> ?_⟩
  ·obtain⟨l1,e1⟩:=List.getElem?_eq_some_iff.1 e
   unfold aA
   rw[List.drop_eq_getElem_cons l1,e1];rfl
  ·obtain rfl:j=0:=by omega
   exact e
theorem NI {C:Ctx} {t u:TypeId} {ts:List TypeId} (ht:AppT C t u 1) {N:Nat} {h:Heap} {v:Value} {l:List Int} (hk:HOK h) (q:PV N h v l) (x:Int) (hn:l.length+1<=4294967296):
  ∃h',ck C (t::u::ts) v (.slice (some ⟨h.next,0,some 1⟩) 1 1) (h.alloc (.row [.int .i64 x] 1 true))=some (.slice (some ⟨h.next+1,0,some 1⟩) (l.length+1) (l.length+1),h')/\ h'.get (h.next+1)=some (.row ((l++[x]).flatMap aQ) 1 true)/\ HOK h'/\ h'.next=h.next+2/\ ∀i,i<h.next ->ay v≠some i ->h'.get i=h.get i:=by
 obtain⟨e,i,du,e1,e2,e3,e4,e5,e6,e7⟩:=ht.ex
 have b1:(Nat.ble ((l.length+(0+1))*i.bytes) 35184372088832&&Nat.ble (l.length+(0+1)) 35184372088832)=true:=by
  have:(l.length+(0+1))*i.bytes<=4294967296*1024:=Nat.mul_le_mul (by omega) e4
  rw[Bool.and_eq_true]
  exact⟨Nat.ble_eq_true_of_le (by omega),Nat.ble_eq_true_of_le (by omega)⟩
 have hc:bf (h.alloc (.row [.int .i64 x] 1 true)) 1 (0+1) (.slice (some ⟨h.next,0,some 1⟩) 1 1)=some [.int .i64 x]:=by
  show ae (rowAt _ h.next) (fun cells=>aA cells 0 (1*1))=_
  rw[fW];rfl
 have ez:lk 1 (C.zero e)=true:=by rw[<-e3];exact e7
 have fin: ∀{p:Option Addr} {c:Nat} {h':Heap},v= .slice p l.length c ->Bh p l.length c=true ->lR (h.alloc (.row [.int .i64 x] 1 true)) 1 l.length [.int .i64 x] p=some h' ->ck C (t::u::ts) v (.slice (some ⟨h.next,0,some 1⟩) 1 1) (h.alloc (.row [.int .i64 x] 1 true))=some (.slice (some ⟨h.next+1,0,some 1⟩) (l.length+1) (l.length+1),h'):=by
  intro p c h' ev hnil hg
  have h1:bF [.int .i64 x]=true:=by simp[da,vu,ja]
  have b2:Nat.beq ([.int .i64 x]:List Value).length ((0+1)*1)=true:=rfl
  have e0:i8 (.slice (some ⟨h.next,0,some 1⟩) 1 1)=some (0+1):=rfl
  simp only[ck,e1,e2,e5,au,dy,e6,e3,ez,Bool.and_self,aK,ev,jQ,e0,rL,hnil,b1,hc,h1,b2,hg]
  rfl
 rcases q with⟨rfl,rfl⟩|⟨b,c,rest,rfl,hb0,hbN,hb,_⟩
 ·refine⟨(h.alloc (.row [.int .i64 x] 1 true)).alloc (.row [.int .i64 x] 1 true),fin rfl rfl rfl,dr _ (by simp),(hk.alloc _).alloc _,by simp,fun i hi _=>by rw[Heap.get_alloc_ne _ _ (by simp;omega),Heap.get_alloc_ne _ _ (by omega)]⟩
 ·have hbl:b<h.next:=aF hk hb
  have hb':(h.alloc (.row [.int .i64 x] 1 true)).get b=some (.row (l.flatMap aQ++rest) 1 true):=by rw[Heap.get_alloc_ne _ _ (by omega)];exact hb
  refine⟨((h.alloc (.row [.int .i64 x] 1 true)).set b .dead).alloc (.row ((l++[x]).flatMap aQ) 1 true),fin rfl rfl ?_,dr _ (by simp),((hk.alloc _).set (by simp;omega) _).alloc _,by simp,fun i hi hne=> ?_⟩
  ·cases b with
   |zero=>exact absurd rfl hb0
   |succ b=>
    simp only[lR,Az,Nat.beq_refl,aK,zE,hb',au,fO]
    have:aA (l.flatMap aQ++rest) 0 (l.length*1)=some (l.flatMap aQ):=by
     have e:=gP aP l
     rw[eP (by rw[List.length_append];omega),List.drop_zero,List.take_append_of_le_length (by omega),List.take_of_length_le (by omega)]
    rw[this]
    simp only[au,List.flatMap_append]
    rfl
  ·rw[Heap.get_alloc_ne _ _ (by simp;omega),Heap.get_set_ne _ _ (fun e=>hne (by simp[ay,e])),Heap.get_alloc_ne _ _ (by omega)]
theorem Gl {N:Nat} {h:Heap} {v:Value} {l m:List Int} (q:PV N h v (l++m)): ∃v',jb CC 22 v none (some (.int .i64 l.length)) none=some v'/\ PV N h v' l/\ ay v'=ay v:=by
 rcases q with⟨e,rfl⟩|⟨b,c,rest,rfl,h1,h2,h3,h4⟩
 ·obtain⟨rfl,rfl⟩:=List.append_eq_nil_iff.1 e
  exact⟨.slice none 0 0,by kernel_rfl,PV.nil _ _,rfl⟩
 ·have hl:(l++m).length=l.length+m.length:=List.length_append
  refine⟨.slice (some ⟨b,0,some 1⟩) l.length c,?_, .inr ⟨b,c,m.flatMap aQ++rest,rfl,h1,h2,by rw[h3,List.flatMap_append,List.append_assoc],by omega⟩,rfl⟩
  cases b with
  |zero=>exact absurd rfl h1
  |succ b=>
   have e1:Nat.ble (l++m).length c=true:=Nat.ble_eq_true_of_le h4
   have e2:Nat.ble l.length c=true:=Nat.ble_eq_true_of_le (by omega)
   have e3:Dp 0 c (l.length:Int)=some l.length:=by
    show aX (Nat.ble 0 l.length&&Nat.ble l.length c) (some l.length)=_
    rw[e2,show Nat.ble 0 l.length=true from Nat.ble_eq_true_of_le (Nat.zero_le _)];rfl
   simp only[jb,bm,au,Em,ba,kG,e1,aK,e3,gU,ib,eA,Nat.beq_refl,Nat.sub_zero,Nat.zero_mul,Nat.add_zero]
structure GP where
 J:(Nat ->Prop) ->List (List Int) ->Heap ->Prop
 F1:Nat ->Prop
 h1:Heap
 pN:Nat
 m:Nat
 pY:Nat
 pM:Nat
 pF:Nat
 vY:Value
 vF:Value
structure GSt {α:Type} (K V:α ->Value) (g:GP) (F:Nat ->Prop) (D:List (List Int)) (now:List Int) (h:Heap):Prop where
 base:Gr g.F1 g.h1 h
 pos:0<h.next
 j:g.J F D h
 sub: ∀i,F i ->g.F1 i \/g.h1.next<=i
 rY:h.get g.pY=some (.row [g.vY] 0 true)
 rM:h.get g.pM=some (.row [.map (some g.m)] 0 true)
 rF:h.get g.pF=some (.row [g.vF] 0 true)
 ex: ∃v,h.get g.pN=some (.row [v] 0 true)/\ PV g.h1.next h v now/\ ∀b,ay v=some b -> ¬F b
 map:HasK K V h g.m
 priv: ∀i,i=g.pN \/i=g.m \/i=g.pY \/i=g.pM \/i=g.pF -> ¬F i/\ g.h1.next<=i
def Kp (g:GP) (F:Nat ->Prop) (h h':Heap):Prop:= ∀i,i<h.next -> ¬F i ->i≠g.pN ->i≠g.m ->(∀r,h.get i≠some (.row r 1 true)) ->h'.get i=h.get i
theorem Kp.refl (g:GP) (F:Nat ->Prop) (h:Heap):Kp g F h h:=fun _ _ _ _ _ _=>rfl
theorem Kp.fr {g:GP} {F:Nat ->Prop} {h h':Heap} (f:Fr h h'):Kp g F h h':=fun i hi _ _ _ _=>f.get i hi
theorem Kp.frK {α:Type} {K V:α ->Value} {g:GP} {F:Nat ->Prop} {h h':Heap} (f:FrK K V g.m h h'):Kp g F h h':=fun i hi _ _ h3 _=>f.get i hi h3
theorem Kp.set {g:GP} {F:Nat ->Prop} {h:Heap} (x:AObj):Kp g F h (h.set g.pN x):=fun _ _ _ h2 _ _=>Heap.get_set_ne _ _ h2
theorem Kp.gr {g:GP} {F:Nat ->Prop} {h h':Heap} (f:Gr F h h'):Kp g F h h':=fun i hi hn _ _ _=>f.get i hi hn
theorem Kp.trans {g:GP} {F F':Nat ->Prop} {a b c:Heap} (k:Kp g F a b) (hn:a.next<=b.next) (k':Kp g F' b c) (hs: ∀i,F' i ->F i \/a.next<=i):Kp g F a c:=fun i hi h1 h2 h3 h4=>by
 have e:=k i hi h1 h2 h3 h4
 rw[k' i (by omega) (fun hf=>(hs i hf).elim h1 fun h=>by omega) h2 h3 (fun r=>by rw[e];exact h4 r),e]
section
variable {α:Type} {K V:α ->Value} {g:GP} {F:Nat ->Prop} {D:List (List Int)} {now:List Int} {h h':Heap}
variable (stay: ∀F D h h',g.J F D h ->HOK h' ->h.next<=h'.next ->(∀i,F i ->h'.get i=h.get i) ->g.J F D h') (low: ∀F D h,g.J F D h -> ∀i,F i ->i<h.next)
include stay low in
theorem GSt.fr (q:GSt K V g F D now h) (f:Fr h h'):GSt K V g F D now h':=by
 have hk:=q.base.ok
 obtain⟨v,e1,e2,e3⟩:=q.ex
 exact⟨q.base.trans f.gr,Nat.lt_of_lt_of_le q.pos f.next,stay _ _ _ _ q.j f.ok f.next fun i hi=>f.get i (low _ _ _ q.j i hi),q.sub,f.get' hk q.rY,f.get' hk q.rM,f.get' hk q.rF,
  ⟨v,f.get' hk e1,e2.keep fun b hb=>f.get b (e2.blk hk hb).2.1,e3⟩,q.map.fr hk f,q.priv⟩
include stay low in
theorem GSt.frK (q:GSt K V g F D now h) (f:FrK K V g.m h h'):GSt K V g F D now h':=by
 have hk:=q.base.ok
 obtain⟨v,e1,e2,e3⟩:=q.ex
 obtain⟨es,c,em,_⟩:=q.map
 have ne: ∀{i l z},h.get i=some (.row l z true) ->i≠g.m:=fun hi e=>by rw[e,em]at hi;simp at hi
 have gt: ∀{i l z},h.get i=some (.row l z true) ->h'.get i=h.get i:=fun hi=>f.get _ (aF hk hi) (ne hi)
 refine⟨⟨f.ok,Nat.le_trans q.base.next f.next,fun i hi hn=> ?_⟩,Nat.lt_of_lt_of_le q.pos f.next,stay _ _ _ _ q.j f.ok f.next fun i hi=>f.get i (low _ _ _ q.j i hi) fun e=>(q.priv g.m (by simp)).1 (e▸hi),q.sub,?_,?_,?_,
  ⟨v,by rw[gt e1];exact e1,e2.keep fun b hb=> ?_,e3⟩,f.map,q.priv⟩
 ·have:=(q.priv g.m (by simp)).2
  rw[f.get i (Nat.lt_of_lt_of_le hi q.base.next) (by omega)];exact q.base.get i hi hn
 ·rw[gt q.rY];exact q.rY
 ·rw[gt q.rM];exact q.rM
 ·rw[gt q.rF];exact q.rF
 ·obtain⟨_,_,r,hr⟩:=e2.blk hk hb
  rw[gt hr]
include stay in
theorem GSt.put (q:GSt K V g F D now h) (hd:g.pN≠g.pY/\ g.pN≠g.pM/\ g.pN≠g.pF) {v:Value} {now':List Int} (hv:PV g.h1.next h v now') (hb: ∀b,ay v=some b -> ¬F b):
  GSt K V g F D now' (h.set g.pN (.row [v] 0 true)):=by
 have hk:=q.base.ok
 obtain⟨v0,e1,e2,e3⟩:=q.ex
 obtain⟨es,c,em,mm⟩:=q.map
 have nl:=aF hk e1
 have pn:=q.priv g.pN (by simp)
 have nm:g.m≠g.pN:=fun e=>by rw[e,e1]at em;simp at em
 refine⟨⟨hk.set nl _,by simpa using q.base.next,fun i hi hn=>by rw[Heap.get_set_ne _ _ (by omega)];exact q.base.get i hi hn⟩,by simpa using q.pos,stay _ _ _ _ q.j (hk.set nl _) (by simp) fun i hi=>Heap.get_set_ne _ _ fun e=>pn.1 (e▸hi),q.sub,?_,?_,?_,
  ⟨v,am _ _ _,hv.keep fun b hb=> ?_,hb⟩,⟨es,c,by rw[Heap.get_set_ne _ _ nm];exact em,mm⟩,q.priv⟩
 ·rw[Heap.get_set_ne _ _ (Ne.symm hd.1)];exact q.rY
 ·rw[Heap.get_set_ne _ _ (Ne.symm hd.2.1)];exact q.rM
 ·rw[Heap.get_set_ne _ _ (Ne.symm hd.2.2)];exact q.rF
 ·obtain⟨_,_,r,hr⟩:=hv.blk hk hb
  rw[Heap.get_set_ne _ _ fun e=>by rw[e,e1]at hr;simp at hr]
theorem GSt.yield {S : List (List Int) → Heap → Prop} {l M : Nat} {h0 : Heap} (E : Eats gZ IE g.J S l h0 M) (q : GSt K V g F D now h) (f : Fr h h') (f0 : Fr h0 g.h1) (hF : ∀ i, g.F1 i → h0.next ≤ i) {v : Value} {p : List Int} (hi : SL h.next h' v (p.flatMap aQ) 1 p.length) (hM : D.length + 1 ≤ M) :
    ∃ b h2, jO (bH CC) l [v] h' = some (.ret (.bool b) h2 none) ∧ Gr g.F1 g.h1 h2 ∧ Gr F h' h2 ∧ ((b = true ∧ ∃ F', GSt K V g F' (D ++ [p]) now h2 ∧ ∀ i, F' i → F i ∨ h.next ≤ i) ∨ (b = false ∧ S (D ++ [p]) h2)) := by
  have stay := E.stay
  have low : ∀ F D h, g.J F D h → ∀ i, F i → i < h.next := fun F D h j i hi => (E.low F D h j i hi).2
  have q' := q.fr stay low f
  have hk := q.base.ok
  have hk' := q'.base.ok
  have n1 : g.h1.next ≤ h.next := q.base.next
  obtain ⟨b, h2, e, gr, hb⟩ := E.round F D h' v p hk' q'.pos ((q'.base).fr f0 hF) q'.j (hi.low (Nat.le_trans f0.next n1)) (fun i hb hf => by
    have := (hi.blk_lt hk' hb).1
    have := low _ _ _ q.j i hf
    omega) hM
  have base2 : Gr g.F1 g.h1 h2 := q'.base.trans' gr q.sub
  refine ⟨b, h2, e, base2, gr, ?_⟩
  rcases hb with ⟨rfl, F', hs, hj⟩ | ⟨rfl, hs⟩
  · left
    have hsub : ∀ i, F' i → F i ∨ h.next ≤ i := fun i hi' => by
      rcases hs i hi' with a | a | a
      · exact .inl a
      · exact .inr (hi.blk_lt hk' a).1
      · exact .inr (Nat.le_trans f.next a)
    obtain ⟨v0, e1, e2, e3⟩ := q'.ex
    obtain ⟨v1, e1', e2', e3'⟩ := q.ex
    obtain rfl : v0 = v1 := by
      have := f.get' hk e1'
      rw [this] at e1; simpa using e1.symm
    obtain ⟨es, c, em, mm⟩ := q'.map
    have nF : ∀ i x, h.get i = some x → ¬ F i → ¬ F' i := fun i x hx hn hf => by
      rcases hsub i hf with a | a
      · exact hn a
      · have := aF hk hx; omega
    have gt : ∀ i x, h'.get i = some x → ¬ F i → h2.get i = some x := fun i x hx hn => by rw [gr.get i (aF hk' hx) hn]; exact hx
    have pv : ∀ i, i = g.pN ∨ i = g.m ∨ i = g.pY ∨ i = g.pM ∨ i = g.pF → ¬ F i := fun i hi => (q.priv i hi).1
    obtain ⟨es0, c0, em0, _⟩ := q.map
    refine ⟨rfl, F', ⟨base2, Nat.lt_of_lt_of_le q'.pos gr.next, hj, fun i hf => (hsub i hf).elim (fun a => q.sub i a) (fun a => .inr (Nat.le_trans n1 a)), gt _ _ q'.rY (pv _ (by simp)), gt _ _ q'.rM (pv _ (by simp)), gt _ _ q'.rF (pv _ (by simp)),
      ⟨v0, gt _ _ e1 (pv _ (by simp)), e2.keep fun b hb => gr.get b (e2.blk hk' hb).2.1 (e3 b hb), fun b hb => ?_⟩, ⟨es, c, gt _ _ em (pv _ (by simp)), mm⟩, fun i hi => ⟨?_, (q.priv i hi).2⟩⟩, hsub⟩
    · obtain ⟨_, _, r, hr⟩ := e2'.blk hk hb
      exact nF b _ hr (e3' b hb)
    · rcases hi with rfl | rfl | rfl | rfl | rfl
      · exact nF _ _ e1' (pv _ (by simp))
      · exact nF _ _ em0 (pv _ (by simp))
      · exact nF _ _ q.rY (pv _ (by simp))
      · exact nF _ _ q.rM (pv _ (by simp))
      · exact nF _ _ q.rF (pv _ (by simp))
  · exact .inr ⟨rfl, hs⟩
include stay low in
theorem GSt.push (q:GSt K V g F D now h) (hd:g.pN≠g.pY/\ g.pN≠g.pM/\ g.pN≠g.pF) {v:Value} (e1:h.get g.pN=some (.row [v] 0 true)) (x:Int) (hn:now.length+1<=4294967296):
  ∃h2,ck CC [22,22] v (.slice (some ⟨h.next,0,some 1⟩) 1 1) (h.alloc (.row [.int .i64 x] 1 true))=some (.slice (some ⟨h.next+1,0,some 1⟩) (now.length+1) (now.length+1),h2)/\ h2.get g.pN=some (.row [v] 0 true)/\ HOK h2/\ h.next<h2.next/\ Kp g F h (h2.set g.pN (.row [.slice (some ⟨h.next+1,0,some 1⟩) (now.length+1) (now.length+1)] 0 true))/\
   GSt K V g F D (now++[x]) (h2.set g.pN (.row [.slice (some ⟨h.next+1,0,some 1⟩) (now.length+1) (now.length+1)] 0 true)):=by
 have hk:=q.base.ok
 obtain⟨v0,e1',e2,e3⟩:=q.ex
 obtain rfl:v=v0:=by rw[e1]at e1';simpa using e1'
 obtain⟨h2,ea,eg,k2,n2,g2⟩:=NI (ts:=[]) kr hk e2 x hn
 have nl:=aF hk e1
 have tag: ∀{i L},h.get i=some (.row L 0 true) ->ay v≠some i:=fun hi hb=>by
  obtain⟨_,_,r,hr⟩:=e2.blk hk hb
  rw[hi]at hr;simp at hr
 have G: ∀i y,i<h.next ->ay v≠some i ->i≠g.pN ->(h2.set g.pN y).get i=h.get i:=fun i y hi hb hne=>by rw[Heap.get_set_ne _ _ hne];exact g2 i hi hb
 have e1n:h2.get g.pN=some (.row [v] 0 true):=by rw[g2 _ nl (tag e1)];exact e1
 have n1:g.h1.next<=h.next:=q.base.next
 have pN:=q.priv g.pN (by simp)
 obtain⟨es,c,em,mm⟩:=q.map
 refine⟨h2,ea,e1n,k2,by omega,fun i hi a1 a2 a3 a4=>G i _ hi (fun hb=>by obtain⟨_,_,r,hr⟩:=e2.blk hk hb;exact a4 r hr) a2,⟨⟨k2.set (by omega) _,by simp;omega,fun i hi hn=> ?_⟩,by simp;omega,stay _ _ _ _ q.j (k2.set (by omega) _) (by simp;omega) fun i hi=> ?_,q.sub,?_,?_,?_,⟨_,am _ _ _, .inr ⟨h.next+1,now.length+1,[],by simp,by omega,by omega,?_,by simp⟩,fun b hb hf=> ?_⟩,⟨es,c,?_,mm⟩,q.priv⟩⟩
 ·rw[G i _ (by omega) (fun hb=>by have:=(e2.blk hk hb).1;omega) (by omega)];exact q.base.get i hi hn
 ·exact G i _ (low _ _ _ q.j i hi) (fun hb=>e3 i hb hi) fun e=>pN.1 (e▸hi)
 ·rw[G _ _ (aF hk q.rY) (tag q.rY) (Ne.symm hd.1)];exact q.rY
 ·rw[G _ _ (aF hk q.rM) (tag q.rM) (Ne.symm hd.2.1)];exact q.rM
 ·rw[G _ _ (aF hk q.rF) (tag q.rF) (Ne.symm hd.2.2)];exact q.rF
 ·rw[List.append_nil,Heap.get_set_ne _ _ (by omega)];exact eg
 ·simp[ay]at hb
  have:=low _ _ _ q.j b hf
  omega
 ·rw[G _ _ (aF hk em) (fun hb=>by obtain⟨_,_,r,hr⟩:=e2.blk hk hb;rw[em]at hr;simp at hr) (fun e=>by rw[e,e1]at em;simp at em)];exact em
end
end Go.Am

namespace Go.Am
open Go Go.Proofs
def db:=A2 @eF<|A2 @ry<|A2 @vM<|A2 @sV<|A2 @cG<|A2 @cM<|A2 @lP<|A2 @By<|A2 @cS<|A2 @Dx<|A2 @Yz<|A2 @QZ<|A2 @cA<|A2 @Bt<|A2 @bJ<|A2 @aV<|A2 @ba<|A2 @mX<|A2 @bm<|A2 @KG<|A2 @bh<|A2 @Ae @mQ
theorem VW (n:Int):bF (aQ n)=true:=by simp[aQ,da,vu,ja]
set_option maxRecDepth 10000 in
set_option maxHeartbeats 4000000 in
theorem GZ {s:CoatS} (ho:s.ok=true) (hw:s.work.length<=1000) {h0:Heap} (hk0:HOK h0) {cs:List Value} (hv:IsShop h0 (.agg ⟨cs⟩) s) {pS:Nat} (rS:rowAt h0 pS=some cs) {S:List (List Int) ->Heap ->Prop} {l M:Nat} {g:GP} (E:Eats gZ IE g.J S l h0 M)
  (f0:Fr h0 g.h1) (hF: ∀i,g.F1 i ->h0.next<=i) (hd:g.pN≠g.pY/\ g.pN≠g.pM/\ g.pN≠g.pF) (hY:g.vY= .func (.yield l) ⟨[]⟩ ⟨[]⟩)
  (hVF:g.vF= .func (.func 221) ⟨[]⟩ ⟨[.pointer (some ⟨g.pN,0,none⟩), .pointer (some ⟨pS,0,none⟩), .pointer (some ⟨g.pY,0,none⟩), .pointer (some ⟨g.pM,0,none⟩), .pointer (some ⟨g.pF,0,none⟩)]⟩):
  ∀(d:Nat) {F:Nat ->Prop} {D:List (List Int)} {now:List Int} {h:Heap},GSt eh s.goesV g F D now h ->now.length+d=s.coats.length ->(∀x,x∈now ->0<=x/\ x<s.dry.length) ->D.length+(s.ext d now).length<=M ->
   CW CC 221 [.pointer (some ⟨g.pN,0,none⟩), .pointer (some ⟨pS,0,none⟩), .pointer (some ⟨g.pY,0,none⟩), .pointer (some ⟨g.pM,0,none⟩), .pointer (some ⟨g.pF,0,none⟩)] h fun r h'=>Gr g.F1 g.h1 h'/\ h.next<=h'.next/\ Kp g F h h'/\
    ((r= .bool true/\ ∃F',GSt eh s.goesV g F' (D++s.ext d now) now h'/\ ∀i,F' i ->F i \/h.next<=i) \/(r= .bool false/\ ∃l1 l2,s.ext d now=l1++l2/\ S (D++l1) h')):=by
 have stay:=E.stay
 have low: ∀F D h,g.J F D h -> ∀i,F i ->i<h.next:=fun F D h j i hi=>(E.low F D h j i hi).2
 have ll:=CoatS.lens ho
 intro d
 induction d with
 |zero=>
  intro F D now h q hnd hnow hM
  have hk:=q.base.ok
  have fr:=q.base.fr f0 hF
  have hv':=hv.fr hk0 fr
  have rS':=fr.row' hk0 rS
  obtain⟨v,e1,e2,e3⟩:=q.ex
  obtain⟨p,c,rfl,hL⟩:=e2.ls
  have rN:rowAt h g.pN=some [.slice p now.length c]:=by unfold rowAt;rw[e1];rfl
  have rY:rowAt h g.pY=some [.func (.yield l) ⟨[]⟩ ⟨[]⟩]:=by unfold rowAt;rw[q.rY,hY];rfl
  obtain⟨a,b,c',l',g',ec,hs,ql,qg⟩:=hv'
  obtain rfl:cs=[a,b,c',l',g']:=by simpa using ec
  obtain⟨p3,c3,rfl,_⟩:=hs.coats.open
  have nN:=af hk rN
  have nY:=af hk rY
  have nS:=af hk rS'
  have eb:((now.length:Int)==(s.coats.length:Int))=true:=by simp;omega
  refine aw Tryz.f221 (by kernel_rfl) (by kernel_rfl) rfl rfl ?_
  simp only[Tryz.f221]
  simp(maxDischargeDepth:=30)only[AA,↓reduceIte,Q1,Q2,Q3,Q4,reduceCtorEq,Q5,Q6,Q7,db,hk,rN,rS',nN,nS,eb,List.set_cons_zero]
  have f1:Fr h ((h.alloc (.row [.int .i64 0] 0 true)).set h.next (.row [.int .i64 now.length] 0 true)):=((Fr.refl hk).alloc _).set (Nat.le_refl _) (by simp) _
  generalize((h.alloc (.row [.int .i64 0] 0 true)).set h.next (.row [.int .i64 now.length] 0 true))=h1 at f1⊢
  have rN1:=f1.row' hk rN
  have rY1:=f1.row' hk rY
  refine bR [(true,0),(true,1),(true,2),(false,0),(true,3),(true,4)] (by kernel_rfl) ?_
  simp(maxDischargeDepth:=30)only[AA,↓reduceIte,Q1,Q2,Q3,Q4,reduceCtorEq,Q5,Q6,Q7,db,f1.ok,rN1,rY1,nN,nY]
  refine bk (clone_ints.clone aP f1.ok (Nat.lt_of_lt_of_le q.pos f1.next) (hL.fr hk f1) (fun x _=>VW x) (by omega)) ?_
  rintro cv h2 ⟨hcv,_,fr2⟩
  have f2:=f1.trans fr2
  have rY2:=fr2.row' f1.ok rY1
  have sy:=mi l
  obtain⟨b,h3,eY,base3,gr3,hb⟩:=q.yield E f2 f0 hF (hcv.low f1.next) (by simp[CoatS.ext]at hM;omega)
  simp(maxDischargeDepth:=30)only[AA,↓reduceIte,Q1,Q2,Q3,Q4,reduceCtorEq,Q5,Q6,Q7,dk,db,f2.ok,rY2,sy,zQ,eY]
  refine⟨base3,Nat.le_trans f2.next gr3.next,(Kp.fr f2).trans f2.next (Kp.gr gr3) (fun i hi=> .inl hi),?_⟩
  rcases hb with⟨rfl,F',q',hs⟩|⟨rfl,hs⟩
  ·exact .inl ⟨rfl,F',q',hs⟩
  ·exact .inr ⟨rfl,[now],[],rfl,hs⟩
 |succ d ihd=>
  intro F D now h q hnd hnow hM
  have hk:=q.base.ok
  have fr:=q.base.fr f0 hF
  have hv':=hv.fr hk0 fr
  have rS':=fr.row' hk0 rS
  obtain⟨v,e1,e2,e3⟩:=q.ex
  obtain⟨p,c,rfl,hL⟩:=e2.ls
  have rN:rowAt h g.pN=some [.slice p now.length c]:=by unfold rowAt;rw[e1];rfl
  have hvv:=hv'
  have hv0:=hv
  obtain⟨a,b,c',l',g',ec,hs,ql,qg⟩:=hv0
  obtain rfl:cs=[a,b,c',l',g']:=by simpa using ec
  obtain⟨p2,c2,rfl,x2⟩:=hs.work.open
  obtain⟨p3,c3,rfl,_⟩:=hs.coats.open
  have nN:=af hk rN
  have nS:=af hk rS'
  have eb:((now.length:Int)==(s.coats.length:Int))=false:=by simp;omega
  refine aw Tryz.f221 (by kernel_rfl) (by kernel_rfl) rfl rfl ?_
  simp only[Tryz.f221]
  have f1:Fr h ((h.alloc (.row [.int .i64 0] 0 true)).set h.next (.row [.int .i64 now.length] 0 true)):=((Fr.refl hk).alloc _).set (Nat.le_refl _) (by simp) _
  have n1:((h.alloc (.row [.int .i64 0] 0 true)).set h.next (.row [.int .i64 now.length] 0 true)).next=h.next+1:=by simp
  have g1:((h.alloc (.row [.int .i64 0] 0 true)).set h.next (.row [.int .i64 now.length] 0 true)).get h.next=some (.row [.int .i64 now.length] 0 true):=am _ _ _
  simp(maxDischargeDepth:=30)only[AA,↓reduceIte,Q1,Q2,Q3,Q4,reduceCtorEq,Q5,Q6,Q7,db,hk,rN,rS',nN,nS,eb,List.set_cons_zero]
  generalize((h.alloc (.row [.int .i64 0] 0 true)).set h.next (.row [.int .i64 now.length] 0 true))=h1 at f1 n1 g1⊢
  obtain⟨B,hB,hBe⟩: ∃B:Int ->List (List Int),(∀day,B day=if(now.length≠0/\ day<=now.getD (now.length -1) 0) \/s.goesP now.length day.toNat=false then[]
   else if now.length≠0/\ s.standsB (now.length -1) (now.getD (now.length -1) 0).toNat day.toNat true≠none then[]else s.ext d (now++[day]))/\ s.ext (d+1) now=s.work.flatMap B:=⟨_,fun _=>rfl,rfl⟩
  rw[hBe]at hM⊢
  have fl: ∀i,F i ->i<h.next:=low _ _ _ q.j
  refine eT s.work.length (fun mm f h'=> ∃(j:Nat) (F':Nat ->Prop),j<=s.work.length/\ mm=s.work.length -j/\ f 0= .pointer (some ⟨g.pN,0,none⟩)/\ f 1= .pointer (some ⟨pS,0,none⟩)/\ f 2= .pointer (some ⟨g.pY,0,none⟩)/\ f 3= .pointer (some ⟨g.pM,0,none⟩)/\ f 4= .pointer (some ⟨g.pF,0,none⟩)/\ f 6= .pointer (some ⟨h.next,0,none⟩)/\
    f 25= .slice p2 s.work.length c2/\ f 26= .int .i64 s.work.length/\ f 27= .int .i64 j/\ GSt eh s.goesV g F' (D++(s.work.take j).flatMap B) now h'/\ (∀i,F' i ->F i \/h1.next<=i)/\ h'.get h.next=some (.row [.int .i64 now.length] 0 true)/\ h1.next<=h'.next/\ Kp g F h1 h')
   ⟨0,F,by omega,by omega,by simp[aa,aW],by simp[aa,aW],by simp[aa,aW],by simp[aa,aW],by simp[aa,aW],by simp[aa],by simp[aa],by simp[aa],by simp[aa],by simpa using q.fr stay low f1,fun i hi=> .inl hi,g1,Nat.le_refl _,Kp.refl _ _ _⟩ ?_
  rintro mm f h' ⟨j,F',hj,rfl,t0,t1,t2,t3,t4,t6,t25,t26,t27,q',hs',gn,hle,kp⟩ ih
  have k':=q'.base.ok
  by_cases hjl:j<s.work.length
  ·have fr':=q'.base.fr f0 hF
   have rS2:=fr'.row' hk0 rS
   obtain⟨v',e1',e2',e3'⟩:=q'.ex
   obtain⟨p',c4,rfl,hL'⟩:=e2'.ls
   have rN':rowAt h' g.pN=some [.slice p' now.length c4]:=by unfold rowAt;rw[e1'];rfl
   have rM':rowAt h' g.pM=some [.map (some g.m)]:=by unfold rowAt;rw[q'.rM];rfl
   have rF':rowAt h' g.pF=some [g.vF]:=by unfold rowAt;rw[q'.rF];rfl
   have rn:rowAt h' h.next=some [.int .i64 now.length]:=by unfold rowAt;rw[gn];rfl
   obtain⟨x,gx⟩: ∃x,s.work[j]? =some x:=⟨_,List.getElem?_eq_getElem hjl⟩
   have hx:=CoatS.work_at ho gx
   obtain⟨y,rfl⟩: ∃y:Nat,x=y:=⟨x.toNat,by omega⟩
   have hy:y<s.dry.length:=by omega
   rcases x2 with hx|⟨b2,o2,sp2,row2,rfl,rr2,x2⟩
   ·rw[hx]at hjl;simp at hjl
   have ew:row2[o2+j]? =some (.int .i64 y):=by simpa[aQ]using(x2 _ _ gx).2 0 (by omega)
   have rr2':=fr'.row' hk0 rr2
   have nn:=bp hjl hw
   simp(maxDischargeDepth:=30)only[AA,↓reduceIte,Q1,Q2,Q3,Q4,reduceCtorEq,Q5,Q6,Q7,db,k',t0,t1,t2,t3,t4,t6,t25,t26,t27,cX hjl,hjl,rr2',Nat.mul_one,ew,List.set_cons_zero]
   have fb:Fr h' ((h'.alloc (.row [.int .i64 0] 0 true)).set h'.next (.row [.int .i64 y] 0 true)):=((Fr.refl k').alloc _).set (by omega) (by simp) _
   have gy:((h'.alloc (.row [.int .i64 0] 0 true)).set h'.next (.row [.int .i64 y] 0 true)).get h'.next=some (.row [.int .i64 y] 0 true):=am _ _ _
   generalize((h'.alloc (.row [.int .i64 0] 0 true)).set h'.next (.row [.int .i64 y] 0 true))=hb at fb gy⊢
   have kb:=fb.ok
   have qb:=q'.fr stay low fb
   refine bR [(true,0),(true,1),(true,2),(true,3),(true,4),(true,5),(true,6),(true,7),(true,8),(true,9),(true,10),(true,11),(true,12),(true,13),(true,14),(true,15),(true,16),(true,17),(true,18)] (by kernel_rfl) ?_
   by_cases hn0:now.length=0
   ·have z:decide ((now.length:Int)>0)=false:=decide_eq_false (by omega)
    have rSb:=fb.row' k' rS2
    have rnb:=fb.row' k' rn
    have rMb:=fb.row' k' rM'
    have ryb:rowAt hb h'.next=some [.int .i64 y]:=by unfold rowAt;rw[gy];rfl
    simp(maxDischargeDepth:=30)only[AA,↓reduceIte,Q1,Q2,Q3,Q4,reduceCtorEq,Q5,Q6,Q7,dk,db,kb,t0,t1,t3,t6,rSb,rnb,rMb,ryb,z]
    refine bk (DD ho hw d kb (hv.fr hk0 (qb.base.fr f0 hF)) qb.map (k:=now.length) (i:=y) (by omega) hy) ?_
    rintro _ h2 ⟨rfl,frk⟩
    have q2:=qb.frK stay low frk
    have k2:=frk.ok
    have hFn: ¬F' h.next:=fun hf=>(hs' _ hf).elim (fun a=>by have:=fl _ a;omega) (fun a=>by omega)
    have npN:h.next≠g.pN:=by omega
    have nm:h.next≠g.m:=by have:=q.map.lt hk;omega
    have tg: ∀r,h'.get h.next≠some (.row r 1 true):=fun r=>by rw[gn];simp
    have ln:h.next<h'.next:=aF k' gn
    have kp2:Kp g F' h' h2:=(Kp.fr fb).trans fb.next (Kp.frK frk) (fun i hi=> .inl hi)
    have le2:h'.next<=h2.next:=Nat.le_trans fb.next frk.next
    have gnn2:h2.get h.next=some (.row [.int .i64 now.length] 0 true):=by rw[kp2 _ ln hFn npN nm tg];exact gn
    cases hg:s.goesP now.length y with
    |false=>
     have hBy:B (y:Int)=[]:=by rw[hB];simp[hg]
     simp(maxDischargeDepth:=30)only[AA,↓reduceIte,Q1,Q2,Q3,Q4,reduceCtorEq,Q5,Q6,Q7,dk,db,k2,t27,nn]
     refine ih (s.work.length -(j+1)) _ _ (by omega) ?_
     refine⟨j+1,F',by omega,rfl,by simp[aa,t0],by simp[aa,t1],by simp[aa,t2],by simp[aa,t3],by simp[aa,t4],by simp[aa,t6],by simp[aa,t25],by simp[aa,t26],by simp[aa],?_,hs',?_,?_,?_⟩
     ·rw[bI gx,List.flatMap_append];simpa[hBy]using q2
     ·exact gnn2
     ·omega
     ·exact kp.trans hle kp2 hs'
    |true=>
     obtain⟨v2,e12,p12,_⟩:=q2.ex
     obtain⟨p5,c5,rfl,_⟩:=p12.ls
     obtain⟨h3,ea,e3n,k3,n3,kp3,q3⟩:=q2.push stay low hd e12 y (by omega)
     have rN2:rowAt h2 g.pN=some [.slice p5 now.length c5]:=by unfold rowAt;rw[e12];rfl
     have gy2:h2.get h'.next=some (.row [.int .i64 y] 0 true):=by rw[frk.get _ (aF kb gy) (by have:=q'.map.lt k';omega)];exact gy
     have ry2:rowAt h2 h'.next=some [.int .i64 y]:=by unfold rowAt;rw[gy2];rfl
     have gn2:rowAt h2 h.next=some [.int .i64 now.length]:=by unfold rowAt;rw[gnn2];rfl
     have rF3:rowAt (h3.set g.pN (.row [.slice (some ⟨h2.next+1,0,some 1⟩) (now.length+1) (now.length+1)] 0 true)) g.pF=some [g.vF]:=by unfold rowAt;rw[q3.rF];rfl
     simp(maxDischargeDepth:=30)only[AA,↓reduceIte,Q1,Q2,Q3,Q4,reduceCtorEq,Q5,Q6,Q7,dk,db,k2,k3,t0,t4,t6,gn2,z,rN2,ry2,eF (dE _ _),aG,ea,e3n,List.set_cons_zero,rF3,hVF,ff]
     have hBy:B (y:Int)=s.ext d (now++[(y:Int)]):=by rw[hB];have hg0:=hg;rw[hn0]at hg0;simp[hg0,hn0]
     have hlen:((s.work.take j).flatMap B).length+(B (y:Int)).length<=(s.work.flatMap B).length:=by
      conv=>rhs;rw[<-List.take_append_drop (j+1) s.work,bI gx]
      simp only[List.flatMap_append,List.length_append,List.flatMap_cons,List.flatMap_nil,List.append_nil]
      omega
     refine aC (ihd q3 (by simp;omega) (fun x hx'=>by
      rcases List.mem_append.1 hx' with h|h
      ·exact hnow x h
      ·simp at h;omega) (by rw[<-hBy];simp only[List.length_append];omega)) ?_
     rintro R h4 ⟨base4,n4,kp4,hR⟩
     have kp4':Kp g F' h' h4:=(kp2.trans le2 kp3 (fun i hi=> .inl hi)).trans (by simp;omega) kp4 (fun i hi=> .inl hi)
     have le4:h'.next<=h4.next:=by simp at n4;omega
     rcases hR with⟨rfl,F4,q4,hs4⟩|⟨rfl,l1,l2,el,hS⟩
     ·obtain⟨v4,e14,p14,nf4⟩:=q4.ex
      obtain⟨v5,esl,p15,bk5⟩:=Gl p14
      obtain⟨p6,c6,rfl,_⟩:=p14.ls
      obtain⟨p7,c7,rfl,_⟩:=p15.ls
      have rN4:rowAt h4 g.pN=some [.slice p6 (now++[(y:Int)]).length c6]:=by unfold rowAt;rw[e14];rfl
      have gnn4:h4.get h.next=some (.row [.int .i64 now.length] 0 true):=by rw[kp4' _ ln hFn npN nm tg];exact gn
      have gn4:rowAt h4 h.next=some [.int .i64 now.length]:=by unfold rowAt;rw[gnn4];rfl
      have q5:=q4.put stay hd p15 (fun b hb=>nf4 b (by rw[<-bk5];exact hb))
      simp(maxDischargeDepth:=30)only[AA,↓reduceIte,Q1,Q2,Q3,Q4,reduceCtorEq,Q5,Q6,Q7,dk,db,base4.ok,t0,t6,t27,rN4,gn4,e14,Option.map_some,Option.map_none,esl,nn,List.set_cons_zero]
      refine ih (s.work.length -(j+1)) _ _ (by omega) ?_
      refine⟨j+1,F4,by omega,rfl,by simp[aa,t0],by simp[aa,t1],by simp[aa,t2],by simp[aa,t3],by simp[aa,t4],by simp[aa,t6],by simp[aa,t25],by simp[aa,t26],by simp[aa],?_,fun i hi=> ?_,?_,?_,?_⟩
      ·rw[bI gx,List.flatMap_append];simpa[hBy,List.append_assoc]using q5
      ·rcases hs4 i hi with a|a
       ·exact hs' i a
       ·right;simp at a;omega
      ·rw[Heap.get_set_ne _ _ npN];exact gnn4
      ·simp;omega
      ·exact kp.trans hle (kp4'.trans le4 (Kp.set _) (fun i hi=> .inl hi)) hs'
     ·simp(maxDischargeDepth:=30)only[AA,↓reduceIte,Q1,Q2,Q3,Q4,reduceCtorEq,Q5,Q6,Q7,dk,db,base4.ok]
      refine⟨base4,by omega,(Kp.fr f1).trans f1.next (kp.trans hle kp4' hs') (fun i hi=> .inl hi), .inr ⟨trivial,(s.work.take j).flatMap B++l1,l2++(s.work.drop (j+1)).flatMap B,?_,by rw[<-List.append_assoc];exact hS⟩⟩
      conv=>lhs;rw[<-List.take_append_drop (j+1) s.work,bI gx]
      simp[List.flatMap_append,hBy,el,List.append_assoc]
   ·have z:decide ((now.length:Int)>0)=true:=decide_eq_true (by omega)
    have rSb:=fb.row' k' rS2
    have rnb:=fb.row' k' rn
    have rMb:=fb.row' k' rM'
    have rNb:=fb.row' k' rN'
    have ryb:rowAt hb h'.next=some [.int .i64 y]:=by unfold rowAt;rw[gy];rfl
    obtain⟨x0,gx0⟩: ∃x,now[now.length -1]? =some x:=⟨_,List.getElem?_eq_getElem (by omega)⟩
    have hx0:=hnow x0 (List.mem_of_getElem? gx0)
    obtain⟨i0,rfl⟩: ∃i0:Nat,x0=i0:=⟨x0.toNat,by omega⟩
    have gD:now.getD (now.length -1) 0=(i0:Int):=by simp[List.getD_eq_getElem?_getD,gx0]
    obtain⟨b4,o4,sp4,row4,rfl,rr4,e4⟩:=(hL'.fr k' fb).cell gx0
    have w1:IntKind.i64.wrap ((now.length:Int) -1)=((now.length -1:Nat):Int):=by rw[bG (by omega) (by omega)];omega
    have il:now.length -1<now.length:=by omega
    by_cases hle0:(y:Int)<=i0
    ·have z2:decide ((y:Int)<=(i0:Int))=true:=decide_eq_true hle0
     have hBy:B (y:Int)=[]:=by rw[hB,gD];simp[hn0,hle0]
     simp(maxDischargeDepth:=30)only[AA,↓reduceIte,Q1,Q2,Q3,Q4,reduceCtorEq,Q5,Q6,Q7,dk,db,kb,t0,t1,t3,t6,t27,rSb,rnb,rMb,rNb,ryb,z,z2,w1,il,rr4,e4,Nat.mul_one,nn]
     refine ih (s.work.length -(j+1)) _ _ (by omega) ?_
     refine⟨j+1,F',by omega,rfl,by simp[aa,t0],by simp[aa,t1],by simp[aa,t2],by simp[aa,t3],by simp[aa,t4],by simp[aa,t6],by simp[aa,t25],by simp[aa,t26],by simp[aa],?_,hs',fb.get' k' gn,Nat.le_trans hle fb.next,kp.trans hle (Kp.fr fb) hs'⟩
     rw[bI gx,List.flatMap_append];simpa[hBy]using qb
    ·have z2:decide ((y:Int)<=(i0:Int))=false:=decide_eq_false hle0
     simp(maxDischargeDepth:=30)only[AA,↓reduceIte,Q1,Q2,Q3,Q4,reduceCtorEq,Q5,Q6,Q7,dk,db,kb,t0,t1,t3,t6,t27,rSb,rnb,rMb,rNb,ryb,z,z2,w1,il,rr4,e4,Nat.mul_one,nn]
     refine bk (DD ho hw d kb (hv.fr hk0 (qb.base.fr f0 hF)) qb.map (k:=now.length) (i:=y) (by omega) hy) ?_
     rintro _ h2 ⟨rfl,frk⟩
     have q2:=qb.frK stay low frk
     have k2:=frk.ok
     have hFn: ¬F' h.next:=fun hf=>(hs' _ hf).elim (fun a=>by have:=fl _ a;omega) (fun a=>by omega)
     have npN:h.next≠g.pN:=by omega
     have nm:h.next≠g.m:=by have:=q.map.lt hk;omega
     have tg: ∀r,h'.get h.next≠some (.row r 1 true):=fun r=>by rw[gn];simp
     have ln:h.next<h'.next:=aF k' gn
     have kp2:Kp g F' h' h2:=(Kp.fr fb).trans fb.next (Kp.frK frk) (fun i hi=> .inl hi)
     have le2:h'.next<=h2.next:=Nat.le_trans fb.next frk.next
     have gnn2:h2.get h.next=some (.row [.int .i64 now.length] 0 true):=by rw[kp2 _ ln hFn npN nm tg];exact gn
     cases hg:s.goesP now.length y with
     |false=>
      have hBy:B (y:Int)=[]:=by rw[hB];simp[hg]
      simp(maxDischargeDepth:=30)only[AA,↓reduceIte,Q1,Q2,Q3,Q4,reduceCtorEq,Q5,Q6,Q7,dk,db,k2,t27,nn]
      refine ih (s.work.length -(j+1)) _ _ (by omega) ?_
      refine⟨j+1,F',by omega,rfl,by simp[aa,t0],by simp[aa,t1],by simp[aa,t2],by simp[aa,t3],by simp[aa,t4],by simp[aa,t6],by simp[aa,t25],by simp[aa,t26],by simp[aa],?_,hs',?_,?_,?_⟩
      ·rw[bI gx,List.flatMap_append];simpa[hBy]using q2
      ·exact gnn2
      ·omega
      ·exact kp.trans hle kp2 hs'
     |true=>
      have fq:=qb.base.fr f0 hF
      have rk2:=frk.rk kb qb.map
      have rS3:=rk2.rowAt rSb
      have rn3:=rk2.rowAt rnb
      have rN3:=rk2.rowAt rNb
      have ry3:=rk2.rowAt ryb
      simp(maxDischargeDepth:=30)only[AA,↓reduceIte,Q1,Q2,Q3,Q4,reduceCtorEq,Q5,Q6,Q7,dk,db,k2,t0,t1,t6,rn3,z]
      refine aC (pP (P0:=s.standsB (now.length -1) i0 y true=none) (P1:=fun _ r=>s.standsB (now.length -1) i0 y true=some r) k2 fun h9 f9=>GY f9.ok ((hv.fr hk0 (q2.base.fr f0 hF)).fr k2 f9) ho (n:=now.length -1) (by omega) (by omega) (by omega) (by omega) (((hL'.fr k' fb).rk rk2).fr k2 f9) gx0 (f9.row' k2 rS3) (by rw[show now.length -1+1=now.length by omega];exact f9.row' k2 rn3) (f9.row' k2 rN3) (f9.row' k2 ry3)) ?_
      rintro _ h9 ⟨qq,fr9⟩
      have k9:=fr9.ok
      have z00:((0:Int) !=0)=false:=rfl
      have z70:((7:Int) !=0)=true:=rfl
      have fc: ∀x,Fr h2 ((h9.alloc (.row [.int .i64 0, .int .i64 0] 0 true)).set h9.next x):=fun x=>(fr9.alloc _).set fr9.next (by simp) x
      rcases qq with⟨qq,rfl⟩|⟨a9,b9,qq,rfl⟩
      rotate_left
      ·have hBy:B (y:Int)=[]:=by rw[hB,gD];simp[hn0,qq]
       have f10:=fc (.row [.int .i64 a9, .int .i64 b9] 0 true)
       simp(maxDischargeDepth:=30)only[AA,↓reduceIte,Q1,Q2,Q3,Q4,reduceCtorEq,Q5,Q6,Q7,dk,db,k9,z70,t27,nn]
       generalize((h9.alloc (.row [.int .i64 0, .int .i64 0] 0 true)).set h9.next (.row [.int .i64 a9, .int .i64 b9] 0 true))=h10 at f10⊢
       refine ih (s.work.length -(j+1)) _ _ (by omega) ?_
       refine⟨j+1,F',by omega,rfl,by simp[aa,t0],by simp[aa,t1],by simp[aa,t2],by simp[aa,t3],by simp[aa,t4],by simp[aa,t6],by simp[aa,t25],by simp[aa,t26],by simp[aa],?_,hs',f10.get' k2 gnn2,by have:=f10.next;omega,kp.trans hle (kp2.trans le2 (Kp.fr f10) (fun i hi=> .inl hi)) hs'⟩
       rw[bI gx,List.flatMap_append];simpa[hBy]using q2.fr stay low f10
      have f10:=fc (.row [.int .i64 0, .int .i64 0] 0 true)
      simp(maxDischargeDepth:=30)only[AA,↓reduceIte,Q1,Q2,Q3,Q4,reduceCtorEq,Q5,Q6,Q7,dk,db,k9,z00]
      generalize((h9.alloc (.row [.int .i64 0, .int .i64 0] 0 true)).set h9.next (.row [.int .i64 0, .int .i64 0] 0 true))=h10 at f10⊢
      have q10:=q2.fr stay low f10
      have k10:=f10.ok
      have gnn10:=f10.get' k2 gnn2
      have kp10:Kp g F' h' h10:=kp2.trans le2 (Kp.fr f10) (fun i hi=> .inl hi)
      have le10:h'.next<=h10.next:=Nat.le_trans le2 f10.next
      obtain⟨v2,e12,p12,_⟩:=q10.ex
      obtain⟨p5,c5,rfl,_⟩:=p12.ls
      obtain⟨h3,ea,e3n,k3,n3,kp3,q3⟩:=q10.push stay low hd e12 y (by omega)
      have rN2:rowAt h10 g.pN=some [.slice p5 now.length c5]:=by unfold rowAt;rw[e12];rfl
      have gy2:h10.get h'.next=some (.row [.int .i64 y] 0 true):=f10.get' k2 (by rw[frk.get _ (aF kb gy) (by have:=q'.map.lt k';omega)];exact gy)
      have ry2:rowAt h10 h'.next=some [.int .i64 y]:=by unfold rowAt;rw[gy2];rfl
      have gn2:rowAt h10 h.next=some [.int .i64 now.length]:=by unfold rowAt;rw[gnn10];rfl
      have rF3:rowAt (h3.set g.pN (.row [.slice (some ⟨h10.next+1,0,some 1⟩) (now.length+1) (now.length+1)] 0 true)) g.pF=some [g.vF]:=by unfold rowAt;rw[q3.rF];rfl
      simp(maxDischargeDepth:=30)only[AA,↓reduceIte,Q1,Q2,Q3,Q4,reduceCtorEq,Q5,Q6,Q7,dk,db,k10,k3,t0,t4,t6,gn2,z,rN2,ry2,eF (dE _ _),aG,ea,e3n,List.set_cons_zero,rF3,hVF,ff]
      have hBy:B (y:Int)=s.ext d (now++[(y:Int)]):=by rw[hB,gD];simp[hg,hn0,hle0,qq]
      have hlen:((s.work.take j).flatMap B).length+(B (y:Int)).length<=(s.work.flatMap B).length:=by
       conv=>rhs;rw[<-List.take_append_drop (j+1) s.work,bI gx]
       simp only[List.flatMap_append,List.length_append,List.flatMap_cons,List.flatMap_nil,List.append_nil]
       omega
      refine aC (ihd q3 (by simp;omega) (fun x hx'=>by
       rcases List.mem_append.1 hx' with h|h
       ·exact hnow x h
       ·simp at h;omega) (by rw[<-hBy];simp only[List.length_append];omega)) ?_
      rintro R h4 ⟨base4,n4,kp4,hR⟩
      have kp4':Kp g F' h' h4:=(kp10.trans le10 kp3 (fun i hi=> .inl hi)).trans (by simp;omega) kp4 (fun i hi=> .inl hi)
      have le4:h'.next<=h4.next:=by simp at n4;omega
      rcases hR with⟨rfl,F4,q4,hs4⟩|⟨rfl,l1,l2,el,hS⟩
      ·obtain⟨v4,e14,p14,nf4⟩:=q4.ex
       obtain⟨v5,esl,p15,bk5⟩:=Gl p14
       obtain⟨p6,c6,rfl,_⟩:=p14.ls
       obtain⟨p7,c7,rfl,_⟩:=p15.ls
       have rN4:rowAt h4 g.pN=some [.slice p6 (now++[(y:Int)]).length c6]:=by unfold rowAt;rw[e14];rfl
       have gnn4:h4.get h.next=some (.row [.int .i64 now.length] 0 true):=by rw[kp4' _ ln hFn npN nm tg];exact gn
       have gn4:rowAt h4 h.next=some [.int .i64 now.length]:=by unfold rowAt;rw[gnn4];rfl
       have q5:=q4.put stay hd p15 (fun b hb=>nf4 b (by rw[<-bk5];exact hb))
       simp(maxDischargeDepth:=30)only[AA,↓reduceIte,Q1,Q2,Q3,Q4,reduceCtorEq,Q5,Q6,Q7,dk,db,base4.ok,t0,t6,t27,rN4,gn4,e14,Option.map_some,Option.map_none,esl,nn,List.set_cons_zero]
       refine ih (s.work.length -(j+1)) _ _ (by omega) ?_
       refine⟨j+1,F4,by omega,rfl,by simp[aa,t0],by simp[aa,t1],by simp[aa,t2],by simp[aa,t3],by simp[aa,t4],by simp[aa,t6],by simp[aa,t25],by simp[aa,t26],by simp[aa],?_,fun i hi=> ?_,?_,?_,?_⟩
       ·rw[bI gx,List.flatMap_append];simpa[hBy,List.append_assoc]using q5
       ·rcases hs4 i hi with a|a
        ·exact hs' i a
        ·right;simp at a;omega
       ·rw[Heap.get_set_ne _ _ npN];exact gnn4
       ·simp;omega
       ·exact kp.trans hle (kp4'.trans le4 (Kp.set _) (fun i hi=> .inl hi)) hs'
      ·simp(maxDischargeDepth:=30)only[AA,↓reduceIte,Q1,Q2,Q3,Q4,reduceCtorEq,Q5,Q6,Q7,dk,db,base4.ok]
       refine⟨base4,by omega,(Kp.fr f1).trans f1.next (kp.trans hle kp4' hs') (fun i hi=> .inl hi), .inr ⟨trivial,(s.work.take j).flatMap B++l1,l2++(s.work.drop (j+1)).flatMap B,?_,by rw[<-List.append_assoc];exact hS⟩⟩
       conv=>lhs;rw[<-List.take_append_drop (j+1) s.work,bI gx]
       simp[List.flatMap_append,hBy,el,List.append_assoc]
  ·have he:j=s.work.length:=by omega
   subst he
   rw[List.take_length]at q'
   simp(maxDischargeDepth:=30)only[AA,↓reduceIte,Q1,Q2,Q3,Q4,reduceCtorEq,Q5,Q6,Q7,db,k',t26,t27,dL]
   exact⟨q'.base,by omega,(Kp.fr f1).trans f1.next kp (fun i hi=> .inl hi), .inl ⟨trivial,F',q',fun i hi=>(hs' i hi).elim .inl fun h=> .inr (by omega)⟩⟩
end Go.Am
