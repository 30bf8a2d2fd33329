/- Parts Am2, Am3, Am4 of the abstract machine over this program, joined: what each part says stands at its head. -/
import Derived.Test.YtlflfbnnjlkkcaaGreatJAm1
import Derived.Laws.AppendOwn
import Derived.Laws.Cells
import Derived.Laws.BitsLemmas
set_option linter.unusedSimpArgs false
set_option linter.unusedVariables false
set_option linter.defProp false
namespace Go.Am
open Go
@[simp] theorem au {α β:Type} (a:α) (f:α ->Option β):ae (some a) f=f a:=rfl
@[simp] theorem Jk {α β:Type} (f:α ->Option β):ae none f=none:=rfl
@[simp] theorem aK {β:Type} (x:Option β):aX true x=x:=rfl
@[simp] theorem V1 {β:Type} (x:Option β):aX false x=none:=rfl
theorem ab {α β:Type} {o:Option α} {f:α ->Option β} {b:β} (h:ae o f=some b): ∃a,o=some a/\ f a=some b:=by
 cases o with
 |none=>simp at h
 |some a=>exact⟨a,rfl,h⟩
theorem aq {β:Type} {b:Bool} {x:Option β} {y:β} (h:aX b x=some y):b=true/\ x=some y:=by
 cases b with
 |false=>simp at h
 |true=>exact⟨rfl,h⟩
theorem cU {α β:Type} (z:β) (c:α ->List α ->β ->β):kl z c []=z:=rfl
theorem nU {α β:Type} (z:β) (c:α ->List α ->β ->β) (a:α) (l:List α):kl z c (a::l)=c a l (kl z c l):=rfl
theorem xa {β:Type} (z:β) (s:Nat ->β ->β):QI z s 0=z:=rfl
theorem kO {α:Type} (l:List α): ∀n,Ex l n=l[n]? :=by
 induction l with
 |nil=>intro n;cases n<;>rfl
 |cons a l ih=>
  intro n
  cases n with
  |zero=>rfl
  |succ n=>exact(ih n).trans (by simp)
theorem zB {α:Type} (l:List α): ∀n v,QU l n v=l.set n v:=by
 induction l with
 |nil=>intro n v;cases n<;>rfl
 |cons a l ih=>
  intro n v
  cases n with
  |zero=>rfl
  |succ n=>show a::QU l n v=_;rw[ih n v];rfl
theorem Bq {α:Type} (d:α) (l:List α): ∀n,K9 d l n=l.getD n d:=by
 induction l with
 |nil=>intro n;cases n<;>rfl
 |cons a l ih=>
  intro n
  cases n with
  |zero=>rfl
  |succ n=>exact(ih n).trans (by simp)
def zr (τ:List (List Value)) (t:Nat):Prop:=t % 8<(τ.getD (t/8) []).length
theorem oQ (τ:List (List Value)) (t:Nat):iU τ t=(τ.getD (t/8) []).getD (t % 8) undef:=by
 unfold iU;rw[Bq,Bq];rfl
theorem oO (τ:List (List Value)) (t:Nat) (v:Value):uX τ t v=τ.set (t/8) ((τ.getD (t/8) []).set (t % 8) v):=by
 unfold uX;rw[zB,zB,Bq];rfl
theorem eQ {α:Type} (l:List α) (i j:Nat) (a d:α):(l.set i a).getD j d=if i=j/\ i<l.length then a else l.getD j d:=by
 simp only[List.getD_eq_getElem?_getD,List.getElem?_set]
 by_cases h:i=j
 ·subst h
  by_cases h2:i<l.length
  ·simp[h2]
  ·simp[h2]
 ·simp[h]
theorem XW {τ:List (List Value)} {t:Nat} (h:zr τ t):t/8<τ.length:=by
 unfold zr at h
 rcases Nat.lt_or_ge (t/8) τ.length with h1|h1
 ·exact h1
 ·rw[List.getD_eq_getElem?_getD,List.getElem?_eq_none h1]at h;simp at h
theorem lz {τ:List (List Value)} {t:Nat} (h:zr τ t) (v:Value):iU (uX τ t v) t=v:=by
 have h1:=XW h
 rw[oQ,oO,eQ,if_pos ⟨rfl,h1⟩,eQ,if_pos ⟨rfl,h⟩]
theorem oP (τ:List (List Value)) {t u:Nat} (h:t≠u) (v:Value):iU (uX τ t v) u=iU τ u:=by
 rw[oQ,oQ,oO,eQ]
 by_cases h1:t/8=u/8/\ t/8<τ.length
 ·rw[if_pos h1,eQ,if_neg (by omega),h1.1]
 ·rw[if_neg h1]
theorem F8 (τ:List (List Value)) (t u:Nat) (v:Value):zr (uX τ t v) u↔zr τ u:=by
 unfold zr
 rw[oO,eQ]
 by_cases h1:t/8=u/8/\ t/8<τ.length
 ·rw[if_pos h1,List.length_set,h1.1]
 ·rw[if_neg h1]
theorem OG {τ:List (List Value)} {t:Nat} (h: ¬zr τ t) (v:Value) (u:Nat):iU (uX τ t v) u=iU τ u:=by
 by_cases e:t=u
 ·subst e
  rw[oQ,oQ,oO,eQ]
  by_cases h1:t/8=t/8/\ t/8<τ.length
  ·rw[if_pos h1,eQ,if_neg (by unfold zr at h;omega)]
  ·rw[if_neg h1]
 ·exact oP τ e v
theorem yT: ∀(f:Nat) (l:List Value),l.length<f -> ∀t,((mO f l).getD (t/8) []).getD (t % 8) undef=l.getD t undef/\ (t % 8<((mO f l).getD (t/8) []).length↔t<l.length):=by
 intro f
 induction f with
 |zero=>intro l h;omega
 |succ f ih=>
  intro l h t
  cases l with
  |nil=>show(([]:List (List Value)).getD (t/8) []).getD (t % 8) undef=_/\ (t % 8<(([]:List (List Value)).getD (t/8) []).length↔_);simp
  |cons a l=>
   have e:mO (f+1) (a::l)=(a::l).take 8::mO f ((a::l).drop 8):=rfl
   rw[e]
   generalize hL:a::l=L at*
   have hlen:0<L.length:=by rw[<-hL];simp
   by_cases ht:t<8
   ·have h0:t/8=0:=by omega
    have h1:t % 8=t:=by omega
    rw[h0,h1]
    simp only[List.getD_eq_getElem?_getD,List.getElem?_cons_zero,Option.getD_some,List.getElem?_take,List.length_take]
    constructor
    ·simp[ht]
    ·omega
   ·have h0:t/8=(t -8)/8+1:=by omega
    have h1:t % 8=(t -8) % 8:=by omega
    have:=ih (L.drop 8) (by simp;omega) (t -8)
    rw[h0,h1]
    simp only[List.getD_eq_getElem?_getD,List.getElem?_cons_succ]at this⊢
    rw[this.1,this.2,List.getElem?_drop,List.length_drop]
    constructor
    ·congr 2;omega
    ·omega
theorem KJ (l:List Value) (t:Nat):iU (pg l) t=l.getD t undef:=by
 rw[oQ];exact(yT _ l (Nat.lt_succ_self _) t).1
theorem XV (l:List Value) (t:Nat):zr (pg l) t↔t<l.length:=(yT _ l (Nat.lt_succ_self _) t).2
structure Spot where
 blk:Nat
 base:Nat
 lim:Nat
 esz:Nat
abbrev Mu:=Nat ->Option Spot
def Mu.le (μ μ':Mu):Prop:= ∀i e,μ i=some e ->μ' i=some e
theorem Mu.le.refl (μ:Mu):μ.le μ:=fun _ _ h=>h
theorem Mu.le.trans {a b c:Mu} (h:a.le b) (h':b.le c):a.le c:=fun _ _ x=>h' _ _ (h _ _ x)
def Mu.upd (μ:Mu) (i:Nat) (e:Spot):Mu:=fun j=>if j=i then some e else μ j
theorem Mu.upd_self (μ:Mu) (i:Nat) (e:Spot):μ.upd i e i=some e:=by simp[Mu.upd]
theorem Mu.upd_ne (μ:Mu) {i j:Nat} (e:Spot) (h:j≠i):μ.upd i e j=μ j:=by simp[Mu.upd,h]
theorem Mu.le_upd {μ:Mu} {i:Nat} (e:Spot) (h:μ i=none):μ.le (μ.upd i e):=by
 intro j f hj
 by_cases e':j=i
 ·subst e';rw[h]at hj;simp at hj
 ·rw[Mu.upd_ne _ _ e'];exact hj
def ARel (μ:Mu) (a A:Addr):Prop:=A.spot=none/\ ∃e,μ a.block=some e/\ A.block=e.blk/\ A.off=e.base+a.off
inductive FnRel (μ:Mu):Fn ->Fn ->Prop where
 |func (f:FuncId):FnRel μ (.func f) (.func f)
 |method (n:String):FnRel μ (.method n) (.method n)
 |yield (l:Nat) (e:Spot) (h:μ l=some e):FnRel μ (.yield l) (.yield e.blk)
def Iu (μ:Mu) (a A:Addr) (C:Nat):Prop:=
 (a.block=0/\ C=0) \/(a.block≠0/\ ∃e,μ a.block=some e/\ ((A.spot=none/\ A.block=e.blk/\ A.off=e.base+a.off/\ (∀s,a.spot=some s ->s=e.esz/\ a.off+C*s<=e.lim)) \/C=0))
inductive VRel (μ:Mu):Value ->Value ->Prop where
 |plain (v:Value) (h:aU v=true):VRel μ v v
 |ptr (a A:Addr) (h:ARel μ a A):VRel μ (.pointer (some a)) (.pointer (some A))
 |slice (a A:Addr) (n c C:Nat) (hc:c<=C) (hn:n<=C) (h:Iu μ a A C):VRel μ (.slice (some a) n c) (.slice (some A) n C)
 |map (r:Nat) (e:Spot) (h:μ r=some e):VRel μ (.map (some r)) (.map (some e.blk))
 |func (f g:Fn) (xs Xs ys Ys:Array Value) (hf:FnRel μ f g) (hx:xs.toList.length=Xs.toList.length) (hy:ys.toList.length=Ys.toList.length)
   (h1: ∀(i:Nat) (x X:Value),xs.toList[i]? =some x ->Xs.toList[i]? =some X ->VRel μ x X) (h2: ∀(i:Nat) (x X:Value),ys.toList[i]? =some x ->Ys.toList[i]? =some X ->VRel μ x X):
   VRel μ (.func f xs ys) (.func g Xs Ys)
 |iface (t:TypeId) (v V:Value) (h:VRel μ v V):VRel μ (.iface t v) (.iface t V)
 |agg (xs Xs:Array Value) (hx:xs.toList.length=Xs.toList.length) (h1: ∀(i:Nat) (x X:Value),xs.toList[i]? =some x ->Xs.toList[i]? =some X ->VRel μ x X):VRel μ (.agg xs) (.agg Xs)
 |tuple (xs Xs:Array Value) (hx:xs.toList.length=Xs.toList.length) (h1: ∀(i:Nat) (x X:Value),xs.toList[i]? =some x ->Xs.toList[i]? =some X ->VRel μ x X):VRel μ (.tuple xs) (.tuple Xs)
theorem FnRel.mono {μ μ':Mu} (hle:μ.le μ') {f g:Fn} (h:FnRel μ f g):FnRel μ' f g:=by
 cases h with
 |func f=>exact .func f
 |method n=>exact .method n
 |yield l e h=>exact .yield l e (hle _ _ h)
theorem VRel.mono {μ μ':Mu} (hle:μ.le μ') {v V:Value} (h:VRel μ v V):VRel μ' v V:=by
 induction h with
 |plain v h=>exact .plain v h
 |ptr a A h=>obtain⟨h1,e,h2,h3⟩:=h;exact .ptr a A ⟨h1,e,hle _ _ h2,h3⟩
 |slice a A n c C hc hn h=>
  refine .slice a A n c C hc hn ?_
  rcases h with h|⟨h1,e,h2,h3⟩
  ·exact .inl h
  ·exact .inr ⟨h1,e,hle _ _ h2,h3⟩
 |map r e h=>exact .map r e (hle _ _ h)
 |func f g xs Xs ys Ys hf hx hy _ _ ih1 ih2=>exact .func f g xs Xs ys Ys (hf.mono hle) hx hy ih1 ih2
 |iface t v V _ ih=>exact .iface t v V ih
 |agg xs Xs hx _ ih=>exact .agg xs Xs hx ih
 |tuple xs Xs hx _ ih=>exact .tuple xs Xs hx ih
def VRels (μ:Mu) (l L:List Value):Prop:=l.length=L.length/\ ∀(i:Nat) (x X:Value),l[i]? =some x ->L[i]? =some X ->VRel μ x X
namespace VRels
variable {μ:Mu}
theorem mono {μ':Mu} (hle:μ.le μ') {l L:List Value} (h:VRels μ l L):VRels μ' l L:=⟨h.1,fun i x X a b=>(h.2 i x X a b).mono hle⟩
theorem nil:VRels μ [] []:=⟨rfl,fun i x X a _=>by simp at a⟩
theorem cons {v V:Value} {l L:List Value} (h:VRel μ v V) (hs:VRels μ l L):VRels μ (v::l) (V::L):=by
 refine⟨by simp[hs.1],fun i x X a b=> ?_⟩
 cases i with
 |zero=>simp at a b;subst a;subst b;exact h
 |succ i=>simp at a b;exact hs.2 i x X a b
theorem nil_inv {L:List Value} (h:VRels μ [] L):L=[]:=by
 have:=h.1;simp at this;exact List.eq_nil_of_length_eq_zero this.symm
theorem cons_inv {v:Value} {l L:List Value} (h:VRels μ (v::l) L): ∃V L',L=V::L'/\ VRel μ v V/\ VRels μ l L':=by
 cases L with
 |nil=>have:=h.1;simp at this
 |cons V L=>
  refine⟨V,L,rfl,h.2 0 v V rfl rfl,?_,fun i x X a b=>h.2 (i+1) x X (by simpa using a) (by simpa using b)⟩
  have:=h.1;simpa using this
theorem append {l L m M:List Value} (h:VRels μ l L) (h':VRels μ m M):VRels μ (l++m) (L++M):=by
 refine⟨by simp[h.1,h'.1],fun i x X a b=> ?_⟩
 rw[List.getElem?_append]at a b
 by_cases hi:i<l.length
 ·rw[if_pos hi]at a;rw[if_pos (h.1▸hi)]at b;exact h.2 i x X a b
 ·rw[if_neg hi]at a;rw[if_neg (h.1▸hi)]at b;rw[<-h.1]at b;exact h'.2 _ x X a b
theorem take {l L:List Value} (h:VRels μ l L) (n:Nat):VRels μ (l.take n) (L.take n):=by
 refine⟨by simp[h.1],fun i x X a b=> ?_⟩
 rw[List.getElem?_take]at a b
 by_cases hi:i<n
 ·rw[if_pos hi]at a b;exact h.2 i x X a b
 ·rw[if_neg hi]at a;simp at a
theorem drop {l L:List Value} (h:VRels μ l L) (n:Nat):VRels μ (l.drop n) (L.drop n):=by
 refine⟨by simp[h.1],fun i x X a b=> ?_⟩
 rw[List.getElem?_drop]at a b
 exact h.2 _ x X a b
theorem get {l L:List Value} (h:VRels μ l L) {i:Nat} {x:Value} (hx:l[i]? =some x): ∃X,L[i]? =some X/\ VRel μ x X:=by
 have hi:i<l.length:=by
  rcases Nat.lt_or_ge i l.length with h|h
  ·exact h
  ·rw[List.getElem?_eq_none h]at hx;simp at hx
 have hL:i<L.length:=h.1▸hi
 exact⟨L[i],List.getElem?_eq_getElem hL,h.2 i x _ hx (List.getElem?_eq_getElem hL)⟩
theorem set {l L:List Value} (h:VRels μ l L) (i:Nat) {v V:Value} (hv:VRel μ v V):VRels μ (l.set i v) (L.set i V):=by
 refine⟨by simp[h.1],fun j x X a b=> ?_⟩
 rw[List.getElem?_set]at a b
 by_cases hi:i=j
 ·rw[if_pos hi]at a b
  by_cases h2:i<l.length
  ·rw[if_pos h2]at a;rw[if_pos (h.1▸h2)]at b;simp at a b;subst a;subst b;exact hv
  ·rw[if_neg h2]at a;simp at a
 ·rw[if_neg hi]at a b;exact h.2 j x X a b
theorem plain {l:List Value} (h:l.all aU=true):VRels μ l l:=by
 refine⟨rfl,fun i x X a b=> ?_⟩
 rw[a]at b;simp at b;subst b
 exact .plain x (List.all_eq_true.1 h x (List.mem_of_getElem? a))
theorem map {α:Type} {l:List α} {f g:α ->Value} (h: ∀a∈l,VRel μ (f a) (g a)):VRels μ (l.map f) (l.map g):=by
 refine⟨by simp,fun i x X a b=> ?_⟩
 rw[List.getElem?_map]at a b
 cases hi:l[i]? with
 |none=>rw[hi]at a;simp at a
 |some y=>rw[hi]at a b;simp at a b;subst a;subst b;exact h y (List.mem_of_getElem? hi)
end VRels
namespace VRel
variable {μ:Mu}
theorem agg' {l:List Value} {L:List Value} (h:VRels μ l L):VRel μ (br l) (.agg ⟨L⟩):= .agg _ _ h.1 h.2
theorem tup' {l:List Value} {L:List Value} (h:VRels μ l L):VRel μ (nO l) (.tuple ⟨L⟩):= .tuple _ _ h.1 h.2
theorem bool_inv {b:Bool} {V:Value} (h:VRel μ (.bool b) V):V= .bool b:=by cases h;rfl
theorem int_inv {k:IntKind} {n:Int} {V:Value} (h:VRel μ (.int k n) V):V= .int k n:=by cases h;rfl
theorem string_inv {s:ByteArray} {V:Value} (h:VRel μ (.string s) V):V= .string s:=by cases h;rfl
theorem ptr_inv {a:Addr} {V:Value} (h:VRel μ (.pointer (some a)) V): ∃A,V= .pointer (some A)/\ ARel μ a A:=by
 cases h with
 |plain _ h=>simp[aU]at h
 |ptr a A h=>exact⟨A,rfl,h⟩
theorem nilptr_inv {V:Value} (h:VRel μ (.pointer none) V):V= .pointer none:=by cases h;rfl
theorem nilslice_inv {n c:Nat} {V:Value} (h:VRel μ (.slice none n c) V):V= .slice none n c:=by cases h;rfl
theorem slice_inv {a:Addr} {n c:Nat} {V:Value} (h:VRel μ (.slice (some a) n c) V): ∃A C,V= .slice (some A) n C/\ c<=C/\ n<=C/\ Iu μ a A C:=by
 cases h with
 |plain _ h=>simp[aU]at h
 |slice a A n c C hc hn h=>exact⟨A,C,rfl,hc,hn,h⟩
theorem nilmap_inv {V:Value} (h:VRel μ (.map none) V):V= .map none:=by cases h;rfl
theorem map_inv {r:Nat} {V:Value} (h:VRel μ (.map (some r)) V): ∃e,V= .map (some e.blk)/\ μ r=some e:=by
 cases h with
 |plain _ h=>simp[aU]at h
 |map r e h=>exact⟨e,rfl,h⟩
theorem nilFunc_inv {V:Value} (h:VRel μ .nilFunc V):V= .nilFunc:=by cases h;rfl
theorem nilIface_inv {V:Value} (h:VRel μ .nilIface V):V= .nilIface:=by cases h;rfl
theorem iface_inv {t:TypeId} {v V:Value} (h:VRel μ (.iface t v) V): ∃U,V= .iface t U/\ VRel μ v U:=by
 cases h with
 |plain _ h=>simp[aU]at h
 |iface t v V h=>exact⟨V,rfl,h⟩
theorem agg_inv {xs:Array Value} {V:Value} (h:VRel μ (.agg xs) V): ∃Xs,V= .agg Xs/\ VRels μ xs.toList Xs.toList:=by
 cases h with
 |plain _ h=>simp[aU]at h
 |agg xs Xs hx h1=>exact⟨Xs,rfl,hx,h1⟩
theorem tuple_inv {xs:Array Value} {V:Value} (h:VRel μ (.tuple xs) V): ∃Xs,V= .tuple Xs/\ VRels μ xs.toList Xs.toList:=by
 cases h with
 |plain _ h=>simp[aU]at h
 |tuple xs Xs hx h1=>exact⟨Xs,rfl,hx,h1⟩
theorem func_inv {f:Fn} {xs ys:Array Value} {V:Value} (h:VRel μ (.func f xs ys) V):
  ∃g Xs Ys,V= .func g Xs Ys/\ FnRel μ f g/\ VRels μ xs.toList Xs.toList/\ VRels μ ys.toList Ys.toList:=by
 cases h with
 |plain _ h=>simp[aU]at h
 |func f g xs Xs ys Ys hf hx hy h1 h2=>exact⟨g,Xs,Ys,rfl,hf,⟨hx,h1⟩,hy,h2⟩
theorem undef':VRel μ undef undef:= .tuple _ _ rfl (fun i x X a _=>by simp at a)
theorem func' {f g:Fn} {xs Xs ys Ys:List Value} (hf:FnRel μ f g) (hx:VRels μ xs Xs) (hy:VRels μ ys Ys):VRel μ (.func f ⟨xs⟩ ⟨ys⟩) (.func g ⟨Xs⟩ ⟨Ys⟩):=
 .func _ _ _ _ _ _ hf hx.1 hy.1 hx.2 hy.2
theorem cells {v V:Value} (h:VRel μ v V):VRels μ (cellsOf v) V.cells.toList:=by
 cases v with
 |agg xs=>obtain⟨Xs,rfl,hs⟩:=h.agg_inv;exact hs
 |_=>
  first
   |(have:=h.bool_inv;subst this;exact .cons h .nil)
   |(cases h<;>first|exact .cons (by first|exact .plain _ ‹_› |exact .ptr _ _ ‹_› |exact .slice _ _ _ _ _ ‹_› ‹_› ‹_› |exact .map _ _ ‹_› |exact .iface _ _ _ ‹_› |exact .tuple _ _ ‹_› ‹_› |exact .func _ _ _ _ _ _ ‹_› ‹_› ‹_› ‹_› ‹_›) .nil)
theorem ofPlain {v:Value} (h:Go.Am.plain v=true):VRel μ v v:=by
 cases v with
 |agg cs=>exact .agg' (VRels.plain h)
 |_=>exact .plain _ h
end VRel
def TRel (μ:Mu) (τ:List (List Value)) (T:Array Value):Prop:= ∀t,VRel μ (iU τ t) (T.getD t undef)/\ (zr τ t↔t<T.size)
theorem TRel.mono {μ μ':Mu} (hle:μ.le μ') {τ:List (List Value)} {T:Array Value} (h:TRel μ τ T):TRel μ' τ T:=fun t=>⟨(h t).1.mono hle,(h t).2⟩
theorem TRel.mk' {μ:Mu} {l:List Value} {L:Array Value} (h:VRels μ l L.toList):TRel μ (pg l) L:=by
 intro t
 rw[KJ,XV]
 refine⟨?_,by rw[h.1];simp⟩
 rw[List.getD_eq_getElem?_getD,Array.getD_eq_getD_getElem?]
 cases hx:l[t]? with
 |none=>
  have:L[t]? =none:=by
   rw[<-Array.getElem?_toList]
   rw[List.getElem?_eq_none_iff]at hx⊢
   rw[<-h.1];exact hx
  rw[this];exact .undef'
 |some x=>
  obtain⟨X,hX,hr⟩:=h.get hx
  rw[Array.getElem?_toList]at hX
  rw[hX];exact hr
theorem TRel.set {μ:Mu} {τ:List (List Value)} {T:Array Value} (h:TRel μ τ T) (d:Nat) {v V:Value} (hv:VRel μ v V):TRel μ (uX τ d v) (T.setIfInBounds d V):=by
 intro t
 rw[F8,Array.size_setIfInBounds]
 refine⟨?_,(h t).2⟩
 rw[Array.getD_eq_getD_getElem?,Array.getElem?_setIfInBounds]
 by_cases hin:zr τ d
 ·have hd:=(h d).2.1 hin
  by_cases e:d=t
  ·subst e;rw[lz hin,if_pos rfl,if_pos hd];exact hv
  ·rw[oP τ e,if_neg e,<-Array.getD_eq_getD_getElem?];exact(h t).1
 ·rw[OG hin]
  by_cases e:d=t
  ·subst e
   have hd: ¬d<T.size:=fun h'=>hin ((h d).2.2 h')
   rw[if_pos rfl,if_neg hd]
   have:=(h d).1
   rw[Array.getD_eq_getD_getElem?,Array.getElem?_eq_none (by omega)]at this
   exact this
  ·rw[if_neg e,<-Array.getD_eq_getD_getElem?];exact(h t).1
end Go.Am

namespace Go.Am
open Go
structure Quiet (w w':World):Prop where
 os:w'.os=w.os
 output:w'.output=w.output
 heap:w'.heap=w.heap
structure Turned (w w':World) (b:Nat) (o:Obj):Prop where
 os:w'.os=w.os
 output:w'.output=w.output
 size:w'.heap.size=w.heap.size
 here:w'.heap[b]? =some o
 other: ∀j,j≠b ->w'.heap[j]? =w.heap[j]?
structure Grew (w w':World) (o:Obj):Prop where
 os:w'.os=w.os
 output:w'.output=w.output
 size:w'.heap.size=w.heap.size+1
 here:w'.heap[w.heap.size]? =some o
 other: ∀j,j<w.heap.size ->w'.heap[j]? =w.heap[j]?
theorem Quiet.refl (w:World):Quiet w w:=⟨rfl,rfl,rfl⟩
theorem Quiet.drew (w:World):Quiet w w.drew:=⟨rfl,rfl,rfl⟩
theorem Grew.alloc (w:World) (o:Obj):Grew w (w.alloc o) o:=⟨rfl,rfl,by simp,heap_alloc_new w o,heap_alloc_old w o⟩
theorem Grew.drew_alloc (w:World) (o:Obj):Grew w (w.drew.alloc o) o:=⟨rfl,rfl,by simp,heap_alloc_new w.drew o,heap_alloc_old w.drew o⟩
theorem Turned.setRow {w:World} {g:Nat} {cur cs:Array Value} {t:TypeId} {fr:Nat×Nat} (hg:w.heap[g]? =some (.cells cur t fr)):Turned w (w.setRow g cs) g (.cells cs t fr):=
 ⟨rfl,rfl,by simp,setRow_heap w g cur cs t fr hg,fun j h=>setRow_other w g j cs h⟩
theorem Turned.setObj {w:World} {r:Nat} {o p:Obj} (hr:w.heap[r]? =some p):Turned w {w with heap:=w.heap.setIfInBounds r o} r o:=by
 have hlt:r<w.heap.size:=(Array.getElem?_eq_some_iff.1 hr).1
 refine⟨rfl,rfl,by simp,by simp[hlt],fun j h=> ?_⟩
 simp only[Array.getElem?_setIfInBounds]
 rw[if_neg (fun e=>h e.symm)]
def AObj.own:AObj ->Bool
 | .row _ _ o=>o
 | .dead=>false
 |_=>true
def AObj.live:AObj ->Bool
 | .dead=>false
 |_=>true
def ERels (μ:Mu) (es ES:List MapEntry):Prop:=
 es.length=ES.length/\ ∀(i:Nat) (e E:MapEntry),es[i]? =some e ->ES[i]? =some E ->E.key=e.key/\ E.born=e.born/\ VRel μ e.val E.val
theorem ERels.mono {μ μ':Mu} (hle:μ.le μ') {es ES:List MapEntry} (h:ERels μ es ES):ERels μ' es ES:=
 ⟨h.1,fun i e E a b=>⟨(h.2 i e E a b).1,(h.2 i e E a b).2.1,(h.2 i e E a b).2.2.mono hle⟩⟩
structure LRel (good:Code ->Prop) (μ:Mu) (r:ALoop) (L:Loop):Prop where
 state:L.state=r.state
 pending:L.pending=r.pending
 tmps:TRel μ r.tmps L.tmps
 params:L.params.toList=r.params
 assign:L.assign=r.assign
 body:L.body=r.body
 goodA:good r.assign
 goodB:good r.body
 goodP: ∀c,r.pending=some c ->good c
 defers: ∃e,μ r.defers=some e/\ L.defers=e.blk
theorem LRel.mono {good:Code ->Prop} {μ μ':Mu} (hle:μ.le μ') {r:ALoop} {L:Loop} (h:LRel good μ r L):LRel good μ' r L:=
 {h with tmps:=h.tmps.mono hle,defers:=let⟨e,a,b⟩:=h.defers;⟨e,hle _ _ a,b⟩}
def Bd (C:Array Value) (fz:Nat×Nat):Prop:= ∀i,i<C.size -> ¬(fz.1<=i/\ i<fz.2)
def ORel (good:Code ->Prop) (N0:Nat) (μ:Mu) (e:Spot) (o:AObj) (O:Option Obj):Prop:=
 match o with
 | .row cells esz own=> ∃C el fz,O=some (.cells C el fz)/\ e.base+e.lim<=C.size/\ cells.length<=e.lim/\ esz=e.esz/\
   VRels μ cells ((C.toList.drop e.base).take cells.length)/\ (own=true ->N0<=e.blk/\ Bd C fz)
 | .dead=>True
 | .map es c=>N0<=e.blk/\ ∃ES,O=some (.map ES c)/\ ERels μ es ES.toList
 | .iter s p=>N0<=e.blk/\ O=some (.stringIter s p)/\ e.base=0
 | .loop r=>N0<=e.blk/\ ∃L,O=some (.loop L)/\ LRel good μ r L
 | .deferred b=>N0<=e.blk/\ O=some (.deferred (if b then some []else none))
theorem ORel.mono {good:Code ->Prop} {N0:Nat} {μ μ':Mu} (hle:μ.le μ') {e:Spot} {o:AObj} {O:Option Obj} (h:ORel good N0 μ e o O):ORel good N0 μ' e o O:=by
 cases o with
 |row cells esz own=>obtain⟨C,el,fz,h1,h2,h3,h4,h5,h6⟩:=h;exact⟨C,el,fz,h1,h2,h3,h4,h5.mono hle,h6⟩
 |dead=>trivial
 |map es c=>obtain⟨h1,ES,h2,h3⟩:=h;exact⟨h1,ES,h2,h3.mono hle⟩
 |iter s p=>exact h
 |loop r=>obtain⟨h1,L,h2,h3⟩:=h;exact⟨h1,L,h2,h3.mono hle⟩
 |deferred b=>exact h
theorem ORel.own_ge {good:Code ->Prop} {N0:Nat} {μ:Mu} {e:Spot} {o:AObj} {O:Option Obj} (h:ORel good N0 μ e o O) (ho:o.own=true):N0<=e.blk:=by
 cases o with
 |row cells esz own=>obtain⟨C,el,fz,_,_,_,_,_,h6⟩:=h;exact(h6 ho).1
 |dead=>simp[AObj.own]at ho
 |map es c=>exact h.1
 |iter s p=>exact h.1
 |loop r=>exact h.1
 |deferred b=>exact h.1
theorem ORel.some {good:Code ->Prop} {N0:Nat} {μ:Mu} {e:Spot} {o:AObj} {O:Option Obj} (h:ORel good N0 μ e o O) (ho:o.live=true): ∃X,O=some X:=by
 cases o with
 |row cells esz own=>obtain⟨C,el,fz,h1,_⟩:=h;exact⟨_,h1⟩
 |dead=>simp[AObj.live]at ho
 |map es c=>obtain⟨_,ES,h2,_⟩:=h;exact⟨_,h2⟩
 |iter s p=>exact⟨_,h.2.1⟩
 |loop r=>obtain⟨_,L,h2,_⟩:=h;exact⟨_,h2⟩
 |deferred b=>exact⟨_,h.2⟩
structure HRel (good:Code ->Prop) (w0:World) (μ:Mu) (h:Heap) (w:World):Prop where
 os:w.os=w0.os
 output:w.output=w0.output
 size:w0.heap.size<=w.heap.size
 old: ∀b,b<w0.heap.size ->w.heap[b]? =w0.heap[b]?
 dom: ∀i e,μ i=some e ->i<h.next/\ i≠0
 pos:0<h.next
 obj: ∀i e o,μ i=some e ->h.get i=some o ->ORel good w0.heap.size μ e o w.heap[e.blk]?
 inj: ∀i j e f o p,i≠j ->μ i=some e ->μ j=some f ->h.get i=some o ->h.get j=some p ->o.own=true ->p.live=true ->e.blk≠f.blk
section
variable {good:Code ->Prop} {w0:World} {μ:Mu} {h:Heap} {w w':World}
theorem HRel.quiet (H : HRel good w0 μ h w) (q : Quiet w w') : HRel good w0 μ h w' :=
  { H with os := q.os.trans H.os, output := q.output.trans H.output, size := by rw [q.heap]; exact H.size, old := fun b hb => by rw [q.heap]; exact H.old b hb,
           obj := fun i e o a b => by rw [q.heap]; exact H.obj i e o a b }
theorem HRel.fresh (H:HRel good w0 μ h w):μ h.next=none:=by
 cases e:μ h.next with
 |none=>rfl
 |some x=>have:=(H.dom _ _ e).1;omega
theorem HRel.allocA (H:HRel good w0 μ h w) (o:AObj):HRel good w0 μ (h.alloc o) w:=by
 have hf:=H.fresh
 have ne: ∀i e,μ i=some e ->i≠h.next:=fun i e a b=>by rw[b,hf]at a;simp at a
 refine{H with dom:=fun i e a=>⟨by have:=(H.dom i e a).1;simp;omega,(H.dom i e a).2⟩,pos:=by simp,obj:= ?_,inj:= ?_}
 ·intro i e p a b
  rw[Heap.get_alloc_ne _ _ (ne i e a)]at b
  exact H.obj i e p a b
 ·intro i j e f o' p hij a b c d
  rw[Heap.get_alloc_ne _ _ (ne i e a)]at c
  rw[Heap.get_alloc_ne _ _ (ne j f b)]at d
  exact H.inj i j e f o' p hij a b c d
theorem HRel.turned (H:HRel good w0 μ h w) {i:Nat} {e:Spot} {o o':AObj} {O':Obj} (hi:μ i=some e) (ho:h.get i=some o) (hown:o.own=true) (hlive:o.live=true)
  (t:Turned w w' e.blk O') (hr:ORel good w0.heap.size μ e o' (some O')):HRel good w0 μ (h.set i o') w':=by
 have hge:=(H.obj i e o hi ho).own_ge hown
 refine{os:=t.os.trans H.os,output:=t.output.trans H.output,size:=by rw[t.size];exact H.size,old:=fun b hb=>(t.other b (by omega)).trans (H.old b hb),dom:=fun j f a=>H.dom j f a,pos:=H.pos,obj:= ?_,inj:= ?_}
 ·intro j f p a b
  rw[Heap.get_set]at b
  by_cases hj:j=i
  ·subst hj;rw[if_pos rfl]at b;rw[hi]at a;cases a;cases b;rw[t.here];exact hr
  ·rw[if_neg hj]at b
   have hp:=H.obj j f p a b
   cases hl:p.live with
   |false=>cases p<;>first|trivial|simp[AObj.live]at hl
   |true=>rw[t.other f.blk (fun eq=>H.inj i j e f o p (fun x=>hj x.symm) hi a ho b hown hl eq.symm)];exact hp
 ·intro j k f g p q hjk a b c d pown qlive
  rw[Heap.get_set]at c d
  by_cases hj:j=i
  ·subst hj
   rw[if_neg (fun x=>hjk x.symm)]at d
   exact H.inj j k f g o q hjk a b ho d hown qlive
  ·rw[if_neg hj]at c
   by_cases hk:k=i
   ·subst hk
    exact H.inj j k f g p o hjk a b c ho pown hlive
   ·rw[if_neg hk]at d
    exact H.inj j k f g p q hjk a b c d pown qlive
theorem HRel.grew (H:HRel good w0 μ h w) {i:Nat} {o:AObj} {O:Obj} (lim esz:Nat) (hi:μ i=none) (hi0:i≠0) (hlt:i<h.next) (ho:h.get i=some o) (g:Grew w w' O)
  (hr:ORel good w0.heap.size (μ.upd i ⟨w.heap.size,0,lim,esz⟩) ⟨w.heap.size,0,lim,esz⟩ o (some O)):HRel good w0 (μ.upd i ⟨w.heap.size,0,lim,esz⟩) h w':=by
 have hle:=Mu.le_upd (μ:=μ) (i:=i) ⟨w.heap.size,0,lim,esz⟩ hi
 have blt: ∀j f p,μ j=some f ->h.get j=some p ->p.live=true ->f.blk<w.heap.size:=by
  intro j f p a b l
  obtain⟨X,hX⟩:=(H.obj j f p a b).some l
  exact(Array.getElem?_eq_some_iff.1 hX).1
 refine{os:=g.os.trans H.os,output:=g.output.trans H.output,size:=by have:=g.size;have:=H.size;omega,old:=fun b hb=>(g.other b (by have:=H.size;omega)).trans (H.old b hb),dom:= ?_,pos:=H.pos,obj:= ?_,inj:= ?_}
 ·intro j f a
  by_cases hj:j=i
  ·subst hj;exact⟨hlt,hi0⟩
  ·rw[Mu.upd_ne _ _ hj]at a;exact H.dom j f a
 ·intro j f p a b
  by_cases hj:j=i
  ·subst hj;rw[Mu.upd_self]at a;cases a;rw[ho]at b;cases b;rw[g.here];exact hr
  ·rw[Mu.upd_ne _ _ hj]at a
   cases hl:p.live with
   |false=>cases p<;>first|trivial|simp[AObj.live]at hl
   |true=>rw[g.other _ (blt j f p a b hl)];exact(H.obj j f p a b).mono hle
 ·intro j k f f' p q hjk a b c d pown qlive
  by_cases hj:j=i
  ·subst hj
   rw[Mu.upd_self]at a;cases a
   rw[Mu.upd_ne _ _ (fun x=>hjk x.symm)]at b
   have:=blt k f' q b d qlive
   dsimp only;omega
  ·rw[Mu.upd_ne _ _ hj]at a
   by_cases hk:k=i
   ·subst hk
    rw[Mu.upd_self]at b;cases b
    have:=blt j f p a c (by cases p<;>first|rfl|simp[AObj.own]at pown)
    dsimp only;omega
   ·rw[Mu.upd_ne _ _ hk]at b
    exact H.inj j k f f' p q hjk a b c d pown qlive
theorem HRel.kill (H:HRel good w0 μ h w) (i:Nat):HRel good w0 μ (h.set i .dead) w:=by
 refine{H with dom:=fun j f a=>H.dom j f a,pos:=H.pos,obj:= ?_,inj:= ?_}
 ·intro j f p a b
  rw[Heap.get_set]at b
  by_cases hj:j=i
  ·rw[if_pos hj]at b;cases b;trivial
  ·rw[if_neg hj]at b;exact H.obj j f p a b
 ·intro j k f g p q hjk a b c d pown qlive
  rw[Heap.get_set]at c d
  by_cases hj:j=i
  ·rw[if_pos hj]at c;cases c;simp[AObj.own]at pown
  ·rw[if_neg hj]at c
   by_cases hk:k=i
   ·rw[if_pos hk]at d;cases d;simp[AObj.live]at qlive
   ·rw[if_neg hk]at d;exact H.inj j k f g p q hjk a b c d pown qlive
theorem HRel.adopt (H:HRel good w0 μ h w) {i:Nat} {o:AObj} (e:Spot) (hi:μ i=none) (hi0:i≠0) (hlt:i<h.next) (ho:h.get i=some o)
  (hfree: ∀j f p,μ j=some f ->h.get j=some p ->p.live=true ->f.blk≠e.blk) (hr:ORel good w0.heap.size (μ.upd i e) e o w.heap[e.blk]?):HRel good w0 (μ.upd i e) h w:=by
 have hle:=Mu.le_upd (μ:=μ) (i:=i) e hi
 refine{H with dom:= ?_,pos:=H.pos,obj:= ?_,inj:= ?_}
 ·intro j f a
  by_cases hj:j=i
  ·subst hj;exact⟨hlt,hi0⟩
  ·rw[Mu.upd_ne _ _ hj]at a;exact H.dom j f a
 ·intro j f p a b
  by_cases hj:j=i
  ·subst hj;rw[Mu.upd_self]at a;cases a;rw[ho]at b;cases b;exact hr
  ·rw[Mu.upd_ne _ _ hj]at a;exact(H.obj j f p a b).mono hle
 ·intro j k f f' p q hjk a b c d pown qlive
  by_cases hj:j=i
  ·subst hj
   rw[Mu.upd_self]at a;cases a
   rw[Mu.upd_ne _ _ (fun x=>hjk x.symm)]at b
   exact fun eq=>hfree k f' q b d qlive eq.symm
  ·rw[Mu.upd_ne _ _ hj]at a
   by_cases hk:k=i
   ·subst hk
    rw[Mu.upd_self]at b;cases b
    exact hfree j f p a c (by cases p<;>first|rfl|simp[AObj.own]at pown)
   ·rw[Mu.upd_ne _ _ hk]at b
    exact H.inj j k f f' p q hjk a b c d pown qlive
theorem HRel.row (H:HRel good w0 μ h w) {i:Nat} {e:Spot} {cells:List Value} (hi:μ i=some e) (hc:rowAt h i=some cells):
  ∃C el fz,w.heap[e.blk]? =some (.cells C el fz)/\ e.base+e.lim<=C.size/\ cells.length<=e.lim/\ VRels μ cells ((C.toList.drop e.base).take cells.length):=by
 obtain⟨o,ho,hr⟩:=ab hc
 cases o<;>simp[Dh]at hr
 subst hr
 obtain⟨C,el,fz,h1,h2,h3,_,h5,_⟩:=H.obj i e _ hi ho
 exact⟨C,el,fz,h1,h2,h3,h5⟩
theorem HRel.cell (H:HRel good w0 μ h w) {i:Nat} {e:Spot} {cells:List Value} (hi:μ i=some e) (hc:rowAt h i=some cells) {off:Nat} {v:Value} (hv:cells[off]? =some v):
  ∃V,w.cell? ⟨e.blk,e.base+off,none⟩=some V/\ VRel μ v V:=by
 obtain⟨C,el,fz,h1,h2,h3,h5⟩:=H.row hi hc
 obtain⟨V,hV,hr⟩:=h5.get hv
 rw[List.getElem?_take]at hV
 split at hV
 ·rw[List.getElem?_drop]at hV
  refine⟨V,?_,hr⟩
  rw[cell_of_row w e.blk (e.base+off) C el fz h1]
  simpa using hV
 ·simp at hV
end
end Go.Am

namespace Go.Am
open Go
structure EqSpec (P:Program) (t:TypeId) (z:List Value):Prop where
 eq: ∀(xs ys:Array Value) (b:Bool),cW z xs.toList=true ->cW xs.toList ys.toList=true ->bP xs.toList ys.toList=some b -> ∀w,(Op.equal t (.agg xs) (.agg ys)).run P w= .ok b w
 guard:P.eqGuardType P.depth t=false
 key: ∀(cs:Array Value) (n:Nat),(P.info? t).map (·.size)=some n ->cs.toList.length=n ->cW z cs.toList=true -> ∀(e:Bool) (w:World),(Instr.checkKey e 10000 t (.agg cs)).run P w= .ok () w
noncomputable def BK (C:Ctx):Operand ->Bool
 | .const v=>plain v
 | .global g=>Nat.ble (g+1) C.P.globals.size
 |_=>true
structure Ctx.Ok0 (C:Ctx):Prop where
 T: ∀t i,C.T.get t=some i ->C.P.info? t=some i
 Z: ∀t i z,C.T.get t=some i ->i.zero=some z ->Jl z=true ->plain z=true
 S: ∀t fs,C.und t=some (.struct fs) -> ∀f∈fs.toList,∃n,C.size f.type=some n
 eq: ∀t z,C.eqOk t=true ->C.zero t=some z ->EqSpec C.P t (cellsOf z)
theorem zC {C:Ctx} {t:TypeId} {l:List Value} (h:C.like t l=true): ∃z,C.zero t=some z/\ cW (cellsOf z) l=true:=by
 unfold Ctx.like at h
 split at h
 ·rename_i z hz;exact⟨z,hz,h⟩
 ·simp at h
theorem tI {z:List Value}: ∀{l:List Value},cW z l=true ->l.all basic=true:=by
 induction z with
 |nil=>
  intro l h
  cases l with
  |nil=>rfl
  |cons y l=>simp[cW,cU]at h
 |cons x z ih=>
  intro l h
  cases l with
  |nil=>rfl
  |cons y l=>
   have h:(match jl x y with|true=>cW z l|false=>false)=true:=h
   cases hk:jl x y with
   |false=>rw[hk]at h;simp at h
   |true=>
    rw[hk]at h
    rw[List.all_cons,ih h,Bool.and_true]
    cases x<;>cases y<;>first|rfl|(simp[jl]at hk;done)
section
variable {C:Ctx} (hC:C.Ok0)
include hC
theorem qG {t:TypeId} {d:TypeDesc} (h:C.und t=some d):C.P.underlying t=some d:=by
 obtain⟨i,hi,h1⟩:=ab h
 have h2:=hC.T t i hi
 unfold Program.underlying
 rw[h2]
 obtain⟨desc,str,size,bytes,hp,al,fal,zero,cmp,ms⟩:=i
 cases desc<;>simp only[Xv]at h1<;>first
  |(simpa using h1)
  |(obtain⟨j,hj,h3⟩:=ab h1;simp only[hC.T _ j hj];simpa using h3)
theorem KT {t:TypeId} {n:Nat} (h:C.size t=some n):(C.P.info? t).map (·.size)=some n:=by
 obtain⟨i,hi,h1⟩:=ab h
 rw[hC.T t i hi];exact h1
theorem bE {t:TypeId} {d:TypeDesc} (h:C.und t=some d) (w:World):(underlying t).run C.P w= .ok d w:=run_underlying (qG hC h) w
theorem j8 {t:TypeId} {i:TypeInfo} (h:C.T.get t=some i) (w:World):(typeInfo t).run C.P w= .ok i w:=by
 unfold typeInfo;simp[hC.T t i h]
theorem cE {t:TypeId} {n:Nat} (h:C.size t=some n) (w:World):(sizeOf t).run C.P w= .ok n w:=by
 obtain⟨i,hi,h1⟩:=ab h
 simp at h1
 unfold sizeOf;simp[j8 hC hi,h1]
theorem gI {t:TypeId} {z:Value} (h:C.zero t=some z) (w:World):(zeroValue t).run C.P w= .ok z w:=by
 obtain⟨i,hi,h1⟩:=ab h
 obtain⟨z',hz,h2⟩:=ab h1
 obtain⟨_,h3⟩:=aq h2
 simp at h3;subst h3
 unfold zeroValue;simp[j8 hC hi,hz]
theorem tU {t:TypeId} {z:Value} (h:C.zero t=some z):plain z=true:=by
 obtain⟨i,hi,h1⟩:=ab h
 obtain⟨z',hz,h2⟩:=ab h1
 obtain⟨h4,h3⟩:=aq h2
 simp at h3;subst h3
 exact hC.Z t i _ hi hz h4
theorem LT {t:TypeId} {d:TypeDesc} (h:C.und t=some d) (w:World):(isAgg t).run C.P w= .ok (jT d) w:=by
 unfold isAgg;simp only[Sem.run_bind,bE hC h,Result.andThen_ok];cases d<;>rfl
end
theorem eG {A:Addr} (h:A.spot=none) (n:Nat):A.add n=⟨A.block,A.off+n,none⟩:=by
 obtain⟨b,o,s⟩:=A
 simp only at h;subst h
 unfold Addr.add
 split<;>simp_all
theorem u1 {cells l:List Value} {off n:Nat} (h:aA cells off n=some l):l=(cells.drop off).take n/\ l.length=n:=by
 unfold aA at h
 split at h
 ·rename_i hb
  simp at h
  subst h
  exact⟨rfl,by simpa using Nat.eq_of_beq_eq_true hb⟩
 ·simp at h
section
variable {C:Ctx} (hC:C.Ok0) {good:Code ->Prop} {w0:World} {μ:Mu} {h:Heap} {w:World}
include hC
theorem yM (H:HRel good w0 μ h w) {t:TypeId} {i off:Nat} {e:Spot} {cells:List Value} {v:Value} (hi:μ i=some e) (hc:rowAt h i=some cells)
  (hp:cO C t cells off=some v): ∃V,(loadVar t ⟨e.blk,e.base+off,none⟩).run C.P w= .ok V w/\ VRel μ v V:=by
 obtain⟨d,hd,h1⟩:=ab hp
 unfold loadVar
 simp only[Sem.run_bind,LT hC hd,Result.andThen_ok]
 cases ha:jT d with
 |true=>
  simp only[ha]at h1
  obtain⟨n,hn,h2⟩:=ab h1
  obtain⟨l,hl,h3⟩:=ab h2
  obtain⟨e1,e2⟩:=u1 hl
  obtain⟨X,el,fz,x1,x2,x3,x5⟩:=H.row hi hc
  have hL:VRels μ l ((((X.toList.drop e.base).take cells.length).drop off).take n):=by rw[e1];exact(x5.drop off).take n
  generalize hLe:(((X.toList.drop e.base).take cells.length).drop off).take n=L at hL
  have hlen:L.length=n:=by rw[<-hL.1];exact e2
  have hget: ∀j u,L[j]? =some u ->w.cell? ((⟨e.blk,e.base+off,none⟩:Addr).add j)=some u:=by
   intro j u hu
   rw[eG rfl,cell_of_row w e.blk _ X el fz x1]
   rw[<-hLe,List.getElem?_take]at hu
   split at hu
   ·rw[List.getElem?_drop,List.getElem?_take]at hu
    split at hu
    ·rw[List.getElem?_drop]at hu
     rw[<-Array.getElem?_toList,<-hu];dsimp only;congr 1;omega
    ·simp at hu
   ·simp at hu
  have:=run_loadCells_list (P:=C.P) w ⟨e.blk,e.base+off,none⟩ L hget
  rw[hlen]at this
  refine⟨.agg L.toArray,?_,?_⟩
  ·simp[cE hC hn,this]
  ·simp at h3;subst h3;exact .agg' hL
 |false=>
  simp only[ha]at h1
  rw[kO]at h1
  obtain⟨V,hV,hr⟩:=H.cell hi hc h1
  exact⟨V,by simp[hV],hr⟩
theorem G1 {t:TypeId} {cs:List Value} {Cs:Array Value} (hr:VRels μ cs Cs.toList) {off:Nat} {v:Value} (hp:cO C t cs off=some v):
  ∃V,(part t Cs off).run C.P w= .ok V w/\ VRel μ v V:=by
 obtain⟨d,hd,h1⟩:=ab hp
 unfold part
 simp only[Sem.run_bind,LT hC hd,Result.andThen_ok]
 cases ha:jT d with
 |true=>
  simp only[ha]at h1
  obtain⟨n,hn,h2⟩:=ab h1
  obtain⟨l,hl,h3⟩:=ab h2
  obtain⟨e1,e2⟩:=u1 hl
  refine⟨.agg (Cs.extract off (off+n)),by simp[cE hC hn],?_⟩
  simp at h3;subst h3
  have:(Cs.extract off (off+n))=⟨(Cs.toList.drop off).take n⟩:=by
   apply Array.ext';simp[List.extract_eq_take_drop]
  rw[this,e1]
  exact .agg' ((hr.drop off).take n)
 |false=>
  simp only[ha]at h1
  rw[kO]at h1
  obtain⟨V,hV,hv⟩:=hr.get h1
  rw[Array.getElem?_toList]at hV
  exact⟨V,by simp[hV],hv⟩
end
theorem lM {v:Value} {a:Addr} (h:tG v=some a):v= .pointer (some a):=by
 cases v with
 |pointer p=>simp only[tG]at h;rw[h]
 |_=>simp[tG]at h
theorem G7 {lo hi n:Nat} {i:Int} (h:Dp lo hi i=some n):i=(n:Int)/\ lo<=n/\ n<=hi:=by
 cases i with
 |ofNat m=>
  obtain⟨h1,h2⟩:=aq h
  simp at h2;subst h2
  simp only[Bool.and_eq_true]at h1
  exact⟨rfl,Nat.le_of_ble_eq_true h1.1,Nat.le_of_ble_eq_true h1.2⟩
 |negSucc m=>simp[Dp]at h
theorem mu {len n:Nat} {i:Int} (h:j6 len i=some n):i=(n:Int)/\ n<len:=by
 cases i with
 |ofNat m=>
  obtain⟨h1,h2⟩:=aq h
  simp at h2;subst h2
  exact⟨rfl,Nat.le_of_ble_eq_true h1⟩
 |negSucc m=>simp[j6]at h
theorem vW {a b:Nat} (h:(!(Nat.beq a b))=true):a≠b:=by
 intro e;subst e;simp at h
section
variable {C:Ctx} (hC:C.Ok0) {good:Code ->Prop} {w0:World} {μ:Mu} {h:Heap} {w:World}
include hC
theorem QV (H:HRel good w0 μ h w) {t:TypeId} {p v P':Value} (hv:bx C t p h=some v) (hr:VRel μ p P'):
  ∃V,(Instr.loadAt t P').run C.P w= .ok V w/\ VRel μ v V:=by
 obtain⟨a,ha,h1⟩:=ab hv
 obtain⟨cells,hc,h2⟩:=ab h1
 obtain rfl:=lM ha
 obtain⟨A,rfl,hs,e,hi,e1,e2⟩:=hr.ptr_inv
 obtain⟨V,hV,hr'⟩:=yM hC H hi hc h2
 refine⟨V,?_,hr'⟩
 have:A=⟨e.blk,e.base+a.off,none⟩:=by obtain⟨b,o,s⟩:=A;simp only at hs e1 e2;subst hs;subst e1;subst e2;rfl
 subst this
 simp[Instr.loadAt,Instr.sureAddr,hV]
omit hC in
theorem B7 {t:TypeId} {i o ft n:Nat} (hf:C.fieldAt t i=some (o,ft,n)): ∃fs f,C.und t=some (.struct fs)/\ fs[i]? =some f/\ f.offset=o/\ f.type=ft/\ C.size ft=some n:=by
 obtain⟨d,hd,h1⟩:=ab hf
 cases d<;>simp only[EP]at h1<;>try (simp at h1;done)
 rename_i fs
 obtain⟨f,hfi,h2⟩:=ab h1
 obtain⟨m,hm,h3⟩:=ab h2
 simp at h3
 rw[Array.getElem?_toList]at hfi
 exact⟨fs,f,hd,hfi,h3.1,h3.2.1,by rw[<-h3.2.1,<-h3.2.2];exact hm⟩
theorem CN {t:TypeId} {p P':Value} {i:Nat} {ev:EV} (hv:ai C t p i=some ev) (hr:VRel μ p P'):
  ∃v V,ev= .val v/\ (Instr.fieldAt t P' i).run C.P w= .ok V w/\ VRel μ v V:=by
 obtain⟨⟨o,ft,n⟩,hq,h1⟩:=ab hv
 obtain⟨a,ha,h2⟩:=ab h1
 obtain⟨h3,h4⟩:=aq h2
 obtain rfl:=lM ha
 obtain⟨A,rfl,hs,e,hi,e1,e2⟩:=hr.ptr_inv
 obtain⟨fs,f,hd,hf,f1,f2,hn⟩:=B7 hq
 subst f1;subst f2
 have hn0:n≠0:=vW h3
 simp[aY]at h4
 subst h4
 refine⟨_, .pointer (some ⟨A.block,A.off+f.offset,none⟩),rfl,?_, .ptr _ _ ⟨rfl,e,hi,e1,?_⟩⟩
 ·simp[Instr.fieldAt,bE hC hd,hf,Instr.sureAddr,fieldPlace,cE hC hn,hn0,eG hs]
 ·dsimp only;rw[e2];omega
omit hC in
theorem T0 {v:Value} {cs:List Value} (h:D0 v=some cs):v= .agg ⟨cs⟩:=by
 cases v with
 |agg xs=>simp[D0]at h;subst h;rfl
 |_=>simp[D0]at h
theorem Nk {t:TypeId} {p P':Value} {i:Nat} {ev:EV} (hv:Fj C t p i=some ev) (hr:VRel μ p P'):
  ∃v V,ev= .val v/\ (Instr.field t P' i).run C.P w= .ok V w/\ VRel μ v V:=by
 obtain⟨⟨o,ft,n⟩,hq,h1⟩:=ab hv
 obtain⟨cs,ha,h2⟩:=ab h1
 obtain⟨v,hp,h3⟩:=ab h2
 simp[aY]at h3
 obtain rfl:=T0 ha
 obtain⟨Xs,rfl,hs⟩:=hr.agg_inv
 obtain⟨fs,f,hd,hf,f1,f2,hn⟩:=B7 hq
 subst f1;subst f2
 obtain⟨V,hV,hr'⟩:=G1 (w:=w) hC hs hp
 exact⟨v,V,h3.symm,by simp[Instr.field,bE hC hd,hf,asAgg,hV],hr'⟩
omit hC in
theorem DB {v:Value} {i:Int} (h:rh v=some i): ∃k,v= .int k i:=by
 cases v with
 |int k n=>simp[rh]at h;subst h;exact⟨k,rfl⟩
 |_=>simp[rh]at h
theorem CL {t:TypeId} {x ix X IX v:Value} (hv:aD C t x ix=some v) (hx:VRel μ x X) (hix:VRel μ ix IX):
  ∃V,(Instr.indexAt t X IX).run C.P w= .ok V w/\ VRel μ v V:=by
 obtain⟨i,hi,h1⟩:=ab hv
 obtain⟨d,hd,h2⟩:=ab h1
 obtain⟨k,rfl⟩:=DB hi
 obtain rfl:=hix.int_inv
 cases d<;>simp only[rq]at h2<;>try (simp at h2;done)
 ·rename_i el
  split at h2
  ·rename_i a len cap
   obtain⟨j,hj,h3⟩:=ab h2
   obtain⟨n,hn,h4⟩:=ab h3
   obtain⟨rfl,hlt⟩:=mu hj
   obtain⟨A,C',rfl,hc,hnC,hs⟩:=hx.slice_inv
   simp[yo]at h4;subst h4
   obtain⟨e,he,s1,s2,s3⟩: ∃e,μ a.block=some e/\ A.spot=none/\ A.block=e.blk/\ A.off=e.base+a.off:=by
    rcases hs with⟨_,h'⟩|⟨_,e,he,(⟨s1,s2,s3,_⟩|h')⟩
    ·omega
    ·exact⟨e,he,s1,s2,s3⟩
    ·omega
   refine⟨.pointer (some ⟨A.block,A.off+j*n,none⟩),?_, .ptr _ _ ⟨rfl,e,he,s2,by dsimp only;rw[s3];omega⟩⟩
   simp[Instr.indexAt,asIntOf,bE hC hd,cE hC hn,hlt,eG s1]
  ·simp at h2
 ·rename_i len el
  obtain⟨a,ha,h3⟩:=ab h2
  obtain⟨j,hj,h4⟩:=ab h3
  obtain⟨n,hn,h5⟩:=ab h4
  obtain⟨rfl,hlt⟩:=mu hj
  obtain rfl:=lM ha
  obtain⟨A,rfl,hs,e,hi',e1,e2⟩:=hx.ptr_inv
  simp[yo]at h5;subst h5
  refine⟨.pointer (some ⟨A.block,A.off+j*n,none⟩),?_, .ptr _ _ ⟨rfl,e,hi',e1,by dsimp only;rw[e2];omega⟩⟩
  simp[Instr.indexAt,asIntOf,bE hC hd,Instr.sureAddr,cE hC hn,hlt,eG hs]
end
section
variable {C:Ctx} (hC:C.Ok0) {good:Code ->Prop} {w0:World} {μ:Mu} {h:Heap} {w:World}
include hC
theorem MV {t:TypeId} {x ix X IX v:Value} (hv:cD C t x ix=some v) (hx:VRel μ x X) (hix:VRel μ ix IX):
  ∃V,(Instr.index t X IX).run C.P w= .ok V w/\ VRel μ v V:=by
 obtain⟨i,hi,h1⟩:=ab hv
 obtain⟨d,hd,h2⟩:=ab h1
 obtain⟨k,rfl⟩:=DB hi
 obtain rfl:=hix.int_inv
 cases d<;>simp only[Lk]at h2<;>try (simp at h2;done)
 ·split at h2
  ·rename_i s
   obtain⟨j,hj,h3⟩:=ab h2
   obtain⟨b,hb,h4⟩:=ab h3
   obtain⟨rfl,hlt⟩:=mu hj
   obtain rfl:=hx.string_inv
   rw[kO]at hb
   simp at h4;subst h4
   refine⟨.int .u8 b.toNat,?_, .plain _ rfl⟩
   have hs:s[j]? =some b:=by
    have hsz:j<s.size:=by rw[Array.length_toList]at hlt;exact hlt
    rw[getElem?_pos s j hsz]
    have:s.data.toList[j]? =some (s.data[j]'hsz):=by rw[Array.getElem?_toList];exact Array.getElem?_eq_getElem hsz
    rw[this]at hb
    exact hb
   have hif:(if(0:Int)<=(j:Int)then s[(j:Int).toNat]? else none)=some b:=by
    rw[if_pos (Int.natCast_nonneg j),Int.toNat_natCast];exact hs
   simp only[Instr.index,asIntOf,Sem.run_bind,Sem.run_pure,Result.andThen_ok,bE hC hd]
   rw[hif]
   rfl
  ·simp at h2
 ·rename_i len el
  split at h2
  ·rename_i cs
   obtain⟨j,hj,h3⟩:=ab h2
   obtain⟨n,hn,h4⟩:=ab h3
   obtain⟨rfl,hlt⟩:=mu hj
   obtain⟨Xs,rfl,hs⟩:=hx.agg_inv
   obtain⟨V,hV,hr⟩:=G1 (w:=w) hC hs h4
   exact⟨V,by simp[Instr.index,asIntOf,bE hC hd,hlt,cE hC hn,hV],hr⟩
  ·simp at h2
end
end Go.Am
