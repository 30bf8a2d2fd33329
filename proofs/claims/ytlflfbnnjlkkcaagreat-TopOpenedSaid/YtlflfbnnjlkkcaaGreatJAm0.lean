/- The abstract machine, part 0: trees, heaps, the evaluator's data. Nothing here speaks of a program of this seat. -/
import GoSem.Step
import Derived.Control
set_option linter.unusedSimpArgs false
set_option linter.unusedVariables false
set_option linter.defProp false
namespace Go.Am
theorem A2 {a b:Prop} (x:a) (y:b):a/\ b:=⟨x,y⟩
def AY:=A2 @and_self<|A2 @decide_true<|A2 @decide_false<|A2 @ne_eq.{1} not_false_eq_true
open Go
inductive NT (α:Type)where
 |nil
 |node (l:NT α) (o:Option α) (r:NT α)
namespace NT
variable {α:Type}
noncomputable def get (t:NT α):Nat ->Option α:=
 NT.rec (motive:=fun _=>Nat ->Option α) (fun _=>none)
  (fun _ o _ ihl ihr n=>Nat.rec (motive:=fun _=>Option α) o (fun m _=>Bool.rec (motive:=fun _=>Option α) (ihr (Nat.div m 2)) (ihl (Nat.div m 2)) (Nat.beq (Nat.mod m 2) 0)) n) t
noncomputable def left (t:NT α):NT α:=NT.rec (motive:=fun _=>NT α) .nil (fun l _ _ _ _=>l) t
noncomputable def here (t:NT α):Option α:=NT.rec (motive:=fun _=>Option α) none (fun _ o _ _ _=>o) t
noncomputable def right (t:NT α):NT α:=NT.rec (motive:=fun _=>NT α) .nil (fun _ _ r _ _=>r) t
theorem V3 (t:NT α) (n:Nat):(NT.node t.left t.here t.right).get n=t.get n:=by
 cases t with
 |node l o r=>rfl
 |nil=>
  cases n with
  |zero=>rfl
  |succ m=>show Bool.rec (motive:=fun _=>Option α) none none _=none;cases Nat.beq (Nat.mod m 2) 0<;>rfl
theorem get_nil (n:Nat):(NT.nil:NT α).get n=none:=rfl
theorem RN (l:NT α) (o:Option α) (r:NT α):(NT.node l o r).get 0=o:=rfl
theorem lS (l:NT α) (o:Option α) (r:NT α) (m:Nat):(NT.node l o r).get (m+1)=if m % 2=0 then l.get (m/2)else r.get (m/2):=by
 show Bool.rec (motive:=fun _=>Option α) (r.get (m/2)) (l.get (m/2)) (Nat.beq (m % 2) 0)=_
 by_cases h:m % 2=0
 ·rw[if_pos h,h];rfl
 ·rw[if_neg h]
  have:Nat.beq (m % 2) 0=false:=by cases hb:Nat.beq (m % 2) 0 with|true=>exact absurd (Nat.eq_of_beq_eq_true hb) h|false=>rfl
  rw[this]
noncomputable def put (f:Nat):NT α ->Nat ->α ->NT α:=
 Nat.rec (motive:=fun _=>NT α ->Nat ->α ->NT α) (fun t _ _=>t)
  (fun _ ih t n a=>Nat.rec (motive:=fun _=>NT α) (.node t.left (some a) t.right)
   (fun m _=>Bool.rec (motive:=fun _=>NT α) (.node t.left t.here (ih t.right (Nat.div m 2) a)) (.node (ih t.left (Nat.div m 2) a) t.here t.right) (Nat.beq (Nat.mod m 2) 0)) n) f
theorem put_zero (f:Nat) (t:NT α) (a:α):put (f+1) t 0 a= .node t.left (some a) t.right:=rfl
theorem put_succ (f:Nat) (t:NT α) (m:Nat) (a:α):put (f+1) t (m+1) a=
  if m % 2=0 then .node (put f t.left (m/2) a) t.here t.right else .node t.left t.here (put f t.right (m/2) a):=by
 show Bool.rec (motive:=fun _=>NT α) _ _ (Nat.beq (m % 2) 0)=_
 by_cases h:m % 2=0
 ·rw[if_pos h,h];rfl
 ·rw[if_neg h]
  have:Nat.beq (m % 2) 0=false:=by cases hb:Nat.beq (m % 2) 0 with|true=>exact absurd (Nat.eq_of_beq_eq_true hb) h|false=>rfl
  rw[this];rfl
noncomputable def ins (t:NT α) (n:Nat) (a:α):NT α:=put (n+1) t n a
theorem V2 (f:Nat): ∀(t:NT α) (n m:Nat) (a:α),n<f ->(put f t n a).get m=if m=n then some a else t.get m:=by
 induction f with
 |zero=>intro t n m a h;omega
 |succ f ih=>
  intro t n m a h
  rw[<-V3 t m]
  cases n with
  |zero=>
   rw[put_zero]
   cases m with
   |zero=>rfl
   |succ m=>rw[lS,lS,if_neg (by omega: ¬m+1=0)]
  |succ n=>
   rw[put_succ]
   by_cases h2:n % 2=0
   ·rw[if_pos h2]
    cases m with
    |zero=>rfl
    |succ m=>
     rw[lS,lS]
     by_cases h3:m % 2=0
     ·rw[if_pos h3,if_pos h3,ih t.left (n/2) (m/2) a (by omega)]
      by_cases he:m=n
      ·subst he;simp
      ·rw[if_neg (by omega),if_neg (by omega)]
     ·rw[if_neg h3,if_neg h3,if_neg (by omega)]
   ·rw[if_neg h2]
    cases m with
    |zero=>rfl
    |succ m=>
     rw[lS,lS]
     by_cases h3:m % 2=0
     ·rw[if_pos h3,if_pos h3,if_neg (by omega)]
     ·rw[if_neg h3,if_neg h3,ih t.right (n/2) (m/2) a (by omega)]
      by_cases he:m=n
      ·subst he;simp
      ·rw[if_neg (by omega),if_neg (by omega)]
theorem get_ins (t:NT α) (n m:Nat) (a:α):(t.ins n a).get m=if m=n then some a else t.get m:=
 V2 _ _ _ _ _ (by omega)
def ofFn (g:Nat ->Option α):Nat ->NT α
 |0=> .nil
 |d+1=> .node (ofFn (fun i=>g (2*i+1)) d) (g 0) (ofFn (fun i=>g (2*i+2)) d)
theorem get_ofFn (d:Nat): ∀(g:Nat ->Option α) (n:Nat) (a:α),(ofFn g d).get n=some a ->g n=some a:=by
 induction d with
 |zero=>intro g n a h;simp[ofFn,get_nil]at h
 |succ d ih=>
  intro g n a h
  cases n with
  |zero=>simpa[ofFn,RN]using h
  |succ m=>
   rw[ofFn,lS]at h
   split at h
   ·rename_i h2
    have:=ih _ _ _ h
    have e:2*(m/2)+1=m+1:=by omega
    rwa [e]at this
   ·rename_i h2
    have:=ih _ _ _ h
    have e:2*(m/2)+2=m+1:=by omega
    rwa [e]at this
end NT
structure ALoop where
 state:LoopState
 pending:Option Code
 fn:FuncId
 tmps:List (List Value)
 params:List Tmp
 assign:Code
 body:Code
 defers:Nat
inductive AObj where
 /--a row of cells;esz:the size of an element in cells,where the row lies rK a slice;own:may be written -/
 |row (cells:List Value) (esz:Nat) (own:Bool)
 |dead
 |map (entries:List MapEntry) (clock:Nat)
 |iter (s:ByteArray) (pos:Nat)
 |loop (l:ALoop)
 |deferred (open_:Bool)
structure Heap where
 next:Nat
 tree:NT AObj
namespace Heap
noncomputable def get (h:Heap) (i:Nat):Option AObj:=h.tree.get i
noncomputable def alloc (h:Heap) (o:AObj):Heap:=⟨h.next+1,h.tree.ins h.next o⟩
noncomputable def set (h:Heap) (i:Nat) (o:AObj):Heap:=⟨h.next,h.tree.ins i o⟩
@[simp] theorem next_alloc (h:Heap) (o:AObj):(h.alloc o).next=h.next+1:=rfl
@[simp] theorem next_set (h:Heap) (i:Nat) (o:AObj):(h.set i o).next=h.next:=rfl
theorem DE (h:Heap) (o:AObj) (i:Nat):(h.alloc o).get i=if i=h.next then some o else h.get i:=NT.get_ins _ _ _ _
theorem get_set (h:Heap) (i:Nat) (o:AObj) (j:Nat):(h.set i o).get j=if j=i then some o else h.get j:=NT.get_ins _ _ _ _
@[simp] theorem get_alloc_self (h:Heap) (o:AObj):(h.alloc o).get h.next=some o:=by simp[DE]
@[simp] theorem get_set_self (h:Heap) (i:Nat) (o:AObj):(h.set i o).get i=some o:=by simp[get_set]
theorem get_alloc_ne (h:Heap) (o:AObj) {i:Nat} (hi:i≠h.next):(h.alloc o).get i=h.get i:=by simp[DE,hi]
theorem get_set_ne (h:Heap) {i:Nat} (o:AObj) {j:Nat} (hj:j≠i):(h.set i o).get j=h.get j:=by simp[get_set,hj]
end Heap
end Go.Am
