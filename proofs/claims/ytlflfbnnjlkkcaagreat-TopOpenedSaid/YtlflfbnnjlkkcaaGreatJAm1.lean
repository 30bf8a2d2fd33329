/- The abstract machine, part 1: the evaluator: a deterministic reading of the model's Code over an abstract heap. Its functions are small and go by recursors, for the kernel's sake. -/
import Derived.Test.YtlflfbnnjlkkcaaGreatJAm0
set_option linter.unusedSimpArgs false
set_option linter.unusedVariables false
set_option linter.defProp false
namespace Go.Am
open Go
noncomputable def kl {α β:Type} (z:β) (c:α ->List α ->β ->β) (l:List α):β:=List.rec (motive:=fun _=>β) z (fun a t ih=>c a t ih) l
noncomputable def QI {β:Type} (z:β) (s:Nat ->β ->β) (n:Nat):β:=Nat.rec (motive:=fun _=>β) z (fun m ih=>s m ih) n
noncomputable def Ex {α:Type} (l:List α):Nat ->Option α:=
 List.rec (motive:=fun _=>Nat ->Option α) (fun _=>none) (fun a _ ih n=>Nat.rec (motive:=fun _=>Option α) (some a) (fun m _=>ih m) n) l
noncomputable def QU {α:Type} (l:List α):Nat ->α ->List α:=
 List.rec (motive:=fun _=>Nat ->α ->List α) (fun _ _=>[]) (fun a t ih n v=>Nat.rec (motive:=fun _=>List α) (v::t) (fun m _=>a::ih m v) n) l
noncomputable def K9 {α:Type} (d:α) (l:List α):Nat ->α:=
 List.rec (motive:=fun _=>Nat ->α) (fun _=>d) (fun a _ ih n=>Nat.rec (motive:=fun _=>α) a (fun m _=>ih m) n) l
noncomputable def iU (τ:List (List Value)) (t:Nat):Value:=K9 undef (K9 [] τ (Nat.div t 8)) (Nat.mod t 8)
noncomputable def uX (τ:List (List Value)) (t:Nat) (v:Value):List (List Value):=
 QU τ (Nat.div t 8) (QU (K9 [] τ (Nat.div t 8)) (Nat.mod t 8) v)
noncomputable def mO (f:Nat):List Value ->List (List Value):=
 QI (fun _=>[]) (fun _ ih l=>match l with|[]=>[]|_::_=>l.take 8::ih (l.drop 8)) f
noncomputable def pg (l:List Value):List (List Value):=mO (l.length+1) l
inductive FRes where
 |ret (v:Value) (h:Heap) (pan:Option Value)
 |panic (v:Value) (h:Heap)
abbrev yp:=List Value ->Heap ->Option FRes
structure Ctx where
 P:Program
 F:NT Func
 T:NT TypeInfo
 eqOk:Nat ->Bool
 A:Nat ->Option yp
noncomputable def ae {α β:Type} (o:Option α) (f:α ->Option β):Option β:=Option.rec (motive:=fun _=>Option β) none f o
noncomputable def aX {β:Type} (b:Bool) (x:Option β):Option β:=Bool.rec (motive:=fun _=>Option β) none x b
noncomputable def Xv (C:Ctx) (d:TypeDesc):Option TypeDesc:=
 match d with
 | .named _ u=>ae (C.T.get u) fun j=>some j.desc
 |d=>some d
noncomputable def Ctx.und (C:Ctx) (t:TypeId):Option TypeDesc:=ae (C.T.get t) fun i=>Xv C i.desc
noncomputable def Ctx.size (C:Ctx) (t:TypeId):Option Nat:=ae (C.T.get t) fun i=>some i.size
noncomputable def Jl:Value ->Bool
 | .tuple _=>false
 |_=>true
noncomputable def Ctx.zero (C:Ctx) (t:TypeId):Option Value:=ae (C.T.get t) fun i=>ae i.zero fun z=>aX (Jl z) (some z)
noncomputable def jT:TypeDesc ->Bool
 | .struct _=>true
 | .array _ _=>true
 |_=>false
noncomputable def aU:Value ->Bool
 | .bool _=>true
 | .int _ _=>true
 | .string _=>true
 | .float _ _=>true
 | .pointer none=>true
 | .slice none _ _=>true
 | .map none=>true
 | .nilFunc=>true
 | .nilIface=>true
 |_=>false
noncomputable def plain:Value ->Bool
 | .agg cs=>cs.toList.all aU
 |v=>aU v
noncomputable def cellsOf:Value ->List Value
 | .agg cs=>cs.toList
 |v=>[v]
noncomputable def yi (a:List UInt8):List UInt8 ->Bool:=
 kl (fun b=>match b with|[]=>true|_::_=>false)
  (fun x _ ih b=>match b with|[]=>false|y::ys=>match Nat.beq x.toNat y.toNat with|true=>ih ys|false=>false) a
def basic:Value ->Bool
 | .bool _=>true
 | .int _ _=>true
 | .string _=>true
 |_=>false
noncomputable def p9 (a b:ByteArray):Bool:=yi a.data.toList b.data.toList
noncomputable def dH:Value ->Value ->Option Bool
 | .bool a, .bool b=>some (a==b)
 | .int k a, .int k' b=>if k=k' then some (a==b)else none
 | .string a, .string b=>some (p9 a b)
 |_,_=>none
noncomputable def bP (l:List Value):List Value ->Option Bool:=
 kl (fun m=>match m with|[]=>some true|_::_=>none)
  (fun x _ ih m=>match m with
   |[]=>none
   |y::ys=>match dH x y with
    |some true=>ih ys
    |some false=>some false
    |none=>none) l
noncomputable def jl:Value ->Value ->Bool
 | .bool _, .bool _=>true
 | .int k _, .int k' _=>decide (k=k')
 | .string _, .string _=>true
 |_,_=>false
noncomputable def cW (z:List Value):List Value ->Bool:=
 kl (fun m=>match m with|[]=>true|_::_=>false)
  (fun x _ ih m=>match m with|[]=>false|y::ys=>match jl x y with|true=>ih ys|false=>false) z
noncomputable def Ctx.like (C:Ctx) (t:TypeId) (l:List Value):Bool:=match C.zero t with|some z=>cW (cellsOf z) l|none=>false
noncomputable def kY:Option Addr ->Option Addr ->Bool
 |none,none=>true
 |some a,some b=>Nat.beq a.block b.block&&Nat.beq a.off b.off&&a.spot==b.spot
 |_,_=>false
noncomputable def mj:Value ->Value ->Bool
 | .bool a, .bool b=>a==b
 | .int k a, .int k' b=>decide (k=k')&&decide (a=b)
 | .string a, .string b=>p9 a b
 | .pointer a, .pointer b=>kY a b
 | .slice a n c, .slice b m d=>kY a b&&Nat.beq n m&&Nat.beq c d
 | .map none, .map none=>true
 | .map (some a), .map (some b)=>Nat.beq a b
 | .nilFunc, .nilFunc=>true
 | .nilIface, .nilIface=>true
 | .func (.func f) xs ys, .func (.func g) zs ws=>Nat.beq f g&&xs.toList.isEmpty&&zs.toList.isEmpty&&ys.toList.isEmpty&&ws.toList.isEmpty
 |_,_=>false
noncomputable def lL (l:List Value):List Value ->Bool:=
 kl (fun m=>match m with|[]=>true|_::_=>false)
  (fun x _ ih m=>match m with|[]=>false|y::ys=>match mj x y with|true=>ih ys|false=>false) l
noncomputable def zM:Value ->Value ->Bool
 | .agg _, .agg _=>true
 | .agg _,_=>false
 |_, .agg _=>false
 |_,_=>true
noncomputable def yF:Value ->Value ->Bool
 | .agg xs, .agg ys=>lL xs.toList ys.toList
 |v,w=>mj v w
noncomputable def oX (l:List Value):List Value ->Bool:=
 kl (fun m=>match m with|[]=>true|_::_=>false)
  (fun x _ ih m=>match m with|[]=>false|y::ys=>match yF x y with|true=>ih ys|false=>false) l
noncomputable def dq:Value ->Value ->Bool
 | .agg xs, .agg ys=>lL xs.toList ys.toList
 | .tuple xs, .tuple ys=>lL xs.toList ys.toList
 | .iface t v, .iface u w=>Nat.beq t u&&lL (cellsOf v) (cellsOf w)&&zM v w
 | .func (.func f) xs ys, .func (.func g) zs ws=>Nat.beq f g&&oX xs.toList zs.toList&&oX ys.toList ws.toList
 | .func (.yield l) xs ys, .func (.yield m) zs ws=>Nat.beq l m&&xs.toList.isEmpty&&zs.toList.isEmpty&&ys.toList.isEmpty&&ws.toList.isEmpty
 |v,w=>mj v w
noncomputable def GI:AObj ->AObj ->Bool
 | .row xs e o, .row ys f p=>lL xs ys&&Nat.beq e f&&o==p
 | .map [] c, .map [] d=>Nat.beq c d
 |_,_=>false
noncomputable def ev (τ:List (List Value)):Operand ->Value
 | .tmp t=>iU τ t
 | .const v=>v
 | .global g=> .pointer (some ⟨g+1,0,none⟩)
 | .func f=> .func (.func f) #[] #[]
noncomputable def vj {α:Type} (P:Program):Sem α ->Option α
 | .pure a=>some a
 | .program k=>vj P (k P)
 |_=>none
noncomputable def intV:Value ->Option Value
 | .int k n=>some (.int k n)
 |_=>none
noncomputable def strV:Value ->Option Value
 | .string b=>some (.string b)
 |_=>none
noncomputable def mt (P:Program) (s:Sem Value):Option Value:=ae (vj P s) intV
noncomputable def KZ (P:Program) (s:Sem Value):Option Value:=ae (vj P s) strV
noncomputable def aA (cells:List Value) (off n:Nat):Option (List Value):=
 match Nat.beq ((cells.drop off).take n).length n with
 |true=>some ((cells.drop off).take n)
 |false=>none
noncomputable def Dh:AObj ->Option (List Value)
 | .row cells _ _=>some cells
 |_=>none
noncomputable def fO:AObj ->Option (List Value×Nat)
 | .row cells e true=>some (cells,e)
 |_=>none
noncomputable def Bm:AObj ->Option (List MapEntry×Nat)
 | .map es c=>some (es,c)
 |_=>none
noncomputable def km:AObj ->Option ALoop
 | .loop l=>some l
 |_=>none
noncomputable def Rj:AObj ->Option (ByteArray×Nat)
 | .iter s p=>some (s,p)
 |_=>none
noncomputable def rowAt (h:Heap) (b:Nat):Option (List Value):=ae (h.get b) Dh
noncomputable def br (l:List Value):Value:= .agg ⟨l⟩
noncomputable def nO (l:List Value):Value:= .tuple ⟨l⟩
noncomputable def cO (C:Ctx) (t:TypeId) (cells:List Value) (off:Nat):Option Value:=
 ae (C.und t) fun d=>match jT d with
  |true=>ae (C.size t) fun n=>ae (aA cells off n) fun l=>some (br l)
  |false=>Ex cells off
noncomputable def tG:Value ->Option Addr
 | .pointer a=>a
 |_=>none
noncomputable def bx (C:Ctx) (t:TypeId) (v:Value) (h:Heap):Option Value:=
 ae (tG v) fun a=>ae (rowAt h a.block) fun cells=>cO C t cells a.off
noncomputable def fm (cells:List Value) (off:Nat) (vs:List Value):Option (List Value):=
 match vs with
 |[v]=>match Nat.ble (off+1) cells.length with
  |true=>some (QU cells off v)
  |false=>none
 |vs=>match Nat.ble (off+vs.length) cells.length with
  |true=>some (cells.take off++(vs++cells.drop (off+vs.length)))
  |false=>none
def jx:Value ->Bool
 | .agg _=>false
 | .tuple _=>false
 |_=>true
noncomputable def bF (l:List Value):Bool:=kl true (fun v _ ih=>match jx v with|true=>ih|false=>false) l
noncomputable def rO (C:Ctx) (t:TypeId) (p v:Value) (h:Heap):Option Heap:=
 ae (tG p) fun a=>ae (ae (h.get a.block) fO) fun r=>ae (C.size t) fun n=>
  aX (Nat.beq (cellsOf v).length n) (aX (bF (cellsOf v)) (ae (fm r.1 a.off (cellsOf v)) fun l=>some (h.set a.block (.row l r.2 true))))
noncomputable def EP (C:Ctx) (i:Nat):TypeDesc ->Option (Nat×TypeId×Nat)
 | .struct fs=>ae (fs.toList[i]?) fun f=>ae (C.size f.type) fun n=>some (f.offset,f.type,n)
 |_=>none
noncomputable def Ctx.fieldAt (C:Ctx) (t:TypeId) (i:Nat):Option (Nat×TypeId×Nat):=ae (C.und t) (EP C i)
noncomputable def yP (place:Nat ->Option (Nat×Nat)) (cells:List Value) (p:Nat×Value):Option (List Value):=
 ae (place p.1) fun q=>aX (Nat.beq (cellsOf p.2).length q.2) (aX (Nat.ble (q.1+q.2) cells.length)
  (some (cells.take q.1++(cellsOf p.2++cells.drop (q.1+q.2)))))
noncomputable def bu (place:Nat ->Option (Nat×Nat)) (parts:List (Nat×Value)):List Value ->Option (List Value):=
 kl (fun cells=>some cells) (fun p _ ih cells=>ae (yP place cells p) ih) parts
noncomputable def ak (C:Ctx) (t:TypeId) (i:Nat):Option (Nat×Nat):=ae (C.fieldAt t i) fun q=>some (q.1,q.2.2)
noncomputable def eX (n:Nat) (i:Nat):Option (Nat×Nat):=some (i*n,n)
noncomputable def Fe (C:Ctx) (t:TypeId) (z:Value) (parts:List (Nat×Value)):TypeDesc ->Option (List Value)
 | .struct _=>bu (ak C t) parts (cellsOf z)
 | .array _ e=>ae (C.size e) fun n=>bu (eX n) parts (cellsOf z)
 |_=>none
noncomputable def cJ (C:Ctx) (t:TypeId) (parts:List (Nat×Value)):Option Value:=
 ae (C.zero t) fun z=>ae (C.und t) fun d=>ae (Fe C t z parts d) fun l=>some (br l)
noncomputable def fk (l:List Value):Nat ->List Value:=QI [] fun _ ih=>l++ih
noncomputable def uP (C:Ctx) (e:TypeId) (n:Nat):Option (List Value×Nat):=
 ae (C.size e) fun s=>ae (C.zero e) fun z=>aX (Nat.beq (cellsOf z).length s) (some (fk (cellsOf z) n,s))
noncomputable def nP (k:IntKind) (n:Int):Value:= .int k (k.wrap n)
noncomputable def Zv (k:IntKind) (a b:Int):Option Value:=if b=0 then none else some (nP k (a.tdiv b))
noncomputable def Zu (k:IntKind) (a b:Int):Option Value:=if b=0 then none else some (.int k (a.tmod b))
noncomputable def gG (P:Program) (op:BinOp) (k:IntKind) (a b:Int):Option Value:=
 match op with
 | .add=>some (nP k (a+b))
 | .sub=>some (nP k (a -b))
 | .mul=>some (nP k (a*b))
 | .quo=>Zv k a b
 | .rem=>Zu k a b
 | .eql=>some (.bool (a==b))
 | .neq=>some (.bool (a !=b))
 | .lss=>some (.bool (decide (a<b)))
 | .leq=>some (.bool (decide (a<=b)))
 | .gtr=>some (.bool (decide (a>b)))
 | .geq=>some (.bool (decide (a>=b)))
 | .and=>mt P (Op.intBits .and k a b)
 | .or=>mt P (Op.intBits .or k a b)
 | .xor=>mt P (Op.intBits .xor k a b)
 | .andNot=>mt P (Op.intBits .andNot k a b)
 |_=>none
noncomputable def Bi (l:List UInt8):Value:= .string ⟨⟨l⟩⟩
noncomputable def vZ (op:BinOp) (a b:ByteArray):Option Value:=
 match op with
 | .add=>aX (Nat.ble (a.data.toList.length+b.data.toList.length) 4611686018427387904) (some (Bi (a.data.toList++b.data.toList)))
 | .eql=>some (.bool (p9 a b))
 | .neq=>some (.bool (!(p9 a b)))
 | .lss=>some (.bool (Op.bytesLess a.data.toList b.data.toList))
 | .leq=>some (.bool (Op.bytesLess a.data.toList b.data.toList||p9 a b))
 | .gtr=>some (.bool (!(Op.bytesLess a.data.toList b.data.toList||p9 a b)))
 | .geq=>some (.bool (!(Op.bytesLess a.data.toList b.data.toList)))
 |_=>none
noncomputable def Lj:TypeDesc ->Bool
 | .bool=>true
 |_=>false
noncomputable def og:TypeDesc ->Bool
 | .slice _=>true
 |_=>false
noncomputable def pA:TypeDesc ->Bool
 | .pointer _=>true
 |_=>false
noncomputable def EB:TypeDesc ->Bool
 | .map _ _=>true
 |_=>false
noncomputable def sR:TypeDesc ->Bool
 | .func _ _ _=>true
 |_=>false
noncomputable def eB:TypeDesc ->Bool
 | .interface _=>true
 |_=>false
noncomputable def oe:TypeDesc ->Bool
 | .string=>true
 |_=>false
noncomputable def Fz (C:Ctx) (t:TypeId) (p:TypeDesc ->Bool) (b:Bool):Option Bool:=ae (C.und t) fun d=>aX (p d) (some b)
noncomputable def aEq (C:Ctx) (t:TypeId) (c:Bool):Value ->Value ->Option Bool
 | .bool a, .bool b=>Fz C t Lj (a==b)
 | .slice none _ _, .slice b _ _=>Fz C t og b.isNone
 | .slice (some _) _ _, .slice none _ _=>Fz C t og false
 | .pointer none, .pointer b=>Fz C t pA b.isNone
 | .pointer (some _), .pointer none=>Fz C t pA false
 | .map none, .map b=>Fz C t EB b.isNone
 | .map (some _), .map none=>Fz C t EB false
 | .nilFunc, .nilFunc=>Fz C t sR true
 | .nilFunc, .func _ _ _=>Fz C t sR false
 | .func _ _ _, .nilFunc=>Fz C t sR false
 | .nilIface, .nilIface=>aX c (Fz C t eB true)
 | .nilIface, .iface _ _=>Fz C t eB false
 | .iface _ _, .nilIface=>Fz C t eB false
 | .agg xs, .agg ys=>aX (C.eqOk t&&(C.like t xs.toList&&cW xs.toList ys.toList)) (bP xs.toList ys.toList)
 |_,_=>none
noncomputable def LH (b:Bool):Option Value:=some (.bool b)
noncomputable def notV (b:Bool):Option Value:=some (.bool (!b))
noncomputable def It (C:Ctx) (op:BinOp) (t:TypeId) (c:Bool) (x y:Value):Option Value:=
 match op with
 | .eql=>ae (aEq C t c x y) LH
 | .neq=>ae (aEq C t c x y) notV
 |_=>none
noncomputable def eH (C:Ctx) (op:BinOp) (k:IntKind) (a:Int) (k':IntKind) (b:Int):Option Value:=
 match op with
 | .shl=>mt C.P (Op.shift .shl k a k' b)
 | .shr=>mt C.P (Op.shift .shr k a k' b)
 |op=>if k=k' then gG C.P op k a b else none
noncomputable def eI (C:Ctx) (op:BinOp) (t:TypeId) (c:Bool):Value ->Value ->Option Value
 | .int k a, .int k' b=>eH C op k a k' b
 | .string a, .string b=>vZ op a b
 |x,y=>It C op t c x y
noncomputable def Zt (P:Program) (op:UnOp) (x:Value):Option Value:=
 match op,x with
 | .not, .bool b=>some (.bool (!b))
 | .neg, .int k n=>some (nP k (0 -n))
 |op, .int k n=>mt P (Op.unary op (.int k n))
 |_,_=>none
noncomputable def Dq (m:Method) (d:TypeDesc):Option FuncId:=
 match m.path.toList,m.func with
 |[],some (f,b)=>aX (b==pA d) (some f)
 |_,_=>none
noncomputable def lV (C:Ctx) (t:TypeId) (name:String):Option FuncId:=
 ae (C.T.get t) fun i=>ae (i.methods.toList.find? (fun m=>m.name==name)) fun m=>ae (C.und t) fun d=>Dq m d
inductive EV where
 |val (v:Value)
 |new (o:AObj) (mk:Nat ->Value)
noncomputable def yJ (i:Nat):Value:= .pointer (some ⟨i,0,none⟩)
noncomputable def aG (s n c:Nat) (i:Nat):Value:= .slice (some ⟨i,0,some s⟩) n c
noncomputable def QS (i:Nat):Value:= .map (some i)
noncomputable def aY (v:Value):Option EV:=some (.val v)
noncomputable def dF:Operand ->Bool
 | .const _=>true
 |_=>false
noncomputable def Dp (lo hi:Nat) (i:Int):Option Nat:=
 match i with
 | .ofNat n=>aX (Nat.ble lo n&&Nat.ble n hi) (some n)
 |_=>none
noncomputable def gU (hi d:Nat):Option Value ->Option Nat
 |none=>some d
 |some (.int _ i)=>Dp 0 hi i
 |_=>none
noncomputable def Gm (s:List UInt8) (lo hi:Option Value):Option Value:=
 ae (gU s.length s.length hi) fun b=>ae (gU b 0 lo) fun a=>some (Bi ((s.drop a).take (b -a)))
noncomputable def eA (n:Nat):Option Nat ->Option Nat
 |some s=>match Nat.beq s n with
  |true=>some s
  |false=>none
 |none=>none
noncomputable def ib (a n:Nat):Option Addr ->Option Addr
 |none=>none
 |some x=>match x.block with
  |0=>some ⟨0,0,none⟩
  |r+1=>some ⟨r+1,x.off+a*n,eA n x.spot⟩
noncomputable def kG (n:Nat) (p:Option Addr) (len cap:Nat) (lo hi:Option Value):Option Value:=
 aX (Nat.ble len cap) (ae (gU (match hi with|none=>len|some _=>cap) len hi) fun b=>ae (gU b 0 lo) fun a=>
  some (.slice (ib a n p) (b -a) (cap -a)))
noncomputable def Hs:Option Addr ->Bool
 |some x=>Nat.beq x.block 0
 |none=>false
noncomputable def AH (n:Nat) (p:Option Addr) (a b m:Nat):Option Value:=
 match p with
 |none=>some (.slice none (b -a) (m -a))
 |some x=>match Nat.beq m a with
  |true=>some (.slice (some ⟨0,0,none⟩) 0 0)
  |false=>aX (!(Hs (some x))) (some (.slice (some ⟨x.block,x.off+a*n,eA n x.spot⟩) (b -a) (m -a)))
noncomputable def PC (n:Nat) (p:Option Addr) (len cap:Nat) (lo hi:Option Value) (mx:Value):Option Value:=
 ae (gU cap cap (some mx)) fun m=>ae hi fun hi=>ae (gU m len (some hi)) fun b=>ae (gU b 0 lo) fun a=>AH n p a b m
noncomputable def PD (n s:Nat) (x:Addr) (lo hi:Option Value):Option Value:=
 ae (gU n n hi) fun b=>ae (gU b 0 lo) fun a=>aX (!(Nat.beq n a)) (some (.slice (some ⟨x.block,x.off+a*s,none⟩) (b -a) (n -a)))
noncomputable def Em (C:Ctx) (x:Value) (lo hi mx:Option Value):TypeDesc ->Option Value
 | .string=>match x,mx with
  | .string s,none=>Gm s.data.toList lo hi
  |_,_=>none
 | .slice e=>match x,mx with
  | .slice p len cap,none=>ae (C.size e) fun n=>kG n p len cap lo hi
  | .slice p len cap,some m=>ae (C.size e) fun n=>PC n p len cap lo hi m
  |_,_=>none
 | .array n e=>match mx with
  |none=>ae (tG x) fun a=>ae (C.size e) fun s=>PD n s a lo hi
  |some _=>none
 |_=>none
noncomputable def jb (C:Ctx) (t:TypeId) (x:Value) (lo hi mx:Option Value):Option Value:=ae (C.und t) (Em C x lo hi mx)
noncomputable def j6 (len:Nat) (i:Int):Option Nat:=
 match i with
 | .ofNat n=>aX (Nat.ble (n+1) len) (some n)
 |_=>none
noncomputable def rh:Value ->Option Int
 | .int _ i=>some i
 |_=>none
noncomputable def yo (x:Addr) (i n:Nat):Value:= .pointer (some ⟨x.block,x.off+i*n,none⟩)
noncomputable def rq (C:Ctx) (x:Value) (i:Int):TypeDesc ->Option Value
 | .slice e=>match x with
  | .slice (some a) len _=>ae (j6 len i) fun j=>ae (C.size e) fun n=>some (yo a j n)
  |_=>none
 | .array len e=>ae (tG x) fun a=>ae (j6 len i) fun j=>ae (C.size e) fun n=>some (yo a j n)
 |_=>none
noncomputable def aD (C:Ctx) (t:TypeId) (x ix:Value):Option Value:=ae (rh ix) fun i=>ae (C.und t) (rq C x i)
noncomputable def Lk (C:Ctx) (x:Value) (i:Int):TypeDesc ->Option Value
 | .array len e=>match x with
  | .agg cs=>ae (j6 len i) fun j=>ae (C.size e) fun n=>cO C e cs.toList (j*n)
  |_=>none
 | .string=>match x with
  | .string s=>ae (j6 s.data.toList.length i) fun j=>ae (Ex s.data.toList j) fun b=>some (.int .u8 b.toNat)
  |_=>none
 |_=>none
noncomputable def cD (C:Ctx) (t:TypeId) (x ix:Value):Option Value:=ae (rh ix) fun i=>ae (C.und t) (Lk C x i)
noncomputable def bf (h:Heap) (s n:Nat):Value ->Option (List Value)
 | .slice (some a) _ _=>match n with
  |0=>some []
  |n+1=>ae (rowAt h a.block) fun cells=>aA cells a.off ((n+1)*s)
 | .slice none _ _=>match n with
  |0=>some []
  |_+1=>none
 | .string b=>some ((b.data.toList.take n).map fun x=> .int .u8 x.toNat)
 |_=>none
noncomputable def Fd:Value ->Option UInt8
 | .int .u8 n=>some (UInt8.ofNat n.toNat)
 |_=>none
noncomputable def zL (l:List Value):Option (List UInt8):=
 kl (some []) (fun v _ ih=>ae (Fd v) fun b=>ae ih fun t=>some (b::t)) l
noncomputable def VU:TypeDesc ->Bool
 | .int .u8=>true
 |_=>false
noncomputable def oq (l:List UInt8):List Value:=l.map fun b=> .int .u8 b.toNat
noncomputable def E1 (C:Ctx) (src dst:TypeId) (k:IntKind) (n:Int):TypeDesc ->Option EV
 | .int k'=>some (.val (nP k' n))
 | .string=>ae (KZ C.P (convert src dst (.int k n))) aY
 |_=>none
noncomputable def EZ (C:Ctx) (s:ByteArray):TypeDesc ->TypeDesc ->Option EV
 |_, .string=>some (.val (.string s))
 | .string, .slice e=>ae (C.und e) fun d=>aX (VU d) (some (.new (.row (oq s.data.toList) 1 true) (aG 1 s.data.toList.length s.data.toList.length)))
 |_,_=>none
noncomputable def uE (C:Ctx) (x:Value) (n:Nat) (h:Heap):TypeDesc ->TypeDesc ->Option EV
 | .slice e, .string=>ae (C.und e) fun d=>aX (VU d) (ae (bf h 1 n x) fun l=>ae (zL l) fun b=>some (.val (Bi b)))
 |_,_=>none
noncomputable def ka (C:Ctx) (src dst:TypeId) (x:Value) (h:Heap):Option EV:=
 ae (C.und src) fun ds=>ae (C.und dst) fun dd=>match x with
  | .int k n=>E1 C src dst k n dd
  | .string s=>EZ C s ds dd
  | .slice _ n _=>uE C x n h ds dd
  |_=>none
noncomputable def nW:Value ->Value ->Option Bool
 | .agg xs, .agg ys=>aX (cW xs.toList ys.toList) (bP xs.toList ys.toList)
 |v,w=>dH v w
noncomputable def jA (k:Value) (es:List MapEntry):Nat ->Option (Option (Nat×Value)):=
 kl (fun _=>some none) (fun e _ ih i=>match nW k e.key with
  |some true=>some (some (i,e.val))
  |some false=>ih (i+1)
  |none=>none) es
noncomputable def sG (n:Option Nat):Value ->Bool
 | .agg cs=>cs.toList.all basic&&(match n with|some n=>Nat.beq cs.toList.length n|none=>false)
 |_=>false
noncomputable def K8 (C:Ctx) (t:TypeId):Value ->Bool
 | .agg cs=>C.like t cs.toList
 |_=>false
noncomputable def XJ (C:Ctx) (t:TypeId) (k:Value):TypeDesc ->Bool
 | .int _=>(rh k).isSome
 | .string=>match k with| .string _=>true|_=>false
 | .bool=>match k with| .bool _=>true|_=>false
 | .struct _=>C.eqOk t&&(K8 C t k&&sG (C.size t) k)
 | .array _ _=>C.eqOk t&&(K8 C t k&&sG (C.size t) k)
 |_=>false
noncomputable def iP (C:Ctx) (t:TypeId) (k:Value):Bool:=match C.und t with|some d=>XJ C t k d|none=>false
noncomputable def jo:TypeDesc ->Option (TypeId×TypeId)
 | .map k e=>some (k,e)
 |_=>none
noncomputable def je (h:Heap):Value ->Option (List MapEntry)
 | .map none=>some []
 | .map (some r)=>ae (ae (h.get r) Bm) fun m=>some m.1
 |_=>none
noncomputable def tP (z:Value) (ok:Bool):Option (Nat×Value) ->Option Value
 |some p=>match ok with|true=>some (nO [p.2, .bool true])|false=>some p.2
 |none=>match ok with|true=>some (nO [z, .bool false])|false=>some z
noncomputable def mF (C:Ctx) (t:TypeId) (m k:Value) (ok:Bool) (h:Heap):Option Value:=
 ae (C.und t) fun d=>ae (jo d) fun q=>aX (iP C q.1 k) (ae (C.zero q.2) fun z=>ae (je h m) fun es=>ae (jA k es 0) (tP z ok))
noncomputable def Io (t:TypeId) (z:Value) (ok:Bool):Value ->Option Value
 | .nilIface=>aX ok (some (nO [z, .bool false]))
 | .iface u v=>match Nat.beq u t with
  |true=>match ok with|true=>some (nO [v, .bool true])|false=>some v
  |false=>aX ok (some (nO [z, .bool false]))
 |_=>none
noncomputable def gW (C:Ctx) (x:Value) (t:TypeId) (ok:Bool):Option Value:=
 ae (C.und t) fun d=>aX (!(eB d)) (ae (C.zero t) fun z=>Io t z ok x)
noncomputable def Lc (x:Value) (h:Heap):TypeDesc ->Option Value
 | .string=>match x with| .string s=>some (.int .i64 s.data.toList.length)|_=>none
 | .array n _=>some (.int .i64 n)
 | .slice _=>match x with| .slice _ n _=>some (.int .i64 n)|_=>none
 | .map _ _=>ae (je h x) fun es=>some (.int .i64 es.length)
 |_=>none
noncomputable def mg (C:Ctx) (t:TypeId) (x:Value) (h:Heap):Option Value:=ae (C.und t) (Lc x h)
noncomputable def min2:Value ->Value ->Option Value
 | .int k x, .int _ y=>some (.int k (if y<x then y else x))
 |_,_=>none
noncomputable def max2:Value ->Value ->Option Value
 | .int k x, .int _ y=>some (.int k (if x<y then y else x))
 |_,_=>none
noncomputable def tQ (f:Value ->Value ->Option Value) (l:List Value):Value ->Option Value:=
 kl (fun x=>some x) (fun y _ ih x=>ae (f x y) ih) l
noncomputable def Ct (a b:Value):Value ->Option EV
 | .bool true=>aY a
 | .bool false=>aY b
 |_=>none
noncomputable def dy:TypeDesc ->Option TypeId
 | .slice e=>some e
 |_=>none
noncomputable def bn (C:Ctx) (t:TypeId) (n:Nat) (parts:List (Nat×Value)):Option EV:=
 ae (C.und t) fun d=>ae (dy d) fun e=>ae (uP C e n) fun z=>aX (Nat.ble (n*z.2) 16777216)
  (ae (bu (eX z.2) parts z.1) fun l=>some (.new (.row l z.2 true) (aG z.2 n n)))
noncomputable def sP (C:Ctx) (name:String) (v:Value):List Value ->Option EV
 | .iface t _::_=>ae (lV C t name) fun _=>aY v
 |_=>none
noncomputable def K6 (C:Ctx) (v:Value) (first:List Value):Fn ->Option EV
 | .func _=>aY v
 | .yield _=>aY v
 | .method name=>sP C name v first
 |_=>none
noncomputable def ir (C:Ctx) (v:Value):Option EV:=
 match v with
 | .pointer (some _)=>aY v
 | .func fn first _=>K6 C v first.toList fn
 | .iface _ _=>aY v
 |_=>none
noncomputable def fM (C:Ctx) (t:TypeId) (x:Value):Option EV:=ae (C.und t) fun d=>aX (!(eB d)) (aY (.iface t x))
noncomputable def Yq (C:Ctx) (e:TypeId) (l c:Nat):Option EV:=
 ae (uP C e c) fun z=>ae (C.T.get e) fun i=>aX (Nat.ble l c&&Nat.ble c 4611686018427387904&&Nat.ble (c*i.bytes) 70368744177664)
  (some (.new (.row z.1 z.2 true) (aG z.2 l c)))
noncomputable def xe:Value ->Option Nat
 | .int .i64 (.ofNat n)=>some n
 |_=>none
noncomputable def lX (C:Ctx) (t:TypeId) (l c:Value):Option EV:=
 ae (C.und t) fun d=>ae (dy d) fun e=>ae (xe l) fun l=>ae (xe c) fun c=>Yq C e l c
noncomputable def ai (C:Ctx) (t:TypeId) (x:Value) (i:Nat):Option EV:=
 ae (C.fieldAt t i) fun q=>ae (tG x) fun a=>aX (!(Nat.beq q.2.2 0)) (aY (.pointer (some ⟨a.block,a.off+q.1,none⟩)))
noncomputable def D0:Value ->Option (List Value)
 | .agg cs=>some cs.toList
 |_=>none
noncomputable def Fj (C:Ctx) (t:TypeId) (x:Value) (i:Nat):Option EV:=
 ae (C.fieldAt t i) fun q=>ae (D0 x) fun cs=>ae (cO C q.2.1 cs q.1) aY
noncomputable def Xw:Value ->Option (List Value)
 | .tuple vs=>some vs.toList
 |_=>none
noncomputable def rP (x:Value) (i:Nat):Option EV:=ae (Xw x) fun vs=>ae (vs[i]?) aY
noncomputable def tf (C:Ctx) (ρ:Operand ->Value) (h:Heap) (ts:List TypeId) (xs:List Operand):Builtin ->Option EV
 | .len=>match ts,xs with
  |t::_,x::_=>ae (mg C t (ρ x) h) aY
  |_,_=>none
 | .min=>match xs with
  |x::xs=>ae (tQ min2 (xs.map ρ) (ρ x)) aY
  |[]=>none
 | .max=>match xs with
  |x::xs=>ae (tQ max2 (xs.map ρ) (ρ x)) aY
  |[]=>none
 |_=>none
noncomputable def kL (ρ:Operand ->Value) (ps:Array (Nat×Operand)):List (Nat×Value):=ps.toList.map fun p=>(p.1,ρ p.2)
noncomputable def Cu (C:Ctx) (t:TypeId):Option EV:=ae (C.zero t) fun z=>some (.new (.row (cellsOf z) 0 true) yJ)
noncomputable def NO (v:Value):Option EV:=some (.new (.row (cellsOf v) 0 true) yJ)
noncomputable def Lw:Fn ->Bool
 | .func _=>true
 | .method _=>true
 |_=>false
noncomputable def oy (ρ:Operand ->Value) (fn:Fn) (first cap:Array Operand):Option EV:=aX (Lw fn) (aY (.func fn ⟨first.toList.map ρ⟩ ⟨cap.toList.map ρ⟩))
noncomputable def lY:Option Operand ->Option EV
 |none=>some (.new (.map [] 0) QS)
 |some _=>none
noncomputable def aJ (C:Ctx) (ρ:Operand ->Value) (h:Heap) (op:Op):Option EV:=
 match op with
 | .move x=>aY (ρ x)
 | .assign x=>aY (ρ x)
 | .pick c a b=>Ct (ρ a) (ρ b) (ρ c)
 | .alloc t=>Cu C t
 | .box _ x=>NO (ρ x)
 | .build t parts=>ae (cJ C t (kL ρ parts)) aY
 | .buildSlice t n parts=>bn C t n (kL ρ parts)
 | .load t a=>ae (bx C t (ρ a) h) aY
 | .nilCheck x=>ir C (ρ x)
 | .binOp op t x y _=>ae (eI C op t (dF x||dF y) (ρ x) (ρ y)) aY
 | .unOp op _ x=>ae (Zt C.P op (ρ x)) aY
 | .convert s d x=>ka C s d (ρ x) h
 | .makeInterface t x=>fM C t (ρ x)
 | .makeFunc fn first cap=>oy ρ fn first cap
 | .makeMap _ r=>lY r
 | .makeSlice t l c=>lX C t (ρ l) (ρ c)
 | .slice t x lo hi mx=>ae (jb C t (ρ x) (lo.map ρ) (hi.map ρ) (mx.map ρ)) aY
 | .fieldAddr t x i=>ai C t (ρ x) i
 | .field t x i=>Fj C t (ρ x) i
 | .indexAddr t x ix=>ae (aD C t (ρ x) (ρ ix)) aY
 | .index t x ix=>ae (cD C t (ρ x) (ρ ix)) aY
 | .lookup t m k ok=>ae (mF C t (ρ m) (ρ k) ok h) aY
 | .typeAssert x _ t ok=>ae (gW C (ρ x) t ok) aY
 | .extract x i=>rP (ρ x) i
 | .call c=>match c.callee with
  | .builtin b=>tf C ρ h c.argTypes.toList c.args.toList b
  |_=>none
 |_=>none
noncomputable def effB:Builtin ->Bool
 | .len=>false
 | .min=>false
 | .max=>false
 |_=>true
noncomputable def effC:Callee ->Bool
 | .builtin b=>effB b
 |_=>true
noncomputable def bt:Op ->Bool
 | .call c=>effC c.callee
 | .store _ _ _=>true
 | .mapUpdate _ _ _ _=>true
 | .insert _ _ _ _=>true
 | .range _ _=>true
 | .next _ _=>true
 | .defer _=>true
 | .panic _=>true
 |_=>false
noncomputable def i8:Value ->Option Nat
 | .slice _ n _=>some n
 | .string b=>some b.data.toList.length
 |_=>none
noncomputable def jQ:Value ->Option (Option Addr×Nat×Nat)
 | .slice p n c=>some (p,n,c)
 |_=>none
noncomputable def QW:TypeDesc ->Bool
 | .slice _=>true
 | .string=>true
 |_=>false
noncomputable def zE (h:Heap) (s len:Nat) (new:List Value) (a:Addr):Option Heap:=
 ae (ae (h.get a.block) fO) fun r=>aX (Nat.beq r.2 s) (ae (aA r.1 a.off (len*s)) fun old=>some ((h.set a.block .dead).alloc (.row (old++new) s true)))
noncomputable def Az (s:Nat):Option Nat ->Bool
 |some t=>Nat.beq t s
 |none=>false
noncomputable def lR (h:Heap) (s len:Nat) (new:List Value):Option Addr ->Option Heap
 |none=>some (h.alloc (.row new s true))
 |some a=>match a.block with
  |0=>some (h.alloc (.row new s true))
  |_+1=>aX (Az s a.spot) (zE h s len new a)
noncomputable def Bh (p:Option Addr) (len cap:Nat):Bool:=
 match p with
 |none=>Nat.beq len 0&&Nat.beq cap 0
 |some _=>true
noncomputable def rL (i:TypeInfo) (p:Option Addr) (len cap:Nat) (x:Value) (n:Nat) (h:Heap):Option (Value×Heap):=
 aX (Bh p len cap)<|match n with
 |0=>some (.slice p len cap,h)
 |m+1=>aX (Nat.ble ((len+(m+1))*i.bytes) 35184372088832&&Nat.ble (len+(m+1)) 35184372088832)
   (ae (bf h i.size (m+1) x) fun new=>aX (bF new)<|aX (Nat.beq new.length ((m+1)*i.size))<|ae (lR h i.size len new p) fun h'=>some (aG i.size (len+(m+1)) (len+(m+1)) h.next,h'))
noncomputable def lk (n:Nat):Option Value ->Bool
 |some z=>Nat.beq (cellsOf z).length n
 |none=>false
noncomputable def ck (C:Ctx) (ts:List TypeId) (s x:Value) (h:Heap):Option (Value×Heap):=
 match ts with
 |t::u::_=>ae (C.und t) fun d=>ae (dy d) fun e=>ae (C.T.get e) fun i=>ae (C.und u) fun du=>aX (QW du&&lk i.size (C.zero e))
   (ae (jQ s) fun q=>ae (i8 x) fun n=>rL i q.1 q.2.1 q.2.2 x n h)
 |_=>none
noncomputable def yh (h:Heap) (n:Nat) (new:List Value) (p:Option Addr):Option (Value×Heap):=
 match new with
 |[]=>some (.int .i64 n,h)
 |v::vs=>ae p fun a=>aX (bF (v::vs))<|ae (ae (h.get a.block) fO) fun r=>ae (fm r.1 a.off new) fun l=>some (.int .i64 n,h.set a.block (.row l r.2 true))
noncomputable def rQ (C:Ctx) (ts:List TypeId) (d x:Value) (h:Heap):Option (Value×Heap):=
 match ts with
 |t::_=>ae (C.und t) fun dd=>ae (dy dd) fun e=>ae (C.size e) fun s=>ae (jQ d) fun q=>ae (i8 x) fun m=>
   ae (bf h s (Nat.min m q.2.1) x) fun new=>yh h (Nat.min m q.2.1) new q.1
 |_=>none
noncomputable def Dt (h:Heap):Value ->Option (Nat×List MapEntry×Nat)
 | .map (some r)=>ae (ae (h.get r) Bm) fun m=>some (r,m)
 |_=>none
noncomputable def jk (es:List MapEntry) (k v:Value):Nat ->List MapEntry:=
 kl (fun _=>[]) (fun e t ih i=>match i with|0=>{key:=k,val:=v,born:=e.born}::t|j+1=>e::ih j) es
noncomputable def qT (h:Heap) (r:Nat) (es:List MapEntry) (c:Nat) (k v:Value):Option (Nat×Value) ->Option Heap
 |some p=>some (h.set r (.map (jk es k v p.1) c))
 |none=>some (h.set r (.map (es++[{key:=k,val:=v,born:=c}]) (c+1)))
noncomputable def dK (C:Ctx) (t:TypeId) (m k v:Value) (h:Heap):Option Heap:=
 ae (C.und t) fun d=>ae (jo d) fun q=>aX (iP C q.1 k) (ae (Dt h m) fun x=>ae (jA k x.2.1 0) (qT h x.1 x.2.1 x.2.2 k v))
noncomputable def yg (h:Heap) (r:Nat) (es:List MapEntry) (c:Nat):Option (Nat×Value) ->Option Heap
 |some p=>some (h.set r (.map (es.eraseIdx p.1) c))
 |none=>some (h.set r (.map es c))
noncomputable def zP (C:Ctx) (t:TypeId) (m k:Value) (h:Heap):Option Heap:=
 ae (C.und t) fun d=>ae (jo d) fun q=>aX (iP C q.1 k) (ae (Dt h m) fun x=>ae (jA k x.2.1 0) (yg h x.1 x.2.1 x.2.2))
noncomputable def Jn (h:Heap) (b:Nat) (s:ByteArray) (pos:Nat) (more:Bool):Option (Value×Heap):=
 match more with
 |true=>some (nO [.bool true, .int .i64 pos, .int .i32 (Utf8.decode s pos).1],h.set b (.iter s (pos+(Utf8.decode s pos).2)))
 |false=>some (nO [.bool false],h)
noncomputable def T2 (v:Value) (h:Heap):Option (Value×Heap):=
 ae (tG v) fun a=>aX (Nat.beq a.off 0)<|ae (ae (h.get a.block) Rj) fun q=>Jn h a.block q.1 q.2 (Nat.ble (q.2+1) q.1.data.toList.length)
structure FrS where
 tmps:List (List Value)
 defers:List Deferred
 pan:Option Value
noncomputable def FrS.put (s:FrS) (d:Option Tmp) (v:Value):FrS:=
 match d with
 |some d=>⟨uX s.tmps d v,s.defers,s.pan⟩
 |none=>s
inductive FEnd where
 |ended (jump:Option Code)
 |panic (v:Value)
abbrev tC:=Option (FEnd×FrS×Heap)
abbrev Self:=Option Nat ->List Item ->FrS ->Heap ->tC
noncomputable def iZ (C:Ctx) (τ:List (List Value)) (h:Heap):ResultVar ->Option Value
 | .tmp t=>some (iU τ t)
 | .cell a t=>bx C t (iU τ a) h
noncomputable def aR (C:Ctx) (τ:List (List Value)) (h:Heap) (l:List ResultVar):Option (List Value):=
 kl (some []) (fun r _ ih=>ae (iZ C τ h r) fun v=>ae ih fun l=>some (v::l)) l
noncomputable def cZ:List Value ->Value
 |[v]=>v
 |vs=>nO vs
section
variable (C:Ctx) (self:Self)
noncomputable def yl (fn:Func) (args:List Value) (pan:Option Value) (h:Heap):tC:=
 ae fn.body fun c=>self none [.code c] ⟨pg (args++List.replicate (fn.ntmps -args.length) undef),[],pan⟩ h
noncomputable def te (fn:Func) (m:Option Value) (s:FrS) (h:Heap):Option FRes:=
 match m with
 |some v=>some (.panic v h)
 |none=>ae (aR C s.tmps h fn.results.toList) fun vs=>some (.ret (cZ vs) h s.pan)
noncomputable def gB:FEnd ->Option (Option Value)
 | .ended none=>some none
 | .ended (some .ret)=>some none
 | .panic v=>some (some v)
 |_=>none
noncomputable def qY:List Deferred ->Bool
 |[]=>true
 |_::_=>false
noncomputable def eo (f:FuncId) (args:List Value) (h:Heap) (pan:Option Value):Option FRes:=
 ae (C.F.get f) fun fn=>ae (yl self fn args pan h) fun r=>aX (qY r.2.1.defers) (ae (gB r.1) fun m=>te C fn m r.2.1 r.2.2)
noncomputable def uy:AObj ->Bool
 | .deferred b=>b
 |_=>false
noncomputable def GN:FRes ->Option (Option Value×Heap)
 | .ret _ h m=>some (m,h)
 | .panic _ _=>none
noncomputable def dJ (d:Deferred) (m:Option Value) (h:Heap):Option (Option Value×Heap):=
 match d.target with
 | .collected b=>ae (h.get b) fun o=>aX (uy o) (some (m,h.set b (.deferred false)))
 | .fn (.func g) cap=>match C.A g with
  |some _=>none
  |none=>ae (eo C self g (d.args.toList++cap.toList) h m) GN
 |_=>none
noncomputable def ie (ds:List Deferred):Option Value ->Heap ->Option (Option Value×Heap):=
 kl (fun m h=>some (m,h)) (fun d _ ih m h=>ae (dJ C self d m h) fun q=>ih q.1 q.2) ds
noncomputable def Cm (fn:Func) (args:List Value) (h:Heap):Option FRes:=
 ae (yl self fn args none h) fun r=>ae (gB r.1) fun m=>ae (ie C self r.2.1.defers m r.2.2) fun q=>te C fn q.1 r.2.1 q.2
noncomputable def cI (f:FuncId) (args:List Value) (h:Heap):Option FRes:=
 match C.A f with
 |some sp=>sp args h
 |none=>ae (C.F.get f) fun fn=>Cm C self fn args h
noncomputable def tT (recv:Value) (name:String) (args:List Value) (h:Heap):Option FRes:=
 match recv with
 | .iface t v=>ae (lV C t name) fun f=>cI C self f (v::args) h
 |_=>none
noncomputable def ua (ts:List Tmp):List Value ->List (List Value) ->List (List Value):=
 kl (fun _ τ=>τ) (fun t _ ih vs τ=>match vs with|[]=>τ|v::vs=>ih vs (uX τ t v)) ts
noncomputable def gK:Option Code ->LoopState
 |none=> .ready
 |some _=> .done
noncomputable def ALoop.turn (r:ALoop) (st:LoopState) (p:Option Code):ALoop:=⟨st,p,r.fn,r.tmps,r.params,r.assign,r.body,r.defers⟩
noncomputable def Bz:FEnd ->Option (Option Code)
 | .ended j=>some j
 | .panic _=>none
noncomputable def FV (l:Nat) (r:FEnd×FrS×Heap):Option FRes:=
 ae (Bz r.1) fun j=>aX (qY r.2.1.defers) (ae (ae (r.2.2.get l) km) fun x=>
  some (.ret (.bool j.isNone) (r.2.2.set l (.loop (x.turn (gK j) j))) none))
noncomputable def jO (l:Nat) (args:List Value) (h:Heap):Option FRes:=
 ae (ae (h.get l) km) fun r=>aX (Nat.beq args.length r.params.length)
  (ae (self (some l) [.code r.assign, .beginRound, .code r.body] ⟨ua r.params args r.tmps,[],none⟩ h) (FV l))
noncomputable def dY (fn:Fn) (cap args:List Value) (h:Heap):Option FRes:=
 match fn with
 | .func f=>cI C self f (args++cap) h
 | .method name=>match args with
  |recv::rest=>tT C self recv name rest h
  |[]=>none
 | .yield l=>jO self l args h
 |_=>none
inductive ORes where
 |ok (s:FrS) (h:Heap)
 |panic (v:Value) (s:FrS) (h:Heap)
noncomputable def ku (s:FrS) (dst:Option Tmp):FRes ->Option ORes
 | .ret v h _=>some (.ok (s.put dst v) h)
 | .panic v h=>some (.panic v s h)
noncomputable def ofVal (s:FrS) (dst:Option Tmp) (q:Value×Heap):Option ORes:=some (.ok (s.put dst q.1) q.2)
noncomputable def jn (s:FrS) (dst:Option Tmp) (h:Heap):Option ORes:=some (.ok (s.put dst undef) h)
noncomputable def pL (dst:Option Tmp) (args:List Value) (s:FrS) (h:Heap):Value ->Option ORes
 | .func fn first cap=>ae (dY C self fn cap.toList (first.toList++args) h) (ku s dst)
 |_=>none
noncomputable def sK (rd:Option Nat) (dst:Option Tmp) (s:FrS) (h:Heap):Option ORes:=
 match rd with
 |some _=>none
 |none=>match s.pan with
  |some v=>some (.ok ⟨(s.put dst v).tmps,s.defers,none⟩ h)
  |none=>some (.ok (s.put dst .nilIface) h)
noncomputable def mD (rd:Option Nat) (dst:Option Tmp) (ts:List TypeId) (xs:List Value) (s:FrS) (h:Heap):Builtin ->Option ORes
 | .append=>match xs with
  |x::y::_=>ae (ck C ts x y h) (ofVal s dst)
  |_=>none
 | .copy=>match xs with
  |x::y::_=>ae (rQ C ts x y h) (ofVal s dst)
  |_=>none
 | .delete=>match ts,xs with
  |t::_,x::y::_=>ae (zP C t x y h) fun h=>some (.ok (s.put dst (nO [])) h)
  |_,_=>none
 | .recover=>sK rd dst s h
 |_=>none
noncomputable def Cl (rd:Option Nat) (dst:Option Tmp) (c:Call) (s:FrS) (h:Heap):Option ORes:=
 match c.callee with
 | .value f=>pL C self dst (c.args.toList.map (ev s.tmps)) s h (ev s.tmps f)
 | .invoke r name=>ae (tT C self (ev s.tmps r) name (c.args.toList.map (ev s.tmps)) h) (ku s dst)
 | .builtin b=>mD C rd dst c.argTypes.toList (c.args.toList.map (ev s.tmps)) s h b
noncomputable def vi (t:TypeId) (dst:Option Tmp) (s:FrS) (h:Heap):Value ->Option ORes
 | .string b=>ae (C.und t) fun d=>aX (oe d) (some (.ok (s.put dst (yJ h.next)) (h.alloc (.iter b 0))))
 |_=>none
noncomputable def om (dst:Option Tmp) (args:List Value) (s:FrS) (h:Heap):Value ->Option ORes
 | .func fn first cap=>some (.ok (FrS.put ⟨s.tmps,{target:= .fn fn cap,args:=⟨first.toList++args⟩}::s.defers,s.pan⟩ dst undef) h)
 |_=>none
noncomputable def zK (rd:Option Nat) (dst:Option Tmp) (c:Call) (s:FrS) (h:Heap):Option ORes:=
 match rd,c.callee with
 |none, .value f=>om dst (c.args.toList.map (ev s.tmps)) s h (ev s.tmps f)
 |_,_=>none
noncomputable def sO (s:FrS) (h:Heap):Value ->Option ORes
 | .iface t v=>some (.panic (.iface t v) s h)
 |_=>none
noncomputable def c9 (rd:Option Nat) (dst:Option Tmp) (s:FrS) (h:Heap) (op:Op):Option ORes:=
 match op with
 | .call c=>Cl C self rd dst c s h
 | .store t a v=>ae (rO C t (ev s.tmps a) (ev s.tmps v) h) (jn s dst)
 | .mapUpdate t m k v=>ae (dK C t (ev s.tmps m) (ev s.tmps k) (ev s.tmps v) h) (jn s dst)
 | .insert t m k v=>ae (dK C t (ev s.tmps m) (ev s.tmps k) (ev s.tmps v) h) (jn s dst)
 | .range t x=>vi C t dst s h (ev s.tmps x)
 | .next it b=>aX b (ae (T2 (ev s.tmps it) h) (ofVal s dst))
 | .defer c=>zK rd dst c s h
 | .panic x=>sO s h (ev s.tmps x)
 |_=>none
noncomputable def js:Option AObj ->Bool
 |none=>true
 |some _=>false
noncomputable def mn (dst:Option Tmp) (s:FrS) (h:Heap):EV ->Option ORes
 | .val v=>some (.ok (s.put dst v) h)
 | .new x mk=>aX (js (h.get h.next)) (some (.ok (s.put dst (mk h.next)) (h.alloc x)))
noncomputable def H6 (rd:Option Nat) (o:Oper) (s:FrS) (h:Heap):Option ORes:=
 match bt o.op with
 |true=>c9 C self rd o.dst s h o.op
 |false=>ae (aJ C (ev s.tmps) h o.op) (mn o.dst s h)
noncomputable def uH (want:Bool):Value ->Bool
 | .bool b=>b==want
 |_=>false
noncomputable def gJ (ops:List Oper) (τ:List (List Value)) (j:Nat) (want:Bool):Bool:=
 match ae (Ex ops j) (fun g=>g.dst)with
 |some t=>uH want (iU τ t)
 |none=>false
noncomputable def bO (ops:List Oper) (o:Oper) (τ:List (List Value)):Bool:=
 match o.guard with
 |none=>true
 |some q=>gJ ops τ q.1 q.2
abbrev OK:=FrS ->Heap ->Option ORes
noncomputable def KI (next:OK):ORes ->Option ORes
 | .ok s h=>next s h
 | .panic v s h=>some (.panic v s h)
noncomputable def tF (rd:Option Nat) (ops:List Oper) (o:Oper) (next:OK) (s:FrS) (h:Heap):Option ORes:=
 match bO ops o s.tmps with
 |true=>ae (H6 C self rd o s h) (KI next)
 |false=>next (s.put o.dst undef) h
noncomputable def iV (rd:Option Nat) (ops:List Oper) (l:List Oper):OK:=
 kl (fun s h=>some (.ok s h)) (fun o _ ih s h=>tF C self rd ops o ih s h) l
inductive PE where
 |ex (i:Nat) (o:Oper)
 |re (i:Nat) (o:Oper)
inductive Rec where
 |val (i:Nat) (τ:List (List Value)) (v:Value)
 |new (i:Nat) (id:Nat) (o:AObj)
noncomputable def Rec.idx:Rec ->Nat
 | .val i _ _=>i
 | .new i _ _=>i
noncomputable def io (i:Nat) (l:List Rec):Option Rec:=
 kl none (fun r _ ih=>match Nat.beq r.idx i with|true=>some r|false=>ih) l
noncomputable def AQ (v:Value):Option EV ->Bool
 |some (.val v')=>dq v v'
 |_=>false
noncomputable def sameAt (x:AObj):Option AObj ->Bool
 |some y=>GI x y
 |none=>false
noncomputable def j0 (op:Op) (h:Heap):Option Rec ->Bool
 |some (.val _ τ v)=>AQ v (aJ C (ev τ) h op)
 |some (.new _ id x)=>sameAt x (h.get id)
 |none=>true
noncomputable def Dk (i:Nat) (τ:List (List Value)) (h:Heap):EV ->Rec
 | .val v=> .val i τ v
 | .new x _=> .new i h.next x
abbrev PK:=List Rec ->FrS ->Heap ->Option ORes
noncomputable def BC (r:ORes):List Deferred ->Option ORes
 |[]=>some r
 |_::_=>none
noncomputable def Aw (next:PK) (rs:List Rec):ORes ->Option ORes
 | .ok s h=>next rs s h
 | .panic v s h=>BC (.panic v s h) s.defers
noncomputable def Lx (i:Nat) (dst:Option Tmp) (next:PK) (rs:List Rec) (s:FrS) (h:Heap) (e:EV):Option ORes:=
 ae (mn dst s h e) (Aw next (Dk i s.tmps h e::rs))
noncomputable def JU (rd:Option Nat) (i:Nat) (o:Oper) (next:PK) (rs:List Rec) (s:FrS) (h:Heap):Option ORes:=
 match bt o.op with
 |true=>ae (c9 C self rd o.dst s h o.op) (Aw next rs)
 |false=>ae (aJ C (ev s.tmps) h o.op) (Lx i o.dst next rs s h)
noncomputable def To (rd:Option Nat) (ops:List Oper) (next:PK) (rs:List Rec) (s:FrS) (h:Heap):PE ->Option ORes
 | .ex i o=>match bO ops o s.tmps with
  |true=>JU C self rd i o next rs s h
  |false=>next rs (s.put o.dst undef) h
 | .re i o=>aX (j0 C o.op h (io i rs)) (next rs s h)
noncomputable def eV (rd:Option Nat) (ops:List Oper) (l:List PE):PK:=
 kl (fun _ s h=>some (.ok s h)) (fun e _ ih rs s h=>To C self rd ops ih rs s h e) l
end
noncomputable def Ew (acc:List Nat) (o:Oper):Nat:=o.after.toList.foldl (fun s e=>if Region.binds .any e then s|||2 ^ e.on|||acc.getD e.on 0 else s) 0
noncomputable def nQ (ops:List Oper):List Nat:=ops.foldl (fun acc o=>acc++[Ew acc o]) []
noncomputable def ik:Op ->Bool
 | .load _ _=>true
 | .alloc _=>true
 | .box _ _=>true
 | .buildSlice _ _ _=>true
 | .makeMap _ _=>true
 | .makeSlice _ _ _=>true
 | .convert _ _ _=>true
 | .lookup _ _ _ _=>true
 | .call _=>true
 |_=>false
noncomputable def Ts (l:List (Oper×Nat)):List Nat:=(l.filter fun p=>bt p.1.op).map (·.2)
noncomputable def KM (ms:List Nat) (effs:List Nat) (i:Nat):Nat:=(effs.filter fun e=>(ms.getD i 0).testBit e).length
noncomputable def Eo (l:List (Oper×Nat)) (ms effs:List Nat) (k:Nat):List PE:=
 (l.filter fun p=> !(bt p.1.op)&&Nat.beq (KM ms effs p.2) k).map fun p=> .ex p.2 p.1
noncomputable def Mt (l:List (Oper×Nat)) (ms effs:List Nat) (k e:Nat):List PE:=
 (l.filter fun p=>ik p.1.op&& !(bt p.1.op)&&Nat.ble (KM ms effs p.2) k&& !((ms.getD e 0).testBit p.2)).map fun p=> .re p.2 p.1
noncomputable def vn (l:List (Oper×Nat)) (ms effs:List Nat):Nat ->List Nat ->List PE
 |k,[]=>Eo l ms effs k
 |k,e::rest=>Eo l ms effs k++(((l.filter fun p=>Nat.beq p.2 e).map fun p=> .ex p.2 p.1)++(Mt l ms effs k e++vn l ms effs (k+1) rest))
noncomputable def i7 (ops:List Oper):List PE:=vn ops.zipIdx (nQ ops) (Ts ops.zipIdx) 0 (Ts ops.zipIdx)
section
variable (C:Ctx) (self:Self)
noncomputable def iN (τ:List (List Value)) (params:List Tmp) (assign body:Code) (d:Nat):ALoop:=⟨.ready,none,0,τ,params,assign,body,d⟩
noncomputable def pJ (rd:Option Nat) (τ:List (List Value)) (params:List Tmp) (assign body:Code) (h:Heap):Option (Nat×List Deferred×Heap):=
 match rd with
 |none=>some (h.next+1,[{target:= .collected h.next,args:=⟨[]⟩}],(h.alloc (.deferred true)).alloc (.loop (iN τ params assign body h.next)))
 |some l=>ae (ae (h.get l) km) fun r=>some (h.next,[],h.alloc (.loop (iN τ params assign body r.defers)))
noncomputable def tZ (rd:Option Nat) (t e:Code) (k:List Item) (s:FrS) (h:Heap):Value ->tC
 | .bool true=>self rd (.code t::k) s h
 | .bool false=>self rd (.code e::k) s h
 |_=>none
noncomputable def wS (rd:Option Nat) (id:Nat) (s:FrS) (h:Heap):Option (List Item) ->tC
 |some k'=>self rd k' s h
 |none=>some (.ended (some (.exit id)),s,h)
noncomputable def gV (rd:Option Nat) (k:List Item):ORes ->tC
 | .ok s h=>self rd k s h
 | .panic v s h=>some (.panic v,s,h)
noncomputable def Ge (rd:Option Nat) (ops:List Oper) (k:List Item) (s:FrS) (h:Heap):Bool ->tC
 |false=>ae (iV C self rd ops ops s h) (gV self rd k)
 |true=>ae (eV C self rd ops (i7 ops) [] s h) (gV self rd k)
noncomputable def kQ (j:Option Code) (k:List Item):List Item:=
 match j with
 |none=>k
 |some c=> .code c::k
noncomputable def FrS.mark (s:FrS) (m:List Deferred):FrS:=⟨s.tmps,m++s.defers,s.pan⟩
noncomputable def BA:LoopState ->Bool
 | .busy=>true
 |_=>false
noncomputable def vP (rd:Option Nat) (k:List Item) (s:FrS) (l:Nat) (m:List Deferred) (h:Heap):tC:=
 ae (ae (h.get l) km) fun r=>aX (!(BA r.state)) (self rd (kQ r.pending k) (s.mark m) (h.set l (.loop (r.turn .exhausted r.pending))))
noncomputable def uI (rd:Option Nat) (k:List Item) (s:FrS) (l:Nat) (m:List Deferred):FRes ->tC
 | .ret _ h _=>vP self rd k s l m h
 | .panic v h=>some (.panic v,s.mark m,h)
noncomputable def kF (rd:Option Nat) (params:List Tmp) (assign body:Code) (k:List Item) (s:FrS) (h:Heap):Value ->tC
 | .func fn first cap=>ae (pJ rd s.tmps params assign body h) fun q=>
   ae (dY C self fn cap.toList (first.toList++[.func (.yield q.1) ⟨[]⟩ ⟨[]⟩]) q.2.2) (uI self rd k s q.1 q.2.1)
 |_=>none
noncomputable def Ej (rd:Option Nat) (k:List Item) (s:FrS) (h:Heap) (c:Code):tC:=
 match c with
 | .ret=>some (.ended (some .ret),s,h)
 | .skip=>self rd k s h
 | .label _=>self rd k s h
 | .seq a b=>self rd (.code a:: .code b::k) s h
 | .cond c t e=>tZ self rd t e k s h (ev s.tmps c)
 | .block id body=>self rd (.code body:: .inBlock id::k) s h
 | .loop body=>self rd (.code body:: .inLoop body::k) s h
 | .scope body=>self rd (.code body:: .inScope body::k) s h
 | .exit id=>wS self rd id s h (exitTo id k)
 | .region _ ops draw=>Ge C self rd ops.toList k s h draw
 | .rangeFunc f params assign body=>kF C self rd params.toList assign body k s h (ev s.tmps f)
 |_=>none
noncomputable def pt:LoopState ->Bool
 | .ready=>true
 |_=>false
noncomputable def Ek (rd:Option Nat) (k:List Item) (s:FrS) (h:Heap):tC:=
 ae rd fun l=>ae (ae (h.get l) km) fun r=>aX (pt r.state) (self rd k s (h.set l (.loop (r.turn .busy r.pending))))
noncomputable def Ei (rd:Option Nat) (k:List Item) (s:FrS) (h:Heap) (it:Item):tC:=
 match it with
 | .code c=>Ej C self rd k s h c
 | .inBlock _=>self rd k s h
 | .inScope _=>self rd k s h
 | .inLoop body=>self rd (.code body:: .inLoop body::k) s h
 | .beginRound=>Ek self rd k s h
 |_=>none
noncomputable def step (rd:Option Nat) (k:List Item) (s:FrS) (h:Heap):tC:=
 match k with
 |[]=>some (.ended none,s,h)
 |it::k=>Ei C self rd k s h it
end
noncomputable def run (C:Ctx) (n:Nat):Self:=QI (fun _ _ _ _=>none) (fun _ ih=>step C ih) n
end Go.Am
