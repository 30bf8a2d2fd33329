/- The abstract machine, part 1: the evaluator: a deterministic reading of the model's Code over an abstract heap. Its functions are small and go by recursors, for the kernel's sake. -/
import Derived.Test.YtlflfbnnjlkkcaaGreatJAm0
set_option linter.unusedSimpArgs false
set_option linter.unusedVariables false
set_option linter.defProp false
namespace Go.Am
open Go
noncomputable def lrec {α β : Type} (z : β) (c : α → List α → β → β) (l : List α) : β := List.rec (motive := fun _ => β) z (fun a t ih => c a t ih) l
noncomputable def nrec {β : Type} (z : β) (s : Nat → β → β) (n : Nat) : β := Nat.rec (motive := fun _ => β) z (fun m ih => s m ih) n
noncomputable def lget {α : Type} (l : List α) : Nat → Option α :=
  List.rec (motive := fun _ => Nat → Option α) (fun _ => none) (fun a _ ih n => Nat.rec (motive := fun _ => Option α) (some a) (fun m _ => ih m) n) l
noncomputable def lset {α : Type} (l : List α) : Nat → α → List α :=
  List.rec (motive := fun _ => Nat → α → List α) (fun _ _ => []) (fun a t ih n v => Nat.rec (motive := fun _ => List α) (v :: t) (fun m _ => a :: ih m v) n) l
noncomputable def lgetD {α : Type} (d : α) (l : List α) : Nat → α :=
  List.rec (motive := fun _ => Nat → α) (fun _ => d) (fun a _ ih n => Nat.rec (motive := fun _ => α) a (fun m _ => ih m) n) l
noncomputable def tget (τ : List (List Value)) (t : Nat) : Value := lgetD undef (lgetD [] τ (Nat.div t 8)) (Nat.mod t 8)
noncomputable def tset (τ : List (List Value)) (t : Nat) (v : Value) : List (List Value) :=
  lset τ (Nat.div t 8) (lset (lgetD [] τ (Nat.div t 8)) (Nat.mod t 8) v)
noncomputable def chunks (f : Nat) : List Value → List (List Value) :=
  nrec (fun _ => []) (fun _ ih l => match l with | [] => [] | _ :: _ => l.take 8 :: ih (l.drop 8)) f
noncomputable def mkTmps (l : List Value) : List (List Value) := chunks (l.length + 1) l
inductive FRes where
  | ret (v : Value) (h : Heap) (pan : Option Value)
  | panic (v : Value) (h : Heap)
abbrev Spec := List Value → Heap → Option FRes
structure Ctx where
  P : Program
  F : NT Func
  T : NT TypeInfo
  eqOk : Nat → Bool
  A : Nat → Option Spec
noncomputable def obind {α β : Type} (o : Option α) (f : α → Option β) : Option β := Option.rec (motive := fun _ => Option β) none f o
noncomputable def guardB {β : Type} (b : Bool) (x : Option β) : Option β := Bool.rec (motive := fun _ => Option β) none x b
noncomputable def undOf (C : Ctx) (d : TypeDesc) : Option TypeDesc :=
  match d with
  | .named _ u => obind (C.T.get u) fun j => some j.desc
  | d => some d
noncomputable def Ctx.und (C : Ctx) (t : TypeId) : Option TypeDesc := obind (C.T.get t) fun i => undOf C i.desc
noncomputable def Ctx.size (C : Ctx) (t : TypeId) : Option Nat := obind (C.T.get t) fun i => some i.size
noncomputable def notTup : Value → Bool
  | .tuple _ => false
  | _ => true
noncomputable def Ctx.zero (C : Ctx) (t : TypeId) : Option Value := obind (C.T.get t) fun i => obind i.zero fun z => guardB (notTup z) (some z)
noncomputable def aggDesc : TypeDesc → Bool
  | .struct _ => true
  | .array _ _ => true
  | _ => false
noncomputable def cellPlain : Value → Bool
  | .bool _ => true
  | .int _ _ => true
  | .string _ => true
  | .float _ _ => true
  | .pointer none => true
  | .slice none _ _ => true
  | .map none => true
  | .nilFunc => true
  | .nilIface => true
  | _ => false
noncomputable def plain : Value → Bool
  | .agg cs => cs.toList.all cellPlain
  | v => cellPlain v
noncomputable def cellsOf : Value → List Value
  | .agg cs => cs.toList
  | v => [v]
noncomputable def byteEq (a : List UInt8) : List UInt8 → Bool :=
  lrec (fun b => match b with | [] => true | _ :: _ => false)
    (fun x _ ih b => match b with | [] => false | y :: ys => match Nat.beq x.toNat y.toNat with | true => ih ys | false => false) a
def basic : Value → Bool
  | .bool _ => true
  | .int _ _ => true
  | .string _ => true
  | _ => false
noncomputable def strEq (a b : ByteArray) : Bool := byteEq a.data.toList b.data.toList
noncomputable def cellEq : Value → Value → Option Bool
  | .bool a, .bool b => some (a == b)
  | .int k a, .int k' b => if k = k' then some (a == b) else none
  | .string a, .string b => some (strEq a b)
  | _, _ => none
noncomputable def cellsEq (l : List Value) : List Value → Option Bool :=
  lrec (fun m => match m with | [] => some true | _ :: _ => none)
    (fun x _ ih m => match m with
      | [] => none
      | y :: ys => match cellEq x y with
        | some true => ih ys
        | some false => some false
        | none => none) l
noncomputable def sameKind : Value → Value → Bool
  | .bool _, .bool _ => true
  | .int k _, .int k' _ => decide (k = k')
  | .string _, .string _ => true
  | _, _ => false
noncomputable def likeAll (z : List Value) : List Value → Bool :=
  lrec (fun m => match m with | [] => true | _ :: _ => false)
    (fun x _ ih m => match m with | [] => false | y :: ys => match sameKind x y with | true => ih ys | false => false) z
noncomputable def Ctx.like (C : Ctx) (t : TypeId) (l : List Value) : Bool := match C.zero t with | some z => likeAll (cellsOf z) l | none => false
noncomputable def sameAddrB : Option Addr → Option Addr → Bool
  | none, none => true
  | some a, some b => Nat.beq a.block b.block && Nat.beq a.off b.off && a.spot == b.spot
  | _, _ => false
noncomputable def sameC : Value → Value → Bool
  | .bool a, .bool b => a == b
  | .int k a, .int k' b => decide (k = k') && decide (a = b)
  | .string a, .string b => strEq a b
  | .pointer a, .pointer b => sameAddrB a b
  | .slice a n c, .slice b m d => sameAddrB a b && Nat.beq n m && Nat.beq c d
  | .map none, .map none => true
  | .map (some a), .map (some b) => Nat.beq a b
  | .nilFunc, .nilFunc => true
  | .nilIface, .nilIface => true
  | .func (.func f) xs ys, .func (.func g) zs ws => Nat.beq f g && xs.toList.isEmpty && zs.toList.isEmpty && ys.toList.isEmpty && ws.toList.isEmpty
  | _, _ => false
noncomputable def sameCs (l : List Value) : List Value → Bool :=
  lrec (fun m => match m with | [] => true | _ :: _ => false)
    (fun x _ ih m => match m with | [] => false | y :: ys => match sameC x y with | true => ih ys | false => false) l
noncomputable def bothAgg : Value → Value → Bool
  | .agg _, .agg _ => true
  | .agg _, _ => false
  | _, .agg _ => false
  | _, _ => true
noncomputable def sameW : Value → Value → Bool
  | .agg xs, .agg ys => sameCs xs.toList ys.toList
  | v, w => sameC v w
noncomputable def sameWs (l : List Value) : List Value → Bool :=
  lrec (fun m => match m with | [] => true | _ :: _ => false)
    (fun x _ ih m => match m with | [] => false | y :: ys => match sameW x y with | true => ih ys | false => false) l
noncomputable def sameV : Value → Value → Bool
  | .agg xs, .agg ys => sameCs xs.toList ys.toList
  | .tuple xs, .tuple ys => sameCs xs.toList ys.toList
  | .iface t v, .iface u w => Nat.beq t u && sameCs (cellsOf v) (cellsOf w) && bothAgg v w
  | .func (.func f) xs ys, .func (.func g) zs ws => Nat.beq f g && sameWs xs.toList zs.toList && sameWs ys.toList ws.toList
  | .func (.yield l) xs ys, .func (.yield m) zs ws => Nat.beq l m && xs.toList.isEmpty && zs.toList.isEmpty && ys.toList.isEmpty && ws.toList.isEmpty
  | v, w => sameC v w
noncomputable def sameO : AObj → AObj → Bool
  | .row xs e o, .row ys f p => sameCs xs ys && Nat.beq e f && o == p
  | .map [] c, .map [] d => Nat.beq c d
  | _, _ => false
noncomputable def ev (τ : List (List Value)) : Operand → Value
  | .tmp t => tget τ t
  | .const v => v
  | .global g => .pointer (some ⟨g + 1, 0, none⟩)
  | .func f => .func (.func f) #[] #[]
noncomputable def pureRun {α : Type} (P : Program) : Sem α → Option α
  | .pure a => some a
  | .program k => pureRun P (k P)
  | _ => none
noncomputable def intV : Value → Option Value
  | .int k n => some (.int k n)
  | _ => none
noncomputable def strV : Value → Option Value
  | .string b => some (.string b)
  | _ => none
noncomputable def pureInt (P : Program) (s : Sem Value) : Option Value := obind (pureRun P s) intV
noncomputable def pureStr (P : Program) (s : Sem Value) : Option Value := obind (pureRun P s) strV
noncomputable def take? (cells : List Value) (off n : Nat) : Option (List Value) :=
  match Nat.beq ((cells.drop off).take n).length n with
  | true => some ((cells.drop off).take n)
  | false => none
noncomputable def rowOf : AObj → Option (List Value)
  | .row cells _ _ => some cells
  | _ => none
noncomputable def ownRowOf : AObj → Option (List Value × Nat)
  | .row cells e true => some (cells, e)
  | _ => none
noncomputable def mapOf : AObj → Option (List MapEntry × Nat)
  | .map es c => some (es, c)
  | _ => none
noncomputable def loopOf : AObj → Option ALoop
  | .loop l => some l
  | _ => none
noncomputable def iterOf : AObj → Option (ByteArray × Nat)
  | .iter s p => some (s, p)
  | _ => none
noncomputable def rowAt (h : Heap) (b : Nat) : Option (List Value) := obind (h.get b) rowOf
noncomputable def mkAgg (l : List Value) : Value := .agg ⟨l⟩
noncomputable def mkTup (l : List Value) : Value := .tuple ⟨l⟩
noncomputable def partOf (C : Ctx) (t : TypeId) (cells : List Value) (off : Nat) : Option Value :=
  obind (C.und t) fun d => match aggDesc d with
    | true => obind (C.size t) fun n => obind (take? cells off n) fun l => some (mkAgg l)
    | false => lget cells off
noncomputable def ptrOf : Value → Option Addr
  | .pointer a => a
  | _ => none
noncomputable def aLoad (C : Ctx) (t : TypeId) (v : Value) (h : Heap) : Option Value :=
  obind (ptrOf v) fun a => obind (rowAt h a.block) fun cells => partOf C t cells a.off
noncomputable def write? (cells : List Value) (off : Nat) (vs : List Value) : Option (List Value) :=
  match vs with
  | [v] => match Nat.ble (off + 1) cells.length with
    | true => some (lset cells off v)
    | false => none
  | vs => match Nat.ble (off + vs.length) cells.length with
    | true => some (cells.take off ++ (vs ++ cells.drop (off + vs.length)))
    | false => none
def oneC : Value → Bool
  | .agg _ => false
  | .tuple _ => false
  | _ => true
noncomputable def allOne (l : List Value) : Bool := lrec true (fun v _ ih => match oneC v with | true => ih | false => false) l
noncomputable def aStore (C : Ctx) (t : TypeId) (p v : Value) (h : Heap) : Option Heap :=
  obind (ptrOf p) fun a => obind (obind (h.get a.block) ownRowOf) fun r => obind (C.size t) fun n =>
    guardB (Nat.beq (cellsOf v).length n) (guardB (allOne (cellsOf v)) (obind (write? r.1 a.off (cellsOf v)) fun l => some (h.set a.block (.row l r.2 true))))
noncomputable def fieldIn (C : Ctx) (i : Nat) : TypeDesc → Option (Nat × TypeId × Nat)
  | .struct fs => obind (fs.toList[i]?) fun f => obind (C.size f.type) fun n => some (f.offset, f.type, n)
  | _ => none
noncomputable def Ctx.fieldAt (C : Ctx) (t : TypeId) (i : Nat) : Option (Nat × TypeId × Nat) := obind (C.und t) (fieldIn C i)
noncomputable def fill1 (place : Nat → Option (Nat × Nat)) (cells : List Value) (p : Nat × Value) : Option (List Value) :=
  obind (place p.1) fun q => guardB (Nat.beq (cellsOf p.2).length q.2) (guardB (Nat.ble (q.1 + q.2) cells.length)
    (some (cells.take q.1 ++ (cellsOf p.2 ++ cells.drop (q.1 + q.2)))))
noncomputable def fillWith (place : Nat → Option (Nat × Nat)) (parts : List (Nat × Value)) : List Value → Option (List Value) :=
  lrec (fun cells => some cells) (fun p _ ih cells => obind (fill1 place cells p) ih) parts
noncomputable def structPlace (C : Ctx) (t : TypeId) (i : Nat) : Option (Nat × Nat) := obind (C.fieldAt t i) fun q => some (q.1, q.2.2)
noncomputable def rowPlace (n : Nat) (i : Nat) : Option (Nat × Nat) := some (i * n, n)
noncomputable def buildIn (C : Ctx) (t : TypeId) (z : Value) (parts : List (Nat × Value)) : TypeDesc → Option (List Value)
  | .struct _ => fillWith (structPlace C t) parts (cellsOf z)
  | .array _ e => obind (C.size e) fun n => fillWith (rowPlace n) parts (cellsOf z)
  | _ => none
noncomputable def aBuild (C : Ctx) (t : TypeId) (parts : List (Nat × Value)) : Option Value :=
  obind (C.zero t) fun z => obind (C.und t) fun d => obind (buildIn C t z parts d) fun l => some (mkAgg l)
noncomputable def repeatCells (l : List Value) : Nat → List Value := nrec [] fun _ ih => l ++ ih
noncomputable def zeroRow (C : Ctx) (e : TypeId) (n : Nat) : Option (List Value × Nat) :=
  obind (C.size e) fun s => obind (C.zero e) fun z => guardB (Nat.beq (cellsOf z).length s) (some (repeatCells (cellsOf z) n, s))
noncomputable def mkInt (k : IntKind) (n : Int) : Value := .int k (k.wrap n)
noncomputable def aQuo (k : IntKind) (a b : Int) : Option Value := if b = 0 then none else some (mkInt k (a.tdiv b))
noncomputable def aRem (k : IntKind) (a b : Int) : Option Value := if b = 0 then none else some (.int k (a.tmod b))
noncomputable def aBinInt (P : Program) (op : BinOp) (k : IntKind) (a b : Int) : Option Value :=
  match op with
  | .add => some (mkInt k (a + b))
  | .sub => some (mkInt k (a - b))
  | .mul => some (mkInt k (a * b))
  | .quo => aQuo k a b
  | .rem => aRem k a b
  | .eql => some (.bool (a == b))
  | .neq => some (.bool (a != b))
  | .lss => some (.bool (decide (a < b)))
  | .leq => some (.bool (decide (a ≤ b)))
  | .gtr => some (.bool (decide (a > b)))
  | .geq => some (.bool (decide (a ≥ b)))
  | .and => pureInt P (Op.intBits .and k a b)
  | .or => pureInt P (Op.intBits .or k a b)
  | .xor => pureInt P (Op.intBits .xor k a b)
  | .andNot => pureInt P (Op.intBits .andNot k a b)
  | _ => none
noncomputable def mkStr (l : List UInt8) : Value := .string ⟨⟨l⟩⟩
noncomputable def aBinStr (op : BinOp) (a b : ByteArray) : Option Value :=
  match op with
  | .add => guardB (Nat.ble (a.data.toList.length + b.data.toList.length) 4611686018427387904) (some (mkStr (a.data.toList ++ b.data.toList)))
  | .eql => some (.bool (strEq a b))
  | .neq => some (.bool (!(strEq a b)))
  | .lss => some (.bool (Op.bytesLess a.data.toList b.data.toList))
  | .leq => some (.bool (Op.bytesLess a.data.toList b.data.toList || strEq a b))
  | .gtr => some (.bool (!(Op.bytesLess a.data.toList b.data.toList || strEq a b)))
  | .geq => some (.bool (!(Op.bytesLess a.data.toList b.data.toList)))
  | _ => none
noncomputable def isBoolD : TypeDesc → Bool
  | .bool => true
  | _ => false
noncomputable def isSliceD : TypeDesc → Bool
  | .slice _ => true
  | _ => false
noncomputable def isPtrD : TypeDesc → Bool
  | .pointer _ => true
  | _ => false
noncomputable def isMapD : TypeDesc → Bool
  | .map _ _ => true
  | _ => false
noncomputable def isFuncD : TypeDesc → Bool
  | .func _ _ _ => true
  | _ => false
noncomputable def isIfaceD : TypeDesc → Bool
  | .interface _ => true
  | _ => false
noncomputable def isStringD : TypeDesc → Bool
  | .string => true
  | _ => false
noncomputable def onD (C : Ctx) (t : TypeId) (p : TypeDesc → Bool) (b : Bool) : Option Bool := obind (C.und t) fun d => guardB (p d) (some b)
noncomputable def aEq (C : Ctx) (t : TypeId) (c : Bool) : Value → Value → Option Bool
  | .bool a, .bool b => onD C t isBoolD (a == b)
  | .slice none _ _, .slice b _ _ => onD C t isSliceD b.isNone
  | .slice (some _) _ _, .slice none _ _ => onD C t isSliceD false
  | .pointer none, .pointer b => onD C t isPtrD b.isNone
  | .pointer (some _), .pointer none => onD C t isPtrD false
  | .map none, .map b => onD C t isMapD b.isNone
  | .map (some _), .map none => onD C t isMapD false
  | .nilFunc, .nilFunc => onD C t isFuncD true
  | .nilFunc, .func _ _ _ => onD C t isFuncD false
  | .func _ _ _, .nilFunc => onD C t isFuncD false
  | .nilIface, .nilIface => guardB c (onD C t isIfaceD true)
  | .nilIface, .iface _ _ => onD C t isIfaceD false
  | .iface _ _, .nilIface => onD C t isIfaceD false
  | .agg xs, .agg ys => guardB (C.eqOk t && (C.like t xs.toList && likeAll xs.toList ys.toList)) (cellsEq xs.toList ys.toList)
  | _, _ => none
noncomputable def boolV (b : Bool) : Option Value := some (.bool b)
noncomputable def notV (b : Bool) : Option Value := some (.bool (!b))
noncomputable def aBinElse (C : Ctx) (op : BinOp) (t : TypeId) (c : Bool) (x y : Value) : Option Value :=
  match op with
  | .eql => obind (aEq C t c x y) boolV
  | .neq => obind (aEq C t c x y) notV
  | _ => none
noncomputable def aBinInts (C : Ctx) (op : BinOp) (k : IntKind) (a : Int) (k' : IntKind) (b : Int) : Option Value :=
  match op with
  | .shl => pureInt C.P (Op.shift .shl k a k' b)
  | .shr => pureInt C.P (Op.shift .shr k a k' b)
  | op => if k = k' then aBinInt C.P op k a b else none
noncomputable def aBin (C : Ctx) (op : BinOp) (t : TypeId) (c : Bool) : Value → Value → Option Value
  | .int k a, .int k' b => aBinInts C op k a k' b
  | .string a, .string b => aBinStr op a b
  | x, y => aBinElse C op t c x y
noncomputable def aUn (P : Program) (op : UnOp) (x : Value) : Option Value :=
  match op, x with
  | .not, .bool b => some (.bool (!b))
  | .neg, .int k n => some (mkInt k (0 - n))
  | op, .int k n => pureInt P (Op.unary op (.int k n))
  | _, _ => none
noncomputable def methodFor (m : Method) (d : TypeDesc) : Option FuncId :=
  match m.path.toList, m.func with
  | [], some (f, b) => guardB (b == isPtrD d) (some f)
  | _, _ => none
noncomputable def findMethod (C : Ctx) (t : TypeId) (name : String) : Option FuncId :=
  obind (C.T.get t) fun i => obind (i.methods.toList.find? (fun m => m.name == name)) fun m => obind (C.und t) fun d => methodFor m d
inductive EV where
  | val (v : Value)
  | new (o : AObj) (mk : Nat → Value)
noncomputable def ptrTo (i : Nat) : Value := .pointer (some ⟨i, 0, none⟩)
noncomputable def sliceTo (s n c : Nat) (i : Nat) : Value := .slice (some ⟨i, 0, some s⟩) n c
noncomputable def mapTo (i : Nat) : Value := .map (some i)
noncomputable def asVal (v : Value) : Option EV := some (.val v)
noncomputable def isConstO : Operand → Bool
  | .const _ => true
  | _ => false
noncomputable def natIn (lo hi : Nat) (i : Int) : Option Nat :=
  match i with
  | .ofNat n => guardB (Nat.ble lo n && Nat.ble n hi) (some n)
  | _ => none
noncomputable def bound? (hi d : Nat) : Option Value → Option Nat
  | none => some d
  | some (.int _ i) => natIn 0 hi i
  | _ => none
noncomputable def sliceStr (s : List UInt8) (lo hi : Option Value) : Option Value :=
  obind (bound? s.length s.length hi) fun b => obind (bound? b 0 lo) fun a => some (mkStr ((s.drop a).take (b - a)))
noncomputable def keepSpot (n : Nat) : Option Nat → Option Nat
  | some s => match Nat.beq s n with
    | true => some s
    | false => none
  | none => none
noncomputable def shiftAddr (a n : Nat) : Option Addr → Option Addr
  | none => none
  | some x => match x.block with
    | 0 => some ⟨0, 0, none⟩
    | r + 1 => some ⟨r + 1, x.off + a * n, keepSpot n x.spot⟩
noncomputable def sliceSl (n : Nat) (p : Option Addr) (len cap : Nat) (lo hi : Option Value) : Option Value :=
  guardB (Nat.ble len cap) (obind (bound? (match hi with | none => len | some _ => cap) len hi) fun b => obind (bound? b 0 lo) fun a =>
    some (.slice (shiftAddr a n p) (b - a) (cap - a)))
noncomputable def isZeroBlock : Option Addr → Bool
  | some x => Nat.beq x.block 0
  | none => false
noncomputable def slice3At (n : Nat) (p : Option Addr) (a b m : Nat) : Option Value :=
  match p with
  | none => some (.slice none (b - a) (m - a))
  | some x => match Nat.beq m a with
    | true => some (.slice (some ⟨0, 0, none⟩) 0 0)
    | false => guardB (!(isZeroBlock (some x))) (some (.slice (some ⟨x.block, x.off + a * n, keepSpot n x.spot⟩) (b - a) (m - a)))
noncomputable def sliceSl3 (n : Nat) (p : Option Addr) (len cap : Nat) (lo hi : Option Value) (mx : Value) : Option Value :=
  obind (bound? cap cap (some mx)) fun m => obind hi fun hi => obind (bound? m len (some hi)) fun b => obind (bound? b 0 lo) fun a => slice3At n p a b m
noncomputable def sliceArr (n s : Nat) (x : Addr) (lo hi : Option Value) : Option Value :=
  obind (bound? n n hi) fun b => obind (bound? b 0 lo) fun a => guardB (!(Nat.beq n a)) (some (.slice (some ⟨x.block, x.off + a * s, none⟩) (b - a) (n - a)))
noncomputable def sliceIn (C : Ctx) (x : Value) (lo hi mx : Option Value) : TypeDesc → Option Value
  | .string => match x, mx with
    | .string s, none => sliceStr s.data.toList lo hi
    | _, _ => none
  | .slice e => match x, mx with
    | .slice p len cap, none => obind (C.size e) fun n => sliceSl n p len cap lo hi
    | .slice p len cap, some m => obind (C.size e) fun n => sliceSl3 n p len cap lo hi m
    | _, _ => none
  | .array n e => match mx with
    | none => obind (ptrOf x) fun a => obind (C.size e) fun s => sliceArr n s a lo hi
    | some _ => none
  | _ => none
noncomputable def aSlice (C : Ctx) (t : TypeId) (x : Value) (lo hi mx : Option Value) : Option Value := obind (C.und t) (sliceIn C x lo hi mx)
noncomputable def natBelow (len : Nat) (i : Int) : Option Nat :=
  match i with
  | .ofNat n => guardB (Nat.ble (n + 1) len) (some n)
  | _ => none
noncomputable def intOfV : Value → Option Int
  | .int _ i => some i
  | _ => none
noncomputable def addrAt (x : Addr) (i n : Nat) : Value := .pointer (some ⟨x.block, x.off + i * n, none⟩)
noncomputable def indexAddrIn (C : Ctx) (x : Value) (i : Int) : TypeDesc → Option Value
  | .slice e => match x with
    | .slice (some a) len _ => obind (natBelow len i) fun j => obind (C.size e) fun n => some (addrAt a j n)
    | _ => none
  | .array len e => obind (ptrOf x) fun a => obind (natBelow len i) fun j => obind (C.size e) fun n => some (addrAt a j n)
  | _ => none
noncomputable def aIndexAddr (C : Ctx) (t : TypeId) (x ix : Value) : Option Value := obind (intOfV ix) fun i => obind (C.und t) (indexAddrIn C x i)
noncomputable def indexIn (C : Ctx) (x : Value) (i : Int) : TypeDesc → Option Value
  | .array len e => match x with
    | .agg cs => obind (natBelow len i) fun j => obind (C.size e) fun n => partOf C e cs.toList (j * n)
    | _ => none
  | .string => match x with
    | .string s => obind (natBelow s.data.toList.length i) fun j => obind (lget s.data.toList j) fun b => some (.int .u8 b.toNat)
    | _ => none
  | _ => none
noncomputable def aIndex (C : Ctx) (t : TypeId) (x ix : Value) : Option Value := obind (intOfV ix) fun i => obind (C.und t) (indexIn C x i)
noncomputable def sliceCells (h : Heap) (s n : Nat) : Value → Option (List Value)
  | .slice (some a) _ _ => match n with
    | 0 => some []
    | n + 1 => obind (rowAt h a.block) fun cells => take? cells a.off ((n + 1) * s)
  | .slice none _ _ => match n with
    | 0 => some []
    | _ + 1 => none
  | .string b => some ((b.data.toList.take n).map fun x => .int .u8 x.toNat)
  | _ => none
noncomputable def byteOf : Value → Option UInt8
  | .int .u8 n => some (UInt8.ofNat n.toNat)
  | _ => none
noncomputable def bytesOf (l : List Value) : Option (List UInt8) :=
  lrec (some []) (fun v _ ih => obind (byteOf v) fun b => obind ih fun t => some (b :: t)) l
noncomputable def isU8 : TypeDesc → Bool
  | .int .u8 => true
  | _ => false
noncomputable def byteCells (l : List UInt8) : List Value := l.map fun b => .int .u8 b.toNat
noncomputable def convInt (C : Ctx) (src dst : TypeId) (k : IntKind) (n : Int) : TypeDesc → Option EV
  | .int k' => some (.val (mkInt k' n))
  | .string => obind (pureStr C.P (convert src dst (.int k n))) asVal
  | _ => none
noncomputable def convStr (C : Ctx) (s : ByteArray) : TypeDesc → TypeDesc → Option EV
  | _, .string => some (.val (.string s))
  | .string, .slice e => obind (C.und e) fun d => guardB (isU8 d) (some (.new (.row (byteCells s.data.toList) 1 true) (sliceTo 1 s.data.toList.length s.data.toList.length)))
  | _, _ => none
noncomputable def convSl (C : Ctx) (x : Value) (n : Nat) (h : Heap) : TypeDesc → TypeDesc → Option EV
  | .slice e, .string => obind (C.und e) fun d => guardB (isU8 d) (obind (sliceCells h 1 n x) fun l => obind (bytesOf l) fun b => some (.val (mkStr b)))
  | _, _ => none
noncomputable def aConvert (C : Ctx) (src dst : TypeId) (x : Value) (h : Heap) : Option EV :=
  obind (C.und src) fun ds => obind (C.und dst) fun dd => match x with
    | .int k n => convInt C src dst k n dd
    | .string s => convStr C s ds dd
    | .slice _ n _ => convSl C x n h ds dd
    | _ => none
noncomputable def keyEq : Value → Value → Option Bool
  | .agg xs, .agg ys => guardB (likeAll xs.toList ys.toList) (cellsEq xs.toList ys.toList)
  | v, w => cellEq v w
noncomputable def aFind (k : Value) (es : List MapEntry) : Nat → Option (Option (Nat × Value)) :=
  lrec (fun _ => some none) (fun e _ ih i => match keyEq k e.key with
    | some true => some (some (i, e.val))
    | some false => ih (i + 1)
    | none => none) es
noncomputable def structKey (n : Option Nat) : Value → Bool
  | .agg cs => cs.toList.all basic && (match n with | some n => Nat.beq cs.toList.length n | none => false)
  | _ => false
noncomputable def likeKey (C : Ctx) (t : TypeId) : Value → Bool
  | .agg cs => C.like t cs.toList
  | _ => false
noncomputable def keyIn (C : Ctx) (t : TypeId) (k : Value) : TypeDesc → Bool
  | .int _ => (intOfV k).isSome
  | .string => match k with | .string _ => true | _ => false
  | .bool => match k with | .bool _ => true | _ => false
  | .struct _ => C.eqOk t && (likeKey C t k && structKey (C.size t) k)
  | .array _ _ => C.eqOk t && (likeKey C t k && structKey (C.size t) k)
  | _ => false
noncomputable def keyFits (C : Ctx) (t : TypeId) (k : Value) : Bool := match C.und t with | some d => keyIn C t k d | none => false
noncomputable def mapTypes : TypeDesc → Option (TypeId × TypeId)
  | .map k e => some (k, e)
  | _ => none
noncomputable def entriesOf (h : Heap) : Value → Option (List MapEntry)
  | .map none => some []
  | .map (some r) => obind (obind (h.get r) mapOf) fun m => some m.1
  | _ => none
noncomputable def found (z : Value) (ok : Bool) : Option (Nat × Value) → Option Value
  | some p => match ok with | true => some (mkTup [p.2, .bool true]) | false => some p.2
  | none => match ok with | true => some (mkTup [z, .bool false]) | false => some z
noncomputable def aLookup (C : Ctx) (t : TypeId) (m k : Value) (ok : Bool) (h : Heap) : Option Value :=
  obind (C.und t) fun d => obind (mapTypes d) fun q => guardB (keyFits C q.1 k) (obind (C.zero q.2) fun z => obind (entriesOf h m) fun es => obind (aFind k es 0) (found z ok))
noncomputable def assertOn (t : TypeId) (z : Value) (ok : Bool) : Value → Option Value
  | .nilIface => guardB ok (some (mkTup [z, .bool false]))
  | .iface u v => match Nat.beq u t with
    | true => match ok with | true => some (mkTup [v, .bool true]) | false => some v
    | false => guardB ok (some (mkTup [z, .bool false]))
  | _ => none
noncomputable def aTypeAssert (C : Ctx) (x : Value) (t : TypeId) (ok : Bool) : Option Value :=
  obind (C.und t) fun d => guardB (!(isIfaceD d)) (obind (C.zero t) fun z => assertOn t z ok x)
noncomputable def lenIn (x : Value) (h : Heap) : TypeDesc → Option Value
  | .string => match x with | .string s => some (.int .i64 s.data.toList.length) | _ => none
  | .array n _ => some (.int .i64 n)
  | .slice _ => match x with | .slice _ n _ => some (.int .i64 n) | _ => none
  | .map _ _ => obind (entriesOf h x) fun es => some (.int .i64 es.length)
  | _ => none
noncomputable def aLen (C : Ctx) (t : TypeId) (x : Value) (h : Heap) : Option Value := obind (C.und t) (lenIn x h)
noncomputable def min2 : Value → Value → Option Value
  | .int k x, .int _ y => some (.int k (if y < x then y else x))
  | _, _ => none
noncomputable def max2 : Value → Value → Option Value
  | .int k x, .int _ y => some (.int k (if x < y then y else x))
  | _, _ => none
noncomputable def foldV (f : Value → Value → Option Value) (l : List Value) : Value → Option Value :=
  lrec (fun x => some x) (fun y _ ih x => obind (f x y) ih) l
noncomputable def aPick (a b : Value) : Value → Option EV
  | .bool true => asVal a
  | .bool false => asVal b
  | _ => none
noncomputable def sliceElem : TypeDesc → Option TypeId
  | .slice e => some e
  | _ => none
noncomputable def aBuildSlice (C : Ctx) (t : TypeId) (n : Nat) (parts : List (Nat × Value)) : Option EV :=
  obind (C.und t) fun d => obind (sliceElem d) fun e => obind (zeroRow C e n) fun z => guardB (Nat.ble (n * z.2) 16777216)
    (obind (fillWith (rowPlace z.2) parts z.1) fun l => some (.new (.row l z.2 true) (sliceTo z.2 n n)))
noncomputable def nilIface1 (C : Ctx) (name : String) (v : Value) : List Value → Option EV
  | .iface t _ :: _ => obind (findMethod C t name) fun _ => asVal v
  | _ => none
noncomputable def nilFn (C : Ctx) (v : Value) (first : List Value) : Fn → Option EV
  | .func _ => asVal v
  | .yield _ => asVal v
  | .method name => nilIface1 C name v first
  | _ => none
noncomputable def aNilCheck (C : Ctx) (v : Value) : Option EV :=
  match v with
  | .pointer (some _) => asVal v
  | .func fn first _ => nilFn C v first.toList fn
  | .iface _ _ => asVal v
  | _ => none
noncomputable def aMakeIface (C : Ctx) (t : TypeId) (x : Value) : Option EV := obind (C.und t) fun d => guardB (!(isIfaceD d)) (asVal (.iface t x))
noncomputable def makeAt (C : Ctx) (e : TypeId) (l c : Nat) : Option EV :=
  obind (zeroRow C e c) fun z => obind (C.T.get e) fun i => guardB (Nat.ble l c && Nat.ble c 4611686018427387904 && Nat.ble (c * i.bytes) 70368744177664)
    (some (.new (.row z.1 z.2 true) (sliceTo z.2 l c)))
noncomputable def natOfV : Value → Option Nat
  | .int .i64 (.ofNat n) => some n
  | _ => none
noncomputable def aMakeSlice (C : Ctx) (t : TypeId) (l c : Value) : Option EV :=
  obind (C.und t) fun d => obind (sliceElem d) fun e => obind (natOfV l) fun l => obind (natOfV c) fun c => makeAt C e l c
noncomputable def aFieldAddr (C : Ctx) (t : TypeId) (x : Value) (i : Nat) : Option EV :=
  obind (C.fieldAt t i) fun q => obind (ptrOf x) fun a => guardB (!(Nat.beq q.2.2 0)) (asVal (.pointer (some ⟨a.block, a.off + q.1, none⟩)))
noncomputable def aggOf : Value → Option (List Value)
  | .agg cs => some cs.toList
  | _ => none
noncomputable def aField (C : Ctx) (t : TypeId) (x : Value) (i : Nat) : Option EV :=
  obind (C.fieldAt t i) fun q => obind (aggOf x) fun cs => obind (partOf C q.2.1 cs q.1) asVal
noncomputable def tupOf : Value → Option (List Value)
  | .tuple vs => some vs.toList
  | _ => none
noncomputable def aExtract (x : Value) (i : Nat) : Option EV := obind (tupOf x) fun vs => obind (vs[i]?) asVal
noncomputable def earlyCall (C : Ctx) (ρ : Operand → Value) (h : Heap) (ts : List TypeId) (xs : List Operand) : Builtin → Option EV
  | .len => match ts, xs with
    | t :: _, x :: _ => obind (aLen C t (ρ x) h) asVal
    | _, _ => none
  | .min => match xs with
    | x :: xs => obind (foldV min2 (xs.map ρ) (ρ x)) asVal
    | [] => none
  | .max => match xs with
    | x :: xs => obind (foldV max2 (xs.map ρ) (ρ x)) asVal
    | [] => none
  | _ => none
noncomputable def partsOf (ρ : Operand → Value) (ps : Array (Nat × Operand)) : List (Nat × Value) := ps.toList.map fun p => (p.1, ρ p.2)
noncomputable def aAlloc (C : Ctx) (t : TypeId) : Option EV := obind (C.zero t) fun z => some (.new (.row (cellsOf z) 0 true) ptrTo)
noncomputable def aBox (v : Value) : Option EV := some (.new (.row (cellsOf v) 0 true) ptrTo)
noncomputable def fnPlain : Fn → Bool
  | .func _ => true
  | .method _ => true
  | _ => false
noncomputable def aMakeFunc (ρ : Operand → Value) (fn : Fn) (first cap : Array Operand) : Option EV := guardB (fnPlain fn) (asVal (.func fn ⟨first.toList.map ρ⟩ ⟨cap.toList.map ρ⟩))
noncomputable def aMakeMap : Option Operand → Option EV
  | none => some (.new (.map [] 0) mapTo)
  | some _ => none
noncomputable def earlyVal (C : Ctx) (ρ : Operand → Value) (h : Heap) (op : Op) : Option EV :=
  match op with
  | .move x => asVal (ρ x)
  | .assign x => asVal (ρ x)
  | .pick c a b => aPick (ρ a) (ρ b) (ρ c)
  | .alloc t => aAlloc C t
  | .box _ x => aBox (ρ x)
  | .build t parts => obind (aBuild C t (partsOf ρ parts)) asVal
  | .buildSlice t n parts => aBuildSlice C t n (partsOf ρ parts)
  | .load t a => obind (aLoad C t (ρ a) h) asVal
  | .nilCheck x => aNilCheck C (ρ x)
  | .binOp op t x y _ => obind (aBin C op t (isConstO x || isConstO y) (ρ x) (ρ y)) asVal
  | .unOp op _ x => obind (aUn C.P op (ρ x)) asVal
  | .convert s d x => aConvert C s d (ρ x) h
  | .makeInterface t x => aMakeIface C t (ρ x)
  | .makeFunc fn first cap => aMakeFunc ρ fn first cap
  | .makeMap _ r => aMakeMap r
  | .makeSlice t l c => aMakeSlice C t (ρ l) (ρ c)
  | .slice t x lo hi mx => obind (aSlice C t (ρ x) (lo.map ρ) (hi.map ρ) (mx.map ρ)) asVal
  | .fieldAddr t x i => aFieldAddr C t (ρ x) i
  | .field t x i => aField C t (ρ x) i
  | .indexAddr t x ix => obind (aIndexAddr C t (ρ x) (ρ ix)) asVal
  | .index t x ix => obind (aIndex C t (ρ x) (ρ ix)) asVal
  | .lookup t m k ok => obind (aLookup C t (ρ m) (ρ k) ok h) asVal
  | .typeAssert x _ t ok => obind (aTypeAssert C (ρ x) t ok) asVal
  | .extract x i => aExtract (ρ x) i
  | .call c => match c.callee with
    | .builtin b => earlyCall C ρ h c.argTypes.toList c.args.toList b
    | _ => none
  | _ => none
noncomputable def effB : Builtin → Bool
  | .len => false
  | .min => false
  | .max => false
  | _ => true
noncomputable def effC : Callee → Bool
  | .builtin b => effB b
  | _ => true
noncomputable def isEff : Op → Bool
  | .call c => effC c.callee
  | .store _ _ _ => true
  | .mapUpdate _ _ _ _ => true
  | .insert _ _ _ _ => true
  | .range _ _ => true
  | .next _ _ => true
  | .defer _ => true
  | .panic _ => true
  | _ => false
noncomputable def lenOfV : Value → Option Nat
  | .slice _ n _ => some n
  | .string b => some b.data.toList.length
  | _ => none
noncomputable def sliceOf : Value → Option (Option Addr × Nat × Nat)
  | .slice p n c => some (p, n, c)
  | _ => none
noncomputable def listy : TypeDesc → Bool
  | .slice _ => true
  | .string => true
  | _ => false
noncomputable def growRow (h : Heap) (s len : Nat) (new : List Value) (a : Addr) : Option Heap :=
  obind (obind (h.get a.block) ownRowOf) fun r => guardB (Nat.beq r.2 s) (obind (take? r.1 a.off (len * s)) fun old => some ((h.set a.block .dead).alloc (.row (old ++ new) s true)))
noncomputable def spotIs (s : Nat) : Option Nat → Bool
  | some t => Nat.beq t s
  | none => false
noncomputable def growTo (h : Heap) (s len : Nat) (new : List Value) : Option Addr → Option Heap
  | none => some (h.alloc (.row new s true))
  | some a => match a.block with
    | 0 => some (h.alloc (.row new s true))
    | _ + 1 => guardB (spotIs s a.spot) (growRow h s len new a)
noncomputable def nilOk (p : Option Addr) (len cap : Nat) : Bool :=
  match p with
  | none => Nat.beq len 0 && Nat.beq cap 0
  | some _ => true
noncomputable def appendAt (i : TypeInfo) (p : Option Addr) (len cap : Nat) (x : Value) (n : Nat) (h : Heap) : Option (Value × Heap) :=
  guardB (nilOk p len cap) <| match n with
  | 0 => some (.slice p len cap, h)
  | m + 1 => guardB (Nat.ble ((len + (m + 1)) * i.bytes) 35184372088832 && Nat.ble (len + (m + 1)) 35184372088832)
      (obind (sliceCells h i.size (m + 1) x) fun new => guardB (allOne new) <| guardB (Nat.beq new.length ((m + 1) * i.size)) <| obind (growTo h i.size len new p) fun h' => some (sliceTo i.size (len + (m + 1)) (len + (m + 1)) h.next, h'))
noncomputable def zeroFits (n : Nat) : Option Value → Bool
  | some z => Nat.beq (cellsOf z).length n
  | none => false
noncomputable def aAppend (C : Ctx) (ts : List TypeId) (s x : Value) (h : Heap) : Option (Value × Heap) :=
  match ts with
  | t :: u :: _ => obind (C.und t) fun d => obind (sliceElem d) fun e => obind (C.T.get e) fun i => obind (C.und u) fun du => guardB (listy du && zeroFits i.size (C.zero e))
      (obind (sliceOf s) fun q => obind (lenOfV x) fun n => appendAt i q.1 q.2.1 q.2.2 x n h)
  | _ => none
noncomputable def copyTo (h : Heap) (n : Nat) (new : List Value) (p : Option Addr) : Option (Value × Heap) :=
  match new with
  | [] => some (.int .i64 n, h)
  | v :: vs => obind p fun a => guardB (allOne (v :: vs)) <| obind (obind (h.get a.block) ownRowOf) fun r => obind (write? r.1 a.off new) fun l => some (.int .i64 n, h.set a.block (.row l r.2 true))
noncomputable def aCopy (C : Ctx) (ts : List TypeId) (d x : Value) (h : Heap) : Option (Value × Heap) :=
  match ts with
  | t :: _ => obind (C.und t) fun dd => obind (sliceElem dd) fun e => obind (C.size e) fun s => obind (sliceOf d) fun q => obind (lenOfV x) fun m =>
      obind (sliceCells h s (Nat.min m q.2.1) x) fun new => copyTo h (Nat.min m q.2.1) new q.1
  | _ => none
noncomputable def mapAt (h : Heap) : Value → Option (Nat × List MapEntry × Nat)
  | .map (some r) => obind (obind (h.get r) mapOf) fun m => some (r, m)
  | _ => none
noncomputable def setEntry (es : List MapEntry) (k v : Value) : Nat → List MapEntry :=
  lrec (fun _ => []) (fun e t ih i => match i with | 0 => { key := k, val := v, born := e.born } :: t | j + 1 => e :: ih j) es
noncomputable def putEntry (h : Heap) (r : Nat) (es : List MapEntry) (c : Nat) (k v : Value) : Option (Nat × Value) → Option Heap
  | some p => some (h.set r (.map (setEntry es k v p.1) c))
  | none => some (h.set r (.map (es ++ [{ key := k, val := v, born := c }]) (c + 1)))
noncomputable def aMapUpdate (C : Ctx) (t : TypeId) (m k v : Value) (h : Heap) : Option Heap :=
  obind (C.und t) fun d => obind (mapTypes d) fun q => guardB (keyFits C q.1 k) (obind (mapAt h m) fun x => obind (aFind k x.2.1 0) (putEntry h x.1 x.2.1 x.2.2 k v))
noncomputable def dropEntry (h : Heap) (r : Nat) (es : List MapEntry) (c : Nat) : Option (Nat × Value) → Option Heap
  | some p => some (h.set r (.map (es.eraseIdx p.1) c))
  | none => some (h.set r (.map es c))
noncomputable def aDelete (C : Ctx) (t : TypeId) (m k : Value) (h : Heap) : Option Heap :=
  obind (C.und t) fun d => obind (mapTypes d) fun q => guardB (keyFits C q.1 k) (obind (mapAt h m) fun x => obind (aFind k x.2.1 0) (dropEntry h x.1 x.2.1 x.2.2))
noncomputable def nextIn (h : Heap) (b : Nat) (s : ByteArray) (pos : Nat) (more : Bool) : Option (Value × Heap) :=
  match more with
  | true => some (mkTup [.bool true, .int .i64 pos, .int .i32 (Utf8.decode s pos).1], h.set b (.iter s (pos + (Utf8.decode s pos).2)))
  | false => some (mkTup [.bool false], h)
noncomputable def aNext (v : Value) (h : Heap) : Option (Value × Heap) :=
  obind (ptrOf v) fun a => guardB (Nat.beq a.off 0) <| obind (obind (h.get a.block) iterOf) fun q => nextIn h a.block q.1 q.2 (Nat.ble (q.2 + 1) q.1.data.toList.length)
structure FrS where
  tmps : List (List Value)
  defers : List Deferred
  pan : Option Value
noncomputable def FrS.put (s : FrS) (d : Option Tmp) (v : Value) : FrS :=
  match d with
  | some d => ⟨tset s.tmps d v, s.defers, s.pan⟩
  | none => s
inductive FEnd where
  | ended (jump : Option Code)
  | panic (v : Value)
abbrev Fin := Option (FEnd × FrS × Heap)
abbrev Self := Option Nat → List Item → FrS → Heap → Fin
noncomputable def readResult (C : Ctx) (τ : List (List Value)) (h : Heap) : ResultVar → Option Value
  | .tmp t => some (tget τ t)
  | .cell a t => aLoad C t (tget τ a) h
noncomputable def readResults (C : Ctx) (τ : List (List Value)) (h : Heap) (l : List ResultVar) : Option (List Value) :=
  lrec (some []) (fun r _ ih => obind (readResult C τ h r) fun v => obind ih fun l => some (v :: l)) l
noncomputable def packResults : List Value → Value
  | [v] => v
  | vs => mkTup vs
section
variable (C : Ctx) (self : Self)
noncomputable def bodyOf (fn : Func) (args : List Value) (pan : Option Value) (h : Heap) : Fin :=
  obind fn.body fun c => self none [.code c] ⟨mkTmps (args ++ List.replicate (fn.ntmps - args.length) undef), [], pan⟩ h
noncomputable def endCall (fn : Func) (m : Option Value) (s : FrS) (h : Heap) : Option FRes :=
  match m with
  | some v => some (.panic v h)
  | none => obind (readResults C s.tmps h fn.results.toList) fun vs => some (.ret (packResults vs) h s.pan)
noncomputable def endMode : FEnd → Option (Option Value)
  | .ended none => some none
  | .ended (some .ret) => some none
  | .panic v => some (some v)
  | _ => none
noncomputable def noDefers : List Deferred → Bool
  | [] => true
  | _ :: _ => false
noncomputable def callPlain (f : FuncId) (args : List Value) (h : Heap) (pan : Option Value) : Option FRes :=
  obind (C.F.get f) fun fn => obind (bodyOf self fn args pan h) fun r => guardB (noDefers r.2.1.defers) (obind (endMode r.1) fun m => endCall C fn m r.2.1 r.2.2)
noncomputable def isDeferred : AObj → Bool
  | .deferred b => b
  | _ => false
noncomputable def retOf : FRes → Option (Option Value × Heap)
  | .ret _ h m => some (m, h)
  | .panic _ _ => none
noncomputable def runDefer1 (d : Deferred) (m : Option Value) (h : Heap) : Option (Option Value × Heap) :=
  match d.target with
  | .collected b => obind (h.get b) fun o => guardB (isDeferred o) (some (m, h.set b (.deferred false)))
  | .fn (.func g) cap => match C.A g with
    | some _ => none
    | none => obind (callPlain C self g (d.args.toList ++ cap.toList) h m) retOf
  | _ => none
noncomputable def runDefers (ds : List Deferred) : Option Value → Heap → Option (Option Value × Heap) :=
  lrec (fun m h => some (m, h)) (fun d _ ih m h => obind (runDefer1 C self d m h) fun q => ih q.1 q.2) ds
noncomputable def callBody (fn : Func) (args : List Value) (h : Heap) : Option FRes :=
  obind (bodyOf self fn args none h) fun r => obind (endMode r.1) fun m => obind (runDefers C self r.2.1.defers m r.2.2) fun q => endCall C fn q.1 r.2.1 q.2
noncomputable def callF (f : FuncId) (args : List Value) (h : Heap) : Option FRes :=
  match C.A f with
  | some sp => sp args h
  | none => obind (C.F.get f) fun fn => callBody C self fn args h
noncomputable def callM (recv : Value) (name : String) (args : List Value) (h : Heap) : Option FRes :=
  match recv with
  | .iface t v => obind (findMethod C t name) fun f => callF C self f (v :: args) h
  | _ => none
noncomputable def setAll (ts : List Tmp) : List Value → List (List Value) → List (List Value) :=
  lrec (fun _ τ => τ) (fun t _ ih vs τ => match vs with | [] => τ | v :: vs => ih vs (tset τ t v)) ts
noncomputable def stateBehind : Option Code → LoopState
  | none => .ready
  | some _ => .done
noncomputable def ALoop.turn (r : ALoop) (st : LoopState) (p : Option Code) : ALoop := ⟨st, p, r.fn, r.tmps, r.params, r.assign, r.body, r.defers⟩
noncomputable def jumpOf : FEnd → Option (Option Code)
  | .ended j => some j
  | .panic _ => none
noncomputable def yieldEnd (l : Nat) (r : FEnd × FrS × Heap) : Option FRes :=
  obind (jumpOf r.1) fun j => guardB (noDefers r.2.1.defers) (obind (obind (r.2.2.get l) loopOf) fun x =>
    some (.ret (.bool j.isNone) (r.2.2.set l (.loop (x.turn (stateBehind j) j))) none))
noncomputable def yieldTo (l : Nat) (args : List Value) (h : Heap) : Option FRes :=
  obind (obind (h.get l) loopOf) fun r => guardB (Nat.beq args.length r.params.length)
    (obind (self (some l) [.code r.assign, .beginRound, .code r.body] ⟨setAll r.params args r.tmps, [], none⟩ h) (yieldEnd l))
noncomputable def applyFn (fn : Fn) (cap args : List Value) (h : Heap) : Option FRes :=
  match fn with
  | .func f => callF C self f (args ++ cap) h
  | .method name => match args with
    | recv :: rest => callM C self recv name rest h
    | [] => none
  | .yield l => yieldTo self l args h
  | _ => none
inductive ORes where
  | ok (s : FrS) (h : Heap)
  | panic (v : Value) (s : FrS) (h : Heap)
noncomputable def ofRes (s : FrS) (dst : Option Tmp) : FRes → Option ORes
  | .ret v h _ => some (.ok (s.put dst v) h)
  | .panic v h => some (.panic v s h)
noncomputable def ofVal (s : FrS) (dst : Option Tmp) (q : Value × Heap) : Option ORes := some (.ok (s.put dst q.1) q.2)
noncomputable def ofHeap (s : FrS) (dst : Option Tmp) (h : Heap) : Option ORes := some (.ok (s.put dst undef) h)
noncomputable def callVal (dst : Option Tmp) (args : List Value) (s : FrS) (h : Heap) : Value → Option ORes
  | .func fn first cap => obind (applyFn C self fn cap.toList (first.toList ++ args) h) (ofRes s dst)
  | _ => none
noncomputable def recoverOp (rd : Option Nat) (dst : Option Tmp) (s : FrS) (h : Heap) : Option ORes :=
  match rd with
  | some _ => none
  | none => match s.pan with
    | some v => some (.ok ⟨(s.put dst v).tmps, s.defers, none⟩ h)
    | none => some (.ok (s.put dst .nilIface) h)
noncomputable def callBuiltin (rd : Option Nat) (dst : Option Tmp) (ts : List TypeId) (xs : List Value) (s : FrS) (h : Heap) : Builtin → Option ORes
  | .append => match xs with
    | x :: y :: _ => obind (aAppend C ts x y h) (ofVal s dst)
    | _ => none
  | .copy => match xs with
    | x :: y :: _ => obind (aCopy C ts x y h) (ofVal s dst)
    | _ => none
  | .delete => match ts, xs with
    | t :: _, x :: y :: _ => obind (aDelete C t x y h) fun h => some (.ok (s.put dst (mkTup [])) h)
    | _, _ => none
  | .recover => recoverOp rd dst s h
  | _ => none
noncomputable def callOp (rd : Option Nat) (dst : Option Tmp) (c : Call) (s : FrS) (h : Heap) : Option ORes :=
  match c.callee with
  | .value f => callVal C self dst (c.args.toList.map (ev s.tmps)) s h (ev s.tmps f)
  | .invoke r name => obind (callM C self (ev s.tmps r) name (c.args.toList.map (ev s.tmps)) h) (ofRes s dst)
  | .builtin b => callBuiltin C rd dst c.argTypes.toList (c.args.toList.map (ev s.tmps)) s h b
noncomputable def rangeOp (t : TypeId) (dst : Option Tmp) (s : FrS) (h : Heap) : Value → Option ORes
  | .string b => obind (C.und t) fun d => guardB (isStringD d) (some (.ok (s.put dst (ptrTo h.next)) (h.alloc (.iter b 0))))
  | _ => none
noncomputable def deferVal (dst : Option Tmp) (args : List Value) (s : FrS) (h : Heap) : Value → Option ORes
  | .func fn first cap => some (.ok (FrS.put ⟨s.tmps, { target := .fn fn cap, args := ⟨first.toList ++ args⟩ } :: s.defers, s.pan⟩ dst undef) h)
  | _ => none
noncomputable def deferOp (rd : Option Nat) (dst : Option Tmp) (c : Call) (s : FrS) (h : Heap) : Option ORes :=
  match rd, c.callee with
  | none, .value f => deferVal dst (c.args.toList.map (ev s.tmps)) s h (ev s.tmps f)
  | _, _ => none
noncomputable def panicOp (s : FrS) (h : Heap) : Value → Option ORes
  | .iface t v => some (.panic (.iface t v) s h)
  | _ => none
noncomputable def effOp (rd : Option Nat) (dst : Option Tmp) (s : FrS) (h : Heap) (op : Op) : Option ORes :=
  match op with
  | .call c => callOp C self rd dst c s h
  | .store t a v => obind (aStore C t (ev s.tmps a) (ev s.tmps v) h) (ofHeap s dst)
  | .mapUpdate t m k v => obind (aMapUpdate C t (ev s.tmps m) (ev s.tmps k) (ev s.tmps v) h) (ofHeap s dst)
  | .insert t m k v => obind (aMapUpdate C t (ev s.tmps m) (ev s.tmps k) (ev s.tmps v) h) (ofHeap s dst)
  | .range t x => rangeOp C t dst s h (ev s.tmps x)
  | .next it b => guardB b (obind (aNext (ev s.tmps it) h) (ofVal s dst))
  | .defer c => deferOp rd dst c s h
  | .panic x => panicOp s h (ev s.tmps x)
  | _ => none
noncomputable def freshAt : Option AObj → Bool
  | none => true
  | some _ => false
noncomputable def putEV (dst : Option Tmp) (s : FrS) (h : Heap) : EV → Option ORes
  | .val v => some (.ok (s.put dst v) h)
  | .new x mk => guardB (freshAt (h.get h.next)) (some (.ok (s.put dst (mk h.next)) (h.alloc x)))
noncomputable def doOp (rd : Option Nat) (o : Oper) (s : FrS) (h : Heap) : Option ORes :=
  match isEff o.op with
  | true => effOp C self rd o.dst s h o.op
  | false => obind (earlyVal C (ev s.tmps) h o.op) (putEV o.dst s h)
noncomputable def boolIs (want : Bool) : Value → Bool
  | .bool b => b == want
  | _ => false
noncomputable def wantedBy (ops : List Oper) (τ : List (List Value)) (j : Nat) (want : Bool) : Bool :=
  match obind (lget ops j) (fun g => g.dst) with
  | some t => boolIs want (tget τ t)
  | none => false
noncomputable def wantedA (ops : List Oper) (o : Oper) (τ : List (List Value)) : Bool :=
  match o.guard with
  | none => true
  | some q => wantedBy ops τ q.1 q.2
abbrev OK := FrS → Heap → Option ORes
noncomputable def thenOps (next : OK) : ORes → Option ORes
  | .ok s h => next s h
  | .panic v s h => some (.panic v s h)
noncomputable def runOp (rd : Option Nat) (ops : List Oper) (o : Oper) (next : OK) (s : FrS) (h : Heap) : Option ORes :=
  match wantedA ops o s.tmps with
  | true => obind (doOp C self rd o s h) (thenOps next)
  | false => next (s.put o.dst undef) h
noncomputable def runOps (rd : Option Nat) (ops : List Oper) (l : List Oper) : OK :=
  lrec (fun s h => some (.ok s h)) (fun o _ ih s h => runOp C self rd ops o ih s h) l
inductive PE where
  | ex (i : Nat) (o : Oper)
  | re (i : Nat) (o : Oper)
inductive Rec where
  | val (i : Nat) (τ : List (List Value)) (v : Value)
  | new (i : Nat) (id : Nat) (o : AObj)
noncomputable def Rec.idx : Rec → Nat
  | .val i _ _ => i
  | .new i _ _ => i
noncomputable def findRec (i : Nat) (l : List Rec) : Option Rec :=
  lrec none (fun r _ ih => match Nat.beq r.idx i with | true => some r | false => ih) l
noncomputable def sameEV (v : Value) : Option EV → Bool
  | some (.val v') => sameV v v'
  | _ => false
noncomputable def sameAt (x : AObj) : Option AObj → Bool
  | some y => sameO x y
  | none => false
noncomputable def recheckR (op : Op) (h : Heap) : Option Rec → Bool
  | some (.val _ τ v) => sameEV v (earlyVal C (ev τ) h op)
  | some (.new _ id x) => sameAt x (h.get id)
  | none => true
noncomputable def recEV (i : Nat) (τ : List (List Value)) (h : Heap) : EV → Rec
  | .val v => .val i τ v
  | .new x _ => .new i h.next x
abbrev PK := List Rec → FrS → Heap → Option ORes
noncomputable def ifBare (r : ORes) : List Deferred → Option ORes
  | [] => some r
  | _ :: _ => none
noncomputable def thenPlan (next : PK) (rs : List Rec) : ORes → Option ORes
  | .ok s h => next rs s h
  | .panic v s h => ifBare (.panic v s h) s.defers
noncomputable def exEarly (i : Nat) (dst : Option Tmp) (next : PK) (rs : List Rec) (s : FrS) (h : Heap) (e : EV) : Option ORes :=
  obind (putEV dst s h e) (thenPlan next (recEV i s.tmps h e :: rs))
noncomputable def exOp (rd : Option Nat) (i : Nat) (o : Oper) (next : PK) (rs : List Rec) (s : FrS) (h : Heap) : Option ORes :=
  match isEff o.op with
  | true => obind (effOp C self rd o.dst s h o.op) (thenPlan next rs)
  | false => obind (earlyVal C (ev s.tmps) h o.op) (exEarly i o.dst next rs s h)
noncomputable def exPE (rd : Option Nat) (ops : List Oper) (next : PK) (rs : List Rec) (s : FrS) (h : Heap) : PE → Option ORes
  | .ex i o => match wantedA ops o s.tmps with
    | true => exOp C self rd i o next rs s h
    | false => next rs (s.put o.dst undef) h
  | .re i o => guardB (recheckR C o.op h (findRec i rs)) (next rs s h)
noncomputable def runPlan (rd : Option Nat) (ops : List Oper) (l : List PE) : PK :=
  lrec (fun _ s h => some (.ok s h)) (fun e _ ih rs s h => exPE C self rd ops ih rs s h e) l
end
noncomputable def maskOf (acc : List Nat) (o : Oper) : Nat := o.after.toList.foldl (fun s e => if Region.binds .any e then s ||| 2 ^ e.on ||| acc.getD e.on 0 else s) 0
noncomputable def masks (ops : List Oper) : List Nat := ops.foldl (fun acc o => acc ++ [maskOf acc o]) []
noncomputable def heapBound : Op → Bool
  | .load _ _ => true
  | .alloc _ => true
  | .box _ _ => true
  | .buildSlice _ _ _ => true
  | .makeMap _ _ => true
  | .makeSlice _ _ _ => true
  | .convert _ _ _ => true
  | .lookup _ _ _ _ => true
  | .call _ => true
  | _ => false
noncomputable def effIdx (l : List (Oper × Nat)) : List Nat := (l.filter fun p => isEff p.1.op).map (·.2)
noncomputable def stageOf (ms : List Nat) (effs : List Nat) (i : Nat) : Nat := (effs.filter fun e => (ms.getD i 0).testBit e).length
noncomputable def readyAt (l : List (Oper × Nat)) (ms effs : List Nat) (k : Nat) : List PE :=
  (l.filter fun p => !(isEff p.1.op) && Nat.beq (stageOf ms effs p.2) k).map fun p => .ex p.2 p.1
noncomputable def recheckAt (l : List (Oper × Nat)) (ms effs : List Nat) (k e : Nat) : List PE :=
  (l.filter fun p => heapBound p.1.op && !(isEff p.1.op) && Nat.ble (stageOf ms effs p.2) k && !((ms.getD e 0).testBit p.2)).map fun p => .re p.2 p.1
noncomputable def planFrom (l : List (Oper × Nat)) (ms effs : List Nat) : Nat → List Nat → List PE
  | k, [] => readyAt l ms effs k
  | k, e :: rest => readyAt l ms effs k ++ (((l.filter fun p => Nat.beq p.2 e).map fun p => .ex p.2 p.1) ++ (recheckAt l ms effs k e ++ planFrom l ms effs (k + 1) rest))
noncomputable def planOf (ops : List Oper) : List PE := planFrom ops.zipIdx (masks ops) (effIdx ops.zipIdx) 0 (effIdx ops.zipIdx)
section
variable (C : Ctx) (self : Self)
noncomputable def loopRec (τ : List (List Value)) (params : List Tmp) (assign body : Code) (d : Nat) : ALoop := ⟨.ready, none, 0, τ, params, assign, body, d⟩
noncomputable def enterLoopA (rd : Option Nat) (τ : List (List Value)) (params : List Tmp) (assign body : Code) (h : Heap) : Option (Nat × List Deferred × Heap) :=
  match rd with
  | none => some (h.next + 1, [{ target := .collected h.next, args := ⟨[]⟩ }], (h.alloc (.deferred true)).alloc (.loop (loopRec τ params assign body h.next)))
  | some l => obind (obind (h.get l) loopOf) fun r => some (h.next, [], h.alloc (.loop (loopRec τ params assign body r.defers)))
noncomputable def stCond (rd : Option Nat) (t e : Code) (k : List Item) (s : FrS) (h : Heap) : Value → Fin
  | .bool true => self rd (.code t :: k) s h
  | .bool false => self rd (.code e :: k) s h
  | _ => none
noncomputable def stExit (rd : Option Nat) (id : Nat) (s : FrS) (h : Heap) : Option (List Item) → Fin
  | some k' => self rd k' s h
  | none => some (.ended (some (.exit id)), s, h)
noncomputable def afterOps (rd : Option Nat) (k : List Item) : ORes → Fin
  | .ok s h => self rd k s h
  | .panic v s h => some (.panic v, s, h)
noncomputable def stRegion (rd : Option Nat) (ops : List Oper) (k : List Item) (s : FrS) (h : Heap) : Bool → Fin
  | false => obind (runOps C self rd ops ops s h) (afterOps self rd k)
  | true => obind (runPlan C self rd ops (planOf ops) [] s h) (afterOps self rd k)
noncomputable def itemsOf (j : Option Code) (k : List Item) : List Item :=
  match j with
  | none => k
  | some c => .code c :: k
noncomputable def FrS.mark (s : FrS) (m : List Deferred) : FrS := ⟨s.tmps, m ++ s.defers, s.pan⟩
noncomputable def isBusy : LoopState → Bool
  | .busy => true
  | _ => false
noncomputable def endLoopA (rd : Option Nat) (k : List Item) (s : FrS) (l : Nat) (m : List Deferred) (h : Heap) : Fin :=
  obind (obind (h.get l) loopOf) fun r => guardB (!(isBusy r.state)) (self rd (itemsOf r.pending k) (s.mark m) (h.set l (.loop (r.turn .exhausted r.pending))))
noncomputable def afterRange (rd : Option Nat) (k : List Item) (s : FrS) (l : Nat) (m : List Deferred) : FRes → Fin
  | .ret _ h _ => endLoopA self rd k s l m h
  | .panic v h => some (.panic v, s.mark m, h)
noncomputable def stRange (rd : Option Nat) (params : List Tmp) (assign body : Code) (k : List Item) (s : FrS) (h : Heap) : Value → Fin
  | .func fn first cap => obind (enterLoopA rd s.tmps params assign body h) fun q =>
      obind (applyFn C self fn cap.toList (first.toList ++ [.func (.yield q.1) ⟨[]⟩ ⟨[]⟩]) q.2.2) (afterRange self rd k s q.1 q.2.1)
  | _ => none
noncomputable def stCode (rd : Option Nat) (k : List Item) (s : FrS) (h : Heap) (c : Code) : Fin :=
  match c with
  | .ret => some (.ended (some .ret), s, h)
  | .skip => self rd k s h
  | .label _ => self rd k s h
  | .seq a b => self rd (.code a :: .code b :: k) s h
  | .cond c t e => stCond self rd t e k s h (ev s.tmps c)
  | .block id body => self rd (.code body :: .inBlock id :: k) s h
  | .loop body => self rd (.code body :: .inLoop body :: k) s h
  | .scope body => self rd (.code body :: .inScope body :: k) s h
  | .exit id => stExit self rd id s h (exitTo id k)
  | .region _ ops draw => stRegion C self rd ops.toList k s h draw
  | .rangeFunc f params assign body => stRange C self rd params.toList assign body k s h (ev s.tmps f)
  | _ => none
noncomputable def isReady : LoopState → Bool
  | .ready => true
  | _ => false
noncomputable def stBegin (rd : Option Nat) (k : List Item) (s : FrS) (h : Heap) : Fin :=
  obind rd fun l => obind (obind (h.get l) loopOf) fun r => guardB (isReady r.state) (self rd k s (h.set l (.loop (r.turn .busy r.pending))))
noncomputable def stItem (rd : Option Nat) (k : List Item) (s : FrS) (h : Heap) (it : Item) : Fin :=
  match it with
  | .code c => stCode C self rd k s h c
  | .inBlock _ => self rd k s h
  | .inScope _ => self rd k s h
  | .inLoop body => self rd (.code body :: .inLoop body :: k) s h
  | .beginRound => stBegin self rd k s h
  | _ => none
noncomputable def step (rd : Option Nat) (k : List Item) (s : FrS) (h : Heap) : Fin :=
  match k with
  | [] => some (.ended none, s, h)
  | it :: k => stItem C self rd k s h it
end
noncomputable def run (C : Ctx) (n : Nat) : Self := nrec (fun _ _ _ _ => none) (fun _ ih => step C ih) n
end Go.Am
